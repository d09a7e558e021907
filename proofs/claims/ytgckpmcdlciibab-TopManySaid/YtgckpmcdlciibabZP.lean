/- Several texts in one: The program's data as plain Lean, and what its functions compute of them: no program in sight. Chapter 1 as plain Lean: what is wrong with schemas and things. Chapter 4 as plain Lean: what is wrong with picks. Plain functions of chapter 5: requests and replies. Plain functions of chapter 2: what is seen of a schema behind changes. Plain laws of chapter 5: how many values an answer has. -/
import Derived.WalkKit
namespace Go.Proofs.Ytgckpmcdlciibab

abbrev Str := ByteArray
structure Fld where
  name : Str
  kind : Int
  type : Str
  deriving DecidableEq, Inhabited
structure Typ where
  name : Str
  fields : List Fld
  deriving DecidableEq, Inhabited
structure Chg where
  kind : Int
  type : Str
  field : Str
  to : Str
  deriving DecidableEq, Inhabited
structure VVal where
  field : Str
  text : Str
  keys : List Str
  deriving DecidableEq, Inhabited
structure Thg where
  type : Str
  key : Str
  vals : List VVal
  deriving DecidableEq, Inhabited
structure Svc where
  types : List Typ
  changes : List Chg
  things : List Thg
  deriving DecidableEq, Inhabited
structure Sn where
  type : Typ
  own : Str
  fields : List Str
  deriving DecidableEq, Inhabited
structure Ownr where
  service : Int
  type : Str
  field : Str
  deriving DecidableEq, Inhabited
structure Prt where
  type : Typ
  owners : List Ownr
  homes : List Ownr
  deriving DecidableEq, Inhabited
structure Rq where
  service : Int
  type : Str
  keys : List Str
  fields : List Str
  deriving DecidableEq, Inhabited
structure Rp where
  found : List Bool
  vals : List (List VVal)
  deriving DecidableEq, Inhabited
structure Flt where
  err : Int
  at_ : Int
  deriving DecidableEq, Inhabited
inductive Pck where
  | mk (as field : Str) (picks : List Pck)
  deriving Inhabited
def Pck.as : Pck → Str | .mk a _ _ => a
def Pck.field : Pck → Str | .mk _ f _ => f
def Pck.picks : Pck → List Pck | .mk _ _ p => p
structure Ak where
  type : Str
  key : Str
  picks : List Pck
  deriving Inhabited

/-- the first index of which p holds; -1: there is none -/
def firstIdx {α : Type} (l : List α) (p : α → Bool) : Int := match l.findIdx? p with
  | some i => (i : Int)
  | none => -1
theorem firstIdx_hit {α : Type} {l : List α} {p : α → Bool} {i : Nat} {x : α} (hi : l[i]? = some x) (hp : p x = true) (h : ∀ (j : Nat) y, j < i → l[j]? = some y → p y = false) : firstIdx l p = i := by
  have : l.findIdx? p = some i := by
    rw [List.findIdx?_eq_some_iff_getElem]
    obtain ⟨hlt, hx⟩ := List.getElem?_eq_some_iff.1 hi
    refine ⟨hlt, by rw [hx]; exact hp, fun j hj => ?_⟩
    rw [h j _ hj (List.getElem?_eq_getElem (by omega))]
    simp
  simp [firstIdx, this]
theorem firstIdx_miss {α : Type} {l : List α} {p : α → Bool} (h : ∀ (j : Nat) y, l[j]? = some y → p y = false) : firstIdx l p = -1 := by
  have : l.findIdx? p = none := by
    rw [List.findIdx?_eq_none_iff]
    intro y hy
    obtain ⟨j, hj⟩ := List.getElem?_of_mem hy
    exact h j y hj
  simp [firstIdx, this]
theorem firstIdx_lt {α : Type} {l : List α} {p : α → Bool} (h : 0 ≤ firstIdx l p) : ∃ (i : Nat) (x : α), firstIdx l p = i ∧ l[i]? = some x ∧ p x = true ∧ i < l.length := by
  unfold firstIdx at h ⊢
  cases hf : l.findIdx? p with
  | none => simp [hf] at h
  | some i =>
    obtain ⟨hlt, hp, _⟩ := List.findIdx?_eq_some_iff_getElem.1 hf
    exact ⟨i, l[i], rfl, List.getElem?_eq_getElem hlt, hp, hlt⟩
theorem firstIdx_nonneg_iff {α : Type} {l : List α} {p : α → Bool} : 0 ≤ firstIdx l p ↔ l.any p = true := by
  constructor
  · intro h
    obtain ⟨i, x, _, hx, hp, _⟩ := firstIdx_lt h
    exact List.any_eq_true.2 ⟨x, List.mem_of_getElem? hx, hp⟩
  · intro h
    unfold firstIdx
    cases hf : l.findIdx? p with
    | some i => simp
    | none =>
      rw [List.findIdx?_eq_none_iff] at hf
      obtain ⟨x, hx, hp⟩ := List.any_eq_true.1 h
      simp [hf x hx] at hp
theorem firstIdx_neg {α : Type} {l : List α} {p : α → Bool} (h : ¬ 0 ≤ firstIdx l p) : firstIdx l p = -1 := by
  unfold firstIdx at h ⊢
  cases hf : l.findIdx? p with
  | none => rfl
  | some i => simp [hf] at h

/-- a letter of a name, at place i -/
def okc (i : Nat) (c : UInt8) : Bool := (decide (97 ≤ c.toNat) && decide (c.toNat ≤ 122)) || (decide (i ≠ 0) && decide (48 ≤ c.toNat) && decide (c.toNat ≤ 57))
def namedTo (s : Str) (n : Nat) : Prop := ∀ (i : Nat) c, i < n → s[i]? = some c → okc i c = true
def namedP (s : Str) : Prop := 1 ≤ s.size ∧ s.size ≤ 12 ∧ namedTo s s.size
def named (s : Str) : Bool := decide (1 ≤ s.size) && decide (s.size ≤ 12) && (List.range s.size).all fun i => match s[i]? with
  | some c => okc i c
  | none => true
theorem named_iff (s : Str) : named s = true ↔ namedP s := by
  simp only [named, namedP, namedTo, Bool.and_eq_true, decide_eq_true_eq, List.all_eq_true, List.mem_range, and_assoc]
  constructor
  · rintro ⟨h1, h2, h3⟩
    refine ⟨h1, h2, fun i c hi hc => ?_⟩
    have := h3 i hi
    rw [hc] at this
    exact this
  · rintro ⟨h1, h2, h3⟩
    refine ⟨h1, h2, fun i hi => ?_⟩
    split
    · rename_i c hc; exact h3 i c hi hc
    · rfl
theorem named_of {s : Str} (h : namedP s) : named s = true := (named_iff s).2 h
theorem not_named_of {s : Str} (h : ¬ namedP s) : named s = false := by
  cases hn : named s with
  | false => rfl
  | true => exact absurd ((named_iff s).1 hn) h
theorem str_get? (s : Str) (i : Nat) (h : i < s.size) : ∃ c, s[i]? = some c := ⟨s[i], by simp [h]⟩
end Go.Proofs.Ytgckpmcdlciibab

namespace Go.Proofs.Ytgckpmcdlciibab
def findT (l : List Typ) (n : Str) : Int := firstIdx l fun t => decide (t.name = n)
def fieldF (l : List Fld) (n : Str) : Int := firstIdx l fun t => decide (t.name = n)
/-- the first element with something wrong: where, and what -/
def firstBad {α : Type} (g : Nat → α → Int) : Nat → List α → Option (Nat × Int)
  | _, [] => none
  | i, x :: r => if g i x = 0 then firstBad g (i + 1) r else some (i, g i x)
theorem firstBad_from {α : Type} (g : Nat → α → Int) : ∀ (l : List α) (k i : Nat) (x : α), l[i]? = some x → (∀ (j : Nat) y, j < i → l[j]? = some y → g (k + j) y = 0) → g (k + i) x ≠ 0 → firstBad g k l = some (k + i, g (k + i) x)
  | [], k, i, x, hx, _, _ => by simp at hx
  | y :: r, k, 0, x, hx, _, hb => by
    simp at hx
    subst hx
    simp only [Nat.add_zero] at hb
    simp [firstBad, hb]
  | y :: r, k, i + 1, x, hx, h, hb => by
    have h0 := h 0 y (by omega) (by simp)
    simp only [Nat.add_zero] at h0
    have ih := firstBad_from g r (k + 1) i x (by simpa using hx) (fun j z hj hz => by have := h (j + 1) z (by omega) (by simpa using hz); rwa [show k + 1 + j = k + (j + 1) by omega]) (by rwa [show k + 1 + i = k + (i + 1) by omega])
    simp only [firstBad, h0, if_true]
    rw [ih, show k + 1 + i = k + (i + 1) by omega]
theorem firstBad_hit {α : Type} {g : Nat → α → Int} {l : List α} {i : Nat} {x : α} (hx : l[i]? = some x) (h : ∀ (j : Nat) y, j < i → l[j]? = some y → g j y = 0) (hb : g i x ≠ 0) : firstBad g 0 l = some (i, g i x) := by
  have := firstBad_from g l 0 i x hx (by simpa using h) (by simpa using hb)
  simpa using this
theorem firstBad_from_none {α : Type} (g : Nat → α → Int) : ∀ (l : List α) (k : Nat), (∀ (j : Nat) y, l[j]? = some y → g (k + j) y = 0) → firstBad g k l = none
  | [], _, _ => rfl
  | y :: r, k, h => by
    have h0 := h 0 y (by simp)
    simp only [Nat.add_zero] at h0
    simp only [firstBad, h0, if_true]
    exact firstBad_from_none g r (k + 1) fun j z hz => by have := h (j + 1) z (by simpa using hz); rwa [show k + 1 + j = k + (j + 1) by omega]
theorem firstBad_none {α : Type} {g : Nat → α → Int} {l : List α} (h : ∀ (j : Nat) y, l[j]? = some y → g j y = 0) : firstBad g 0 l = none := firstBad_from_none g l 0 (by simpa using h)
/-- what it says of the elements, turned round -/
theorem firstBad_some {α : Type} {g : Nat → α → Int} : ∀ {l : List α} {k i : Nat} {e : Int}, firstBad g k l = some (i, e) → ∃ x j, i = k + j ∧ l[j]? = some x ∧ e = g i x ∧ e ≠ 0 ∧ ∀ (m : Nat) y, m < j → l[m]? = some y → g (k + m) y = 0
  | [], _, _, _, h => by simp [firstBad] at h
  | y :: r, k, i, e, h => by
    simp only [firstBad] at h
    split at h
    · rename_i h0
      obtain ⟨x, j, h1, h2, h3, h4, h5⟩ := firstBad_some h
      refine ⟨x, j + 1, by omega, by simpa using h2, h3, h4, fun m z hm hz => ?_⟩
      cases m with
      | zero => simp at hz; subst hz; simpa using h0
      | succ m => have := h5 m z (by omega) (by simpa using hz); rwa [show k + 1 + m = k + (m + 1) by omega] at this
    · rename_i h0
      simp at h
      obtain ⟨rfl, rfl⟩ := h
      exact ⟨y, 0, by simp, by simp, rfl, h0, fun m z hm => absurd hm (by omega)⟩
theorem firstBad_eq_none {α : Type} {g : Nat → α → Int} : ∀ {l : List α} {k : Nat}, firstBad g k l = none → ∀ (m : Nat) y, l[m]? = some y → g (k + m) y = 0
  | [], _, _, m, y, hy => by simp at hy
  | x :: r, k, h, m, y, hy => by
    simp only [firstBad] at h
    split at h
    · rename_i h0
      cases m with
      | zero => simp at hy; subst hy; simpa using h0
      | succ m => have := firstBad_eq_none h m y (by simpa using hy); rwa [show k + 1 + m = k + (m + 1) by omega] at this
    · cases h

def fieldErr (l : List Typ) (fs : List Fld) (i : Nat) (f : Fld) : Int :=
  if named f.name = true ∧ ¬ 0 ≤ fieldF (fs.take i) f.name then
    if f.kind < 1 ∨ 3 < f.kind then 1
    else if f.kind = 1 then (if f.type = ⟨#[]⟩ then 0 else 7)
    else if findT l f.type < 0 then 5 else 0
  else 6
def fieldsErr (l : List Typ) (t : Typ) : Int :=
  if 10 < t.fields.length then 4 else match firstBad (fieldErr l t.fields) 0 t.fields with
    | some (_, e) => e
    | none => 0
def nameErr (l : List Typ) (i : Nat) (t : Typ) : Int := if named t.name = true ∧ ¬ 0 ≤ findT (l.take i) t.name then 0 else 6
def wrongT (l : List Typ) : Flt :=
  if 8 < l.length then ⟨4, 0⟩ else match firstBad (nameErr l) 0 l with
    | some (i, e) => ⟨e, i⟩
    | none => match firstBad (fun _ t => fieldsErr l t) 0 l with
      | some (i, e) => ⟨e, i⟩
      | none => ⟨0, 0⟩
/-- just one value for each field, in order -/
def valErr (f : Fld) (v : VVal) : Int :=
  if v.field = f.name then
    if (f.kind = 1 ∧ 0 < v.keys.length) ∨ (¬ f.kind = 1 ∧ ¬ v.text = ⟨#[]⟩) then 7
    else if (f.kind = 2 ∧ 1 < v.keys.length) ∨ 20 < v.keys.length then 4
    else if 40 < v.text.size then 3
    else if v.keys.all named then 0 else 6
  else 6
def valsErr (fs : List Fld) (l : List VVal) : Int :=
  if l.length = fs.length then match firstBad (fun i v => match fs[i]? with | some f => valErr f v | none => 0) 0 l with
    | some (_, e) => e
    | none => 0
  else 4
def thingAt (l : List Thg) (t k : Str) : Int := firstIdx l fun x => decide (x.type = t ∧ x.key = k)
end Go.Proofs.Ytgckpmcdlciibab

namespace Go.Proofs.Ytgckpmcdlciibab
def calledM (p : Pck) : Str := if p.as = ⟨#[]⟩ then p.field else p.as
def partF (l : List Prt) (n : Str) : Int := firstIdx l fun p => decide (p.type.name = n)
/-- picks' form: what is wrong, and how many there were -/
def shapeL (sub : List Pck → Int → Int × Int) : List Pck → Int → Int × Int
  | [], n => (0, n)
  | p :: r, n =>
    if 60 < n + 1 then (4, n + 1)
    else if named p.field = true ∧ ¬ (¬ p.as = ⟨#[]⟩ ∧ named p.as = false) then
      if 0 < p.picks.length then (if (sub p.picks (n + 1)).1 = 0 then shapeL sub r (sub p.picks (n + 1)).2 else sub p.picks (n + 1)) else shapeL sub r (n + 1)
    else (6, n + 1)
def shapeM : Nat → List Pck → Int → Int → Int × Int
  | 0, _, _, n => (0, n)
  | m + 1, l, deep, n => if 8 < deep then (3, n) else if l.length = 0 then (4, n) else shapeL (fun ps k => shapeM m ps (deep + 1) k) l n
theorem shapeL_le {sub : List Pck → Int → Int × Int} (hs : ∀ ps k, k ≤ 60 → (sub ps k).1 = 0 → (sub ps k).2 ≤ 60 ∧ k ≤ (sub ps k).2) : ∀ (l : List Pck) (n : Int), n ≤ 60 → (shapeL sub l n).1 = 0 → (shapeL sub l n).2 ≤ 60 ∧ n ≤ (shapeL sub l n).2
  | [], n, hn, _ => ⟨hn, Int.le_refl _⟩
  | p :: r, n, hn, h => by
    simp only [shapeL] at h ⊢
    split at h
    · cases h
    rename_i h60
    rw [if_neg h60]
    split at h
    · rename_i h1
      rw [if_pos h1]
      split at h
      · rename_i h2
        rw [if_pos h2]
        split at h
        · rename_i h3
          rw [if_pos h3]
          have hb := hs p.picks (n + 1) (by omega) h3
          have := shapeL_le hs r _ hb.1 h
          exact ⟨this.1, by omega⟩
        · rename_i h3
          exact absurd h h3
      · rename_i h2
        rw [if_neg h2]
        have := shapeL_le hs r (n + 1) (by omega) h
        exact ⟨this.1, by omega⟩
    · cases h
theorem shapeM_le : ∀ (m : Nat) (l : List Pck) (deep n : Int), n ≤ 60 → (shapeM m l deep n).1 = 0 → (shapeM m l deep n).2 ≤ 60 ∧ n ≤ (shapeM m l deep n).2
  | 0, l, deep, n, hn, _ => ⟨hn, Int.le_refl _⟩
  | m + 1, l, deep, n, hn, h => by
    simp only [shapeM] at h ⊢
    split at h
    · cases h
    rename_i h1
    rw [if_neg h1]
    split at h
    · cases h
    rename_i h2
    rw [if_neg h2]
    exact shapeL_le (fun ps k hk he => shapeM_le m ps (deep + 1) k hk he) l n hn h
def pickErr (sub : Str → List Pck → Int) (fs : List Fld) (ps : List Pck) (i : Nat) (p : Pck) : Int :=
  if fieldF fs p.field < 0 then 5
  else if 0 ≤ firstIdx (ps.take i) (fun q => decide (calledM q = calledM p)) then 6
  else match fs[(fieldF fs p.field).toNat]? with
    | some f => if ¬ (f.kind = 1 ↔ p.picks.length = 0) then 7 else if p.picks.length = 0 then 0 else sub f.type p.picks
    | none => 5
def picksErr (sub : Str → List Pck → Int) (fs : List Fld) (ps : List Pck) : Int := match firstBad (pickErr sub fs ps) 0 ps with
  | some (_, e) => e
  | none => 0
def goesM : Nat → List Prt → Str → List Pck → Int
  | 0, _, _, _ => 0
  | m + 1, l, n, ps => match l[(partF l n).toNat]? with
    | some t => if partF l n < 0 then 5 else picksErr (goesM m l) t.type.fields ps
    | none => 5
def wrongAsk (m : Nat) (a : Ak) : Int := if named a.type = true ∧ named a.key = true then (shapeM m a.picks 1 0).1 else 6
def checkM (m : Nat) (l : List Prt) (a : Ak) : Int := if wrongAsk m a = 0 then goesM m l a.type a.picks else wrongAsk m a
end Go.Proofs.Ytgckpmcdlciibab

namespace Go.Proofs.Ytgckpmcdlciibab
def strAt (l : List Str) (s : Str) : Int := firstIdx l fun x => decide (x = s)
def dupErr (l : List Str) (i : Nat) (s : Str) : Int := if 0 ≤ strAt (l.take i) s then 6 else 0
def rqErr (fs : List Fld) (l : List Str) (i : Nat) (s : Str) : Int := if fieldF fs s < 0 then 7 else if 0 ≤ strAt (l.take i) s then 6 else 0
def rqTail (fs : List Fld) (fl kl : List Str) : Int := match firstBad (rqErr fs fl) 0 fl with
  | some (_, e) => e
  | none => match firstBad (dupErr kl) 0 kl with
    | some (_, e) => e
    | none => 0
def wrongRq (l : List Svc) (q : Rq) : Int :=
  if q.service < 0 then 5 else match l[q.service.toNat]? with
    | none => 5
    | some s => if findT s.types q.type < 0 then 1 else match s.types[(findT s.types q.type).toNat]? with
      | none => 1
      | some t => rqTail t.fields q.fields q.keys
def thingM (xs : List Thg) (t k : Str) : Option Thg := if thingAt xs t k < 0 then none else xs[(thingAt xs t k).toNat]?
def valsM (fs : List Str) (x : Option Thg) : List VVal := match x with
  | none => []
  | some x => fs.flatMap fun f => x.vals.filter fun v => decide (v.field = f)
def ansKey (s : Svc) (q : Rq) (k : Str) : Bool × List VVal := ((thingM s.things q.type k).isSome, valsM q.fields (thingM s.things q.type k))
def answerM (l : List Svc) (q : Rq) : Rp × Int :=
  if wrongRq l q = 0 then match l[q.service.toNat]? with
    | none => (⟨[], []⟩, 5)
    | some s => (⟨q.keys.map fun k => (ansKey s q k).1, q.keys.map fun k => (ansKey s q k).2⟩, 0)
  else (⟨[], []⟩, wrongRq l q)
theorem wrongRq_some {l : List Svc} {q : Rq} {s : Svc} (h0 : ¬ q.service < 0) (hs : l[q.service.toNat]? = some s) : wrongRq l q = if findT s.types q.type < 0 then 1 else match s.types[(findT s.types q.type).toNat]? with
      | none => 1
      | some t => rqTail t.fields q.fields q.keys := by
  unfold wrongRq
  rw [if_neg h0, hs]
theorem wrongRq_zero {l : List Svc} {q : Rq} (h : wrongRq l q = 0) : ∃ s t : _, 0 ≤ q.service ∧ l[q.service.toNat]? = some s ∧ 0 ≤ findT s.types q.type ∧ s.types[(findT s.types q.type).toNat]? = some t ∧ rqTail t.fields q.fields q.keys = 0 := by
  unfold wrongRq at h
  split at h
  · cases h
  rename_i h0
  split at h
  · cases h
  rename_i s hs
  split at h
  · cases h
  rename_i h1
  split at h
  · cases h
  rename_i t ht
  exact ⟨s, t, by omega, hs, by omega, ht, h⟩
theorem rqTail_zero {fs : List Fld} {fl kl : List Str} (h : rqTail fs fl kl = 0) : (∀ (j : Nat) y, fl[j]? = some y → rqErr fs fl j y = 0) ∧ ∀ (j : Nat) y, kl[j]? = some y → dupErr kl j y = 0 := by
  unfold rqTail at h
  split at h
  · rename_i i e he
    obtain ⟨x, j, _, _, _, hne, _⟩ := firstBad_some he
    exact absurd h hne
  rename_i h1
  split at h
  · rename_i i e he
    obtain ⟨x, j, _, _, _, hne, _⟩ := firstBad_some he
    exact absurd h hne
  rename_i h2
  exact ⟨fun j y hj => by have := firstBad_eq_none h1 j y hj; rwa [Nat.zero_add] at this, fun j y hj => by have := firstBad_eq_none h2 j y hj; rwa [Nat.zero_add] at this⟩
end Go.Proofs.Ytgckpmcdlciibab

namespace Go.Proofs.Ytgckpmcdlciibab
def snF (v : List Sn) (n : Str) : Int := firstIdx v fun s => decide (s.type.name = n)
/-- the types' fields name a type otherwise -/
def reF (frm to : Str) (f : Fld) : Fld := if f.kind ≠ 1 ∧ f.type = frm then { f with type := to } else f
def reS (frm to : Str) (s : Sn) : Sn := { s with type := { s.type with fields := s.type.fields.map (reF frm to) } }
def nameS (to : Str) (s : Sn) : Sn := { s with type := { s.type with name := to } }
def callV (v : List Sn) (k : Nat) (to : Str) : List Sn := match v[k]? with
  | none => v
  | some s => (v.set k (nameS to s)).map (reS s.type.name to)
def hideS (f : Nat) (s : Sn) : Sn := { s with type := { s.type with fields := s.type.fields.eraseIdx f }, fields := s.fields.eraseIdx f }
def fieldS (f : Nat) (to : Str) (s : Sn) : Sn := { s with type := { s.type with fields := s.type.fields.modify f fun x => { x with name := to } } }
/-- a change: what is wrong with it (0: nothing), and what is seen behind it -/
def doV (v : List Sn) (c : Chg) : Int × List Sn :=
  if c.kind < 1 ∨ 3 < c.kind then (1, v) else
  if snF v c.type < 0 then (5, v) else
  if c.kind = 1 then
    if named c.to = true ∧ ¬ 0 ≤ snF v c.to then (0, callV v (snF v c.type).toNat c.to) else (6, v)
  else match v[(snF v c.type).toNat]? with
    | none => (5, v)
    | some s => if fieldF s.type.fields c.field < 0 then (5, v) else
      if c.kind = 3 then (0, v.modify (snF v c.type).toNat (hideS (fieldF s.type.fields c.field).toNat)) else
      if named c.to = true ∧ ¬ 0 ≤ fieldF s.type.fields c.to then (0, v.modify (snF v c.type).toNat (fieldS (fieldF s.type.fields c.field).toNat c.to)) else (6, v)
def seeInit (l : List Typ) : List Sn := l.map fun t => ⟨t, t.name, t.fields.map (·.name)⟩
/-- all changes, in turn: the first that can't be, and what is seen -/
def doAll : List Sn → Nat → List Chg → List Sn × Flt
  | v, _, [] => (v, ⟨0, 0⟩)
  | v, i, c :: cs => if (doV v c).1 = 0 then doAll (doV v c).2 (i + 1) cs else ([], ⟨(doV v c).1, i⟩)
def seeM (l : List Typ) (cs : List Chg) : List Sn × Flt :=
  if (wrongT l).err ≠ 0 then ([], wrongT l) else if 12 < cs.length then ([], ⟨4, 0⟩) else doAll (seeInit l) 0 cs
end Go.Proofs.Ytgckpmcdlciibab

namespace Go.Proofs.Ytgckpmcdlciibab
theorem hits_le (x : VVal) : ∀ (fs : List Str), fs.Nodup → (fs.filter fun f => decide (x.field = f)).length ≤ 1
  | [], _ => by simp
  | f :: r, h => by
    obtain ⟨h1, h2⟩ := List.nodup_cons.1 h
    rw [List.filter_cons]
    by_cases hx : x.field = f
    · have : (r.filter fun f => decide (x.field = f)) = [] := List.filter_eq_nil_iff.2 fun g hg hd => h1 (by rw [← hx, of_decide_eq_true hd]; exact hg)
      simp [hx]
      subst hx
      simpa using this
    · simp only [decide_eq_true_eq, hx, if_false]
      exact hits_le x r h2
theorem flat_le (fs : List Str) (h : fs.Nodup) : ∀ l : List VVal, (fs.flatMap fun f => l.filter fun v => decide (v.field = f)).length ≤ l.length
  | [] => by
    have : (fs.flatMap fun f => ([] : List VVal).filter fun v => decide (v.field = f)) = [] := List.flatMap_eq_nil_iff.2 fun _ _ => rfl
    rw [this]
    exact Nat.le_refl _
  | x :: l => by
    have ih := flat_le fs h l
    have h1 : (fs.flatMap fun f => (x :: l).filter fun v => decide (v.field = f)).length = (fs.filter fun f => decide (x.field = f)).length + (fs.flatMap fun f => l.filter fun v => decide (v.field = f)).length := by
      clear h ih
      induction fs with
      | nil => simp
      | cons f fs ih =>
        rw [List.flatMap_cons, List.flatMap_cons, List.length_append, List.length_append, ih, List.filter_cons, List.filter_cons]
        by_cases hx : x.field = f
        · simp [hx]; omega
        · simp [hx]; omega
    rw [h1]
    have := hits_le x fs h
    simp only [List.length_cons]
    omega
theorem nodup_of_dup {l : List Str} (h : ∀ (j : Nat) y, l[j]? = some y → ¬ 0 ≤ strAt (l.take j) y) : l.Nodup := by
  rw [List.nodup_iff_pairwise_ne, List.pairwise_iff_getElem]
  intro i j hi hj hij he
  refine h j l[j] (List.getElem?_eq_getElem hj) (firstIdx_nonneg_iff.2 (List.any_eq_true.2 ⟨l[i], ?_, decide_eq_true he⟩))
  exact List.mem_of_getElem? (i := i) (by rw [List.getElem?_take, if_pos hij]; exact List.getElem?_eq_getElem hi)
theorem rqTail_nodup {fs : List Fld} {fl kl : List Str} (h : rqTail fs fl kl = 0) : fl.Nodup := nodup_of_dup fun j y hj hc => by
  have := (rqTail_zero h).1 j y hj
  unfold rqErr at this
  split at this
  · cases this
  · cases this
theorem part_le {fs : List Str} (h : fs.Nodup) {j : Nat} (hj : j < fs.length) (l : List VVal) (m : Nat) :
    ((fs.take j).flatMap (fun f => l.filter fun v => decide (v.field = f)) ++ (l.take m).filter fun v => decide (v.field = fs[j])).length ≤ l.length := by
  have h1 := flat_le (fs.take (j + 1)) (h.sublist (List.take_sublist _ _)) l
  rw [List.take_succ_eq_append_getElem hj, List.flatMap_append, List.length_append] at h1
  rw [List.length_append]
  have h2 : ((l.take m).filter fun v => decide (v.field = fs[j])).length ≤ (l.filter fun v => decide (v.field = fs[j])).length := List.Sublist.length_le ((List.take_sublist m l).filter _)
  simp only [List.flatMap_cons, List.flatMap_nil, List.append_nil] at h1
  omega
end Go.Proofs.Ytgckpmcdlciibab
