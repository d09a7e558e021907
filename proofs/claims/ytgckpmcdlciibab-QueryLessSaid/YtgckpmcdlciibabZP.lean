/- Several texts in one: The program's data as plain Lean, and what its functions compute of them: no program in sight. Chapter 1 as plain Lean: what is wrong with schemas and things. Chapter 4 as plain Lean: what is wrong with picks. -/
import Derived.WalkKit
namespace Go.Proofs.Ytgckpmcdlciibab

abbrev Str := ByteArray
structure Fld where
  name : Str
  kind : Int
  type : Str
  deriving DecidableEq, Inhabited
structure Typ where
  name : Str
  fields : List Fld
  deriving DecidableEq, Inhabited
structure Chg where
  kind : Int
  type : Str
  field : Str
  to : Str
  deriving DecidableEq, Inhabited
structure VVal where
  field : Str
  text : Str
  keys : List Str
  deriving DecidableEq, Inhabited
structure Ownr where
  service : Int
  type : Str
  field : Str
  deriving DecidableEq, Inhabited
structure Prt where
  type : Typ
  owners : List Ownr
  homes : List Ownr
  deriving DecidableEq, Inhabited
inductive Pck where
  | mk (as field : Str) (picks : List Pck)
  deriving Inhabited
def Pck.as : Pck → Str | .mk a _ _ => a
def Pck.field : Pck → Str | .mk _ f _ => f
def Pck.picks : Pck → List Pck | .mk _ _ p => p
structure Ak where
  type : Str
  key : Str
  picks : List Pck
  deriving Inhabited

/-- the first index of which p holds; -1: there is none -/
def firstIdx {α : Type} (l : List α) (p : α → Bool) : Int := match l.findIdx? p with
  | some i => (i : Int)
  | none => -1
theorem firstIdx_lt {α : Type} {l : List α} {p : α → Bool} (h : 0 ≤ firstIdx l p) : ∃ (i : Nat) (x : α), firstIdx l p = i ∧ l[i]? = some x ∧ p x = true ∧ i < l.length := by
  unfold firstIdx at h ⊢
  cases hf : l.findIdx? p with
  | none => simp [hf] at h
  | some i =>
    obtain ⟨hlt, hp, _⟩ := List.findIdx?_eq_some_iff_getElem.1 hf
    exact ⟨i, l[i], rfl, List.getElem?_eq_getElem hlt, hp, hlt⟩
theorem firstIdx_nonneg_iff {α : Type} {l : List α} {p : α → Bool} : 0 ≤ firstIdx l p ↔ l.any p = true := by
  constructor
  · intro h
    obtain ⟨i, x, _, hx, hp, _⟩ := firstIdx_lt h
    exact List.any_eq_true.2 ⟨x, List.mem_of_getElem? hx, hp⟩
  · intro h
    unfold firstIdx
    cases hf : l.findIdx? p with
    | some i => simp
    | none =>
      rw [List.findIdx?_eq_none_iff] at hf
      obtain ⟨x, hx, hp⟩ := List.any_eq_true.1 h
      simp [hf x hx] at hp
theorem firstIdx_neg {α : Type} {l : List α} {p : α → Bool} (h : ¬ 0 ≤ firstIdx l p) : firstIdx l p = -1 := by
  unfold firstIdx at h ⊢
  cases hf : l.findIdx? p with
  | none => rfl
  | some i => simp [hf] at h

/-- a letter of a name, at place i -/
def okc (i : Nat) (c : UInt8) : Bool := (decide (97 ≤ c.toNat) && decide (c.toNat ≤ 122)) || (decide (i ≠ 0) && decide (48 ≤ c.toNat) && decide (c.toNat ≤ 57))
def namedTo (s : Str) (n : Nat) : Prop := ∀ (i : Nat) c, i < n → s[i]? = some c → okc i c = true
def namedP (s : Str) : Prop := 1 ≤ s.size ∧ s.size ≤ 12 ∧ namedTo s s.size
def named (s : Str) : Bool := decide (1 ≤ s.size) && decide (s.size ≤ 12) && (List.range s.size).all fun i => match s[i]? with
  | some c => okc i c
  | none => true
theorem named_iff (s : Str) : named s = true ↔ namedP s := by
  simp only [named, namedP, namedTo, Bool.and_eq_true, decide_eq_true_eq, List.all_eq_true, List.mem_range, and_assoc]
  constructor
  · rintro ⟨h1, h2, h3⟩
    refine ⟨h1, h2, fun i c hi hc => ?_⟩
    have := h3 i hi
    rw [hc] at this
    exact this
  · rintro ⟨h1, h2, h3⟩
    refine ⟨h1, h2, fun i hi => ?_⟩
    split
    · rename_i c hc; exact h3 i c hi hc
    · rfl
theorem named_of {s : Str} (h : namedP s) : named s = true := (named_iff s).2 h
theorem not_named_of {s : Str} (h : ¬ namedP s) : named s = false := by
  cases hn : named s with
  | false => rfl
  | true => exact absurd ((named_iff s).1 hn) h
theorem str_get? (s : Str) (i : Nat) (h : i < s.size) : ∃ c, s[i]? = some c := ⟨s[i], by simp [h]⟩
end Go.Proofs.Ytgckpmcdlciibab

namespace Go.Proofs.Ytgckpmcdlciibab
def fieldF (l : List Fld) (n : Str) : Int := firstIdx l fun t => decide (t.name = n)
/-- the first element with something wrong: where, and what -/
def firstBad {α : Type} (g : Nat → α → Int) : Nat → List α → Option (Nat × Int)
  | _, [] => none
  | i, x :: r => if g i x = 0 then firstBad g (i + 1) r else some (i, g i x)
theorem firstBad_from {α : Type} (g : Nat → α → Int) : ∀ (l : List α) (k i : Nat) (x : α), l[i]? = some x → (∀ (j : Nat) y, j < i → l[j]? = some y → g (k + j) y = 0) → g (k + i) x ≠ 0 → firstBad g k l = some (k + i, g (k + i) x)
  | [], k, i, x, hx, _, _ => by simp at hx
  | y :: r, k, 0, x, hx, _, hb => by
    simp at hx
    subst hx
    simp only [Nat.add_zero] at hb
    simp [firstBad, hb]
  | y :: r, k, i + 1, x, hx, h, hb => by
    have h0 := h 0 y (by omega) (by simp)
    simp only [Nat.add_zero] at h0
    have ih := firstBad_from g r (k + 1) i x (by simpa using hx) (fun j z hj hz => by have := h (j + 1) z (by omega) (by simpa using hz); rwa [show k + 1 + j = k + (j + 1) by omega]) (by rwa [show k + 1 + i = k + (i + 1) by omega])
    simp only [firstBad, h0, if_true]
    rw [ih, show k + 1 + i = k + (i + 1) by omega]
theorem firstBad_hit {α : Type} {g : Nat → α → Int} {l : List α} {i : Nat} {x : α} (hx : l[i]? = some x) (h : ∀ (j : Nat) y, j < i → l[j]? = some y → g j y = 0) (hb : g i x ≠ 0) : firstBad g 0 l = some (i, g i x) := by
  have := firstBad_from g l 0 i x hx (by simpa using h) (by simpa using hb)
  simpa using this
theorem firstBad_from_none {α : Type} (g : Nat → α → Int) : ∀ (l : List α) (k : Nat), (∀ (j : Nat) y, l[j]? = some y → g (k + j) y = 0) → firstBad g k l = none
  | [], _, _ => rfl
  | y :: r, k, h => by
    have h0 := h 0 y (by simp)
    simp only [Nat.add_zero] at h0
    simp only [firstBad, h0, if_true]
    exact firstBad_from_none g r (k + 1) fun j z hz => by have := h (j + 1) z (by simpa using hz); rwa [show k + 1 + j = k + (j + 1) by omega]
theorem firstBad_none {α : Type} {g : Nat → α → Int} {l : List α} (h : ∀ (j : Nat) y, l[j]? = some y → g j y = 0) : firstBad g 0 l = none := firstBad_from_none g l 0 (by simpa using h)
/-- what it says of the elements, turned round -/
theorem firstBad_some {α : Type} {g : Nat → α → Int} : ∀ {l : List α} {k i : Nat} {e : Int}, firstBad g k l = some (i, e) → ∃ x j, i = k + j ∧ l[j]? = some x ∧ e = g i x ∧ e ≠ 0 ∧ ∀ (m : Nat) y, m < j → l[m]? = some y → g (k + m) y = 0
  | [], _, _, _, h => by simp [firstBad] at h
  | y :: r, k, i, e, h => by
    simp only [firstBad] at h
    split at h
    · rename_i h0
      obtain ⟨x, j, h1, h2, h3, h4, h5⟩ := firstBad_some h
      refine ⟨x, j + 1, by omega, by simpa using h2, h3, h4, fun m z hm hz => ?_⟩
      cases m with
      | zero => simp at hz; subst hz; simpa using h0
      | succ m => have := h5 m z (by omega) (by simpa using hz); rwa [show k + 1 + m = k + (m + 1) by omega] at this
    · rename_i h0
      simp at h
      obtain ⟨rfl, rfl⟩ := h
      exact ⟨y, 0, by simp, by simp, rfl, h0, fun m z hm => absurd hm (by omega)⟩
theorem firstBad_eq_none {α : Type} {g : Nat → α → Int} : ∀ {l : List α} {k : Nat}, firstBad g k l = none → ∀ (m : Nat) y, l[m]? = some y → g (k + m) y = 0
  | [], _, _, m, y, hy => by simp at hy
  | x :: r, k, h, m, y, hy => by
    simp only [firstBad] at h
    split at h
    · rename_i h0
      cases m with
      | zero => simp at hy; subst hy; simpa using h0
      | succ m => have := firstBad_eq_none h m y (by simpa using hy); rwa [show k + 1 + m = k + (m + 1) by omega] at this
    · cases h

end Go.Proofs.Ytgckpmcdlciibab

namespace Go.Proofs.Ytgckpmcdlciibab
def calledM (p : Pck) : Str := if p.as = ⟨#[]⟩ then p.field else p.as
def partF (l : List Prt) (n : Str) : Int := firstIdx l fun p => decide (p.type.name = n)
def okPck : Nat → Pck → Prop
  | 0, _ => True
  | n + 1, p => p.as.size ≤ maxLen ∧ p.field.size ≤ maxLen ∧ ∀ q ∈ p.picks, okPck n q
/-- picks' form: what is wrong, and how many there were -/
def shapeL (sub : List Pck → Int → Int × Int) : List Pck → Int → Int × Int
  | [], n => (0, n)
  | p :: r, n =>
    if 60 < n + 1 then (4, n + 1)
    else if named p.field = true ∧ ¬ (¬ p.as = ⟨#[]⟩ ∧ named p.as = false) then
      if 0 < p.picks.length then (if (sub p.picks (n + 1)).1 = 0 then shapeL sub r (sub p.picks (n + 1)).2 else sub p.picks (n + 1)) else shapeL sub r (n + 1)
    else (6, n + 1)
def shapeM : Nat → List Pck → Int → Int → Int × Int
  | 0, _, _, n => (0, n)
  | m + 1, l, deep, n => if 8 < deep then (3, n) else if l.length = 0 then (4, n) else shapeL (fun ps k => shapeM m ps (deep + 1) k) l n
theorem shapeL_le {sub : List Pck → Int → Int × Int} (hs : ∀ ps k, k ≤ 60 → (sub ps k).1 = 0 → (sub ps k).2 ≤ 60 ∧ k ≤ (sub ps k).2) : ∀ (l : List Pck) (n : Int), n ≤ 60 → (shapeL sub l n).1 = 0 → (shapeL sub l n).2 ≤ 60 ∧ n ≤ (shapeL sub l n).2
  | [], n, hn, _ => ⟨hn, Int.le_refl _⟩
  | p :: r, n, hn, h => by
    simp only [shapeL] at h ⊢
    split at h
    · cases h
    rename_i h60
    rw [if_neg h60]
    split at h
    · rename_i h1
      rw [if_pos h1]
      split at h
      · rename_i h2
        rw [if_pos h2]
        split at h
        · rename_i h3
          rw [if_pos h3]
          have hb := hs p.picks (n + 1) (by omega) h3
          have := shapeL_le hs r _ hb.1 h
          exact ⟨this.1, by omega⟩
        · rename_i h3
          exact absurd h h3
      · rename_i h2
        rw [if_neg h2]
        have := shapeL_le hs r (n + 1) (by omega) h
        exact ⟨this.1, by omega⟩
    · cases h
theorem shapeM_le : ∀ (m : Nat) (l : List Pck) (deep n : Int), n ≤ 60 → (shapeM m l deep n).1 = 0 → (shapeM m l deep n).2 ≤ 60 ∧ n ≤ (shapeM m l deep n).2
  | 0, l, deep, n, hn, _ => ⟨hn, Int.le_refl _⟩
  | m + 1, l, deep, n, hn, h => by
    simp only [shapeM] at h ⊢
    split at h
    · cases h
    rename_i h1
    rw [if_neg h1]
    split at h
    · cases h
    rename_i h2
    rw [if_neg h2]
    exact shapeL_le (fun ps k hk he => shapeM_le m ps (deep + 1) k hk he) l n hn h
def pickErr (sub : Str → List Pck → Int) (fs : List Fld) (ps : List Pck) (i : Nat) (p : Pck) : Int :=
  if fieldF fs p.field < 0 then 5
  else if 0 ≤ firstIdx (ps.take i) (fun q => decide (calledM q = calledM p)) then 6
  else match fs[(fieldF fs p.field).toNat]? with
    | some f => if ¬ (f.kind = 1 ↔ p.picks.length = 0) then 7 else if p.picks.length = 0 then 0 else sub f.type p.picks
    | none => 5
def picksErr (sub : Str → List Pck → Int) (fs : List Fld) (ps : List Pck) : Int := match firstBad (pickErr sub fs ps) 0 ps with
  | some (_, e) => e
  | none => 0
def goesM : Nat → List Prt → Str → List Pck → Int
  | 0, _, _, _ => 0
  | m + 1, l, n, ps => match l[(partF l n).toNat]? with
    | some t => if partF l n < 0 then 5 else picksErr (goesM m l) t.type.fields ps
    | none => 5
def wrongAsk (m : Nat) (a : Ak) : Int := if named a.type = true ∧ named a.key = true then (shapeM m a.picks 1 0).1 else 6
def checkM (m : Nat) (l : List Prt) (a : Ak) : Int := if wrongAsk m a = 0 then goesM m l a.type a.picks else wrongAsk m a
end Go.Proofs.Ytgckpmcdlciibab
