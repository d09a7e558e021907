/- Chapter 1 as plain Lean: what is wrong with schemas and things. -/
import Derived.Test.YtgckpmcdlciibaaData
namespace Go.Proofs.Ytgckpmcdlciibaa
def findT (l : List Typ) (n : Str) : Int := firstIdx l fun t => decide (t.name = n)
def fieldF (l : List Fld) (n : Str) : Int := firstIdx l fun t => decide (t.name = n)
/-- the first element with something wrong: where, and what -/
def firstBad {α : Type} (g : Nat → α → Int) : Nat → List α → Option (Nat × Int)
  | _, [] => none
  | i, x :: r => if g i x = 0 then firstBad g (i + 1) r else some (i, g i x)
theorem firstBad_from {α : Type} (g : Nat → α → Int) : ∀ (l : List α) (k i : Nat) (x : α), l[i]? = some x → (∀ (j : Nat) y, j < i → l[j]? = some y → g (k + j) y = 0) → g (k + i) x ≠ 0 → firstBad g k l = some (k + i, g (k + i) x)
  | [], k, i, x, hx, _, _ => by simp at hx
  | y :: r, k, 0, x, hx, _, hb => by
    simp at hx
    subst hx
    simp only [Nat.add_zero] at hb
    simp [firstBad, hb]
  | y :: r, k, i + 1, x, hx, h, hb => by
    have h0 := h 0 y (by omega) (by simp)
    simp only [Nat.add_zero] at h0
    have ih := firstBad_from g r (k + 1) i x (by simpa using hx) (fun j z hj hz => by have := h (j + 1) z (by omega) (by simpa using hz); rwa [show k + 1 + j = k + (j + 1) by omega]) (by rwa [show k + 1 + i = k + (i + 1) by omega])
    simp only [firstBad, h0, if_true]
    rw [ih, show k + 1 + i = k + (i + 1) by omega]
theorem firstBad_hit {α : Type} {g : Nat → α → Int} {l : List α} {i : Nat} {x : α} (hx : l[i]? = some x) (h : ∀ (j : Nat) y, j < i → l[j]? = some y → g j y = 0) (hb : g i x ≠ 0) : firstBad g 0 l = some (i, g i x) := by
  have := firstBad_from g l 0 i x hx (by simpa using h) (by simpa using hb)
  simpa using this
theorem firstBad_from_none {α : Type} (g : Nat → α → Int) : ∀ (l : List α) (k : Nat), (∀ (j : Nat) y, l[j]? = some y → g (k + j) y = 0) → firstBad g k l = none
  | [], _, _ => rfl
  | y :: r, k, h => by
    have h0 := h 0 y (by simp)
    simp only [Nat.add_zero] at h0
    simp only [firstBad, h0, if_true]
    exact firstBad_from_none g r (k + 1) fun j z hz => by have := h (j + 1) z (by simpa using hz); rwa [show k + 1 + j = k + (j + 1) by omega]
theorem firstBad_none {α : Type} {g : Nat → α → Int} {l : List α} (h : ∀ (j : Nat) y, l[j]? = some y → g j y = 0) : firstBad g 0 l = none := firstBad_from_none g l 0 (by simpa using h)
/-- what it says of the elements, turned round -/
theorem firstBad_some {α : Type} {g : Nat → α → Int} : ∀ {l : List α} {k i : Nat} {e : Int}, firstBad g k l = some (i, e) → ∃ x j, i = k + j ∧ l[j]? = some x ∧ e = g i x ∧ e ≠ 0 ∧ ∀ (m : Nat) y, m < j → l[m]? = some y → g (k + m) y = 0
  | [], _, _, _, h => by simp [firstBad] at h
  | y :: r, k, i, e, h => by
    simp only [firstBad] at h
    split at h
    · rename_i h0
      obtain ⟨x, j, h1, h2, h3, h4, h5⟩ := firstBad_some h
      refine ⟨x, j + 1, by omega, by simpa using h2, h3, h4, fun m z hm hz => ?_⟩
      cases m with
      | zero => simp at hz; subst hz; simpa using h0
      | succ m => have := h5 m z (by omega) (by simpa using hz); rwa [show k + 1 + m = k + (m + 1) by omega] at this
    · rename_i h0
      simp at h
      obtain ⟨rfl, rfl⟩ := h
      exact ⟨y, 0, by simp, by simp, rfl, h0, fun m z hm => absurd hm (by omega)⟩
theorem firstBad_eq_none {α : Type} {g : Nat → α → Int} : ∀ {l : List α} {k : Nat}, firstBad g k l = none → ∀ (m : Nat) y, l[m]? = some y → g (k + m) y = 0
  | [], _, _, m, y, hy => by simp at hy
  | x :: r, k, h, m, y, hy => by
    simp only [firstBad] at h
    split at h
    · rename_i h0
      cases m with
      | zero => simp at hy; subst hy; simpa using h0
      | succ m => have := firstBad_eq_none h m y (by simpa using hy); rwa [show k + 1 + m = k + (m + 1) by omega] at this
    · cases h

def fieldErr (l : List Typ) (fs : List Fld) (i : Nat) (f : Fld) : Int :=
  if named f.name = true ∧ ¬ 0 ≤ fieldF (fs.take i) f.name then
    if f.kind < 1 ∨ 3 < f.kind then 1
    else if f.kind = 1 then (if f.type = ⟨#[]⟩ then 0 else 7)
    else if findT l f.type < 0 then 5 else 0
  else 6
def fieldsErr (l : List Typ) (t : Typ) : Int :=
  if 10 < t.fields.length then 4 else match firstBad (fieldErr l t.fields) 0 t.fields with
    | some (_, e) => e
    | none => 0
def nameErr (l : List Typ) (i : Nat) (t : Typ) : Int := if named t.name = true ∧ ¬ 0 ≤ findT (l.take i) t.name then 0 else 6
def wrongT (l : List Typ) : Flt :=
  if 8 < l.length then ⟨4, 0⟩ else match firstBad (nameErr l) 0 l with
    | some (i, e) => ⟨e, i⟩
    | none => match firstBad (fun _ t => fieldsErr l t) 0 l with
      | some (i, e) => ⟨e, i⟩
      | none => ⟨0, 0⟩
/-- just one value for each field, in order -/
def valErr (f : Fld) (v : VVal) : Int :=
  if v.field = f.name then
    if (f.kind = 1 ∧ 0 < v.keys.length) ∨ (¬ f.kind = 1 ∧ ¬ v.text = ⟨#[]⟩) then 7
    else if (f.kind = 2 ∧ 1 < v.keys.length) ∨ 20 < v.keys.length then 4
    else if 40 < v.text.size then 3
    else if v.keys.all named then 0 else 6
  else 6
def valsErr (fs : List Fld) (l : List VVal) : Int :=
  if l.length = fs.length then match firstBad (fun i v => match fs[i]? with | some f => valErr f v | none => 0) 0 l with
    | some (_, e) => e
    | none => 0
  else 4
def thingAt (l : List Thg) (t k : Str) : Int := firstIdx l fun x => decide (x.type = t ∧ x.key = k)
def thingErr (l : List Typ) (xs : List Thg) (i : Nat) (x : Thg) : Int := match l[(findT l x.type).toNat]? with
  | some t => if findT l x.type < 0 then 5 else if named x.key = true ∧ ¬ 0 ≤ thingAt (xs.take i) x.type x.key then valsErr t.fields x.vals else 6
  | none => 5
def thingsErr (l : List Typ) (xs : List Thg) : Flt :=
  if 60 < xs.length then ⟨4, 0⟩ else match firstBad (thingErr l xs) 0 xs with
    | some (i, e) => ⟨e, i⟩
    | none => ⟨0, 0⟩
end Go.Proofs.Ytgckpmcdlciibaa
