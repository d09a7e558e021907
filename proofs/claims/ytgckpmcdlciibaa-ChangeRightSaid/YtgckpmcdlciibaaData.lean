/- The program's data as plain Lean, and what its functions compute of them: no program in sight. -/
import Derived.WalkKit
namespace Go.Proofs.Ytgckpmcdlciibaa

abbrev Str := ByteArray
structure Fld where
  name : Str
  kind : Int
  type : Str
  deriving DecidableEq, Inhabited
structure Typ where
  name : Str
  fields : List Fld
  deriving DecidableEq, Inhabited
structure Chg where
  kind : Int
  type : Str
  field : Str
  to : Str
  deriving DecidableEq, Inhabited
structure VVal where
  field : Str
  text : Str
  keys : List Str
  deriving DecidableEq, Inhabited
structure Thg where
  type : Str
  key : Str
  vals : List VVal
  deriving DecidableEq, Inhabited
structure Svc where
  types : List Typ
  changes : List Chg
  things : List Thg
  deriving DecidableEq, Inhabited
structure Sn where
  type : Typ
  own : Str
  fields : List Str
  deriving DecidableEq, Inhabited
structure Ownr where
  service : Int
  type : Str
  field : Str
  deriving DecidableEq, Inhabited
structure Prt where
  type : Typ
  owners : List Ownr
  homes : List Ownr
  deriving DecidableEq, Inhabited
structure Rq where
  service : Int
  type : Str
  keys : List Str
  fields : List Str
  deriving DecidableEq, Inhabited
structure Rp where
  found : List Bool
  vals : List (List VVal)
  deriving DecidableEq, Inhabited
structure Flt where
  err : Int
  at_ : Int
  deriving DecidableEq, Inhabited
inductive Pck where
  | mk (as field : Str) (picks : List Pck)
  deriving Inhabited
def Pck.as : Pck → Str | .mk a _ _ => a
def Pck.field : Pck → Str | .mk _ f _ => f
def Pck.picks : Pck → List Pck | .mk _ _ p => p
structure Ak where
  type : Str
  key : Str
  picks : List Pck
  deriving Inhabited

/-- the first index of which p holds; -1: there is none -/
def firstIdx {α : Type} (l : List α) (p : α → Bool) : Int := match l.findIdx? p with
  | some i => (i : Int)
  | none => -1
theorem firstIdx_hit {α : Type} {l : List α} {p : α → Bool} {i : Nat} {x : α} (hi : l[i]? = some x) (hp : p x = true) (h : ∀ (j : Nat) y, j < i → l[j]? = some y → p y = false) : firstIdx l p = i := by
  have : l.findIdx? p = some i := by
    rw [List.findIdx?_eq_some_iff_getElem]
    obtain ⟨hlt, hx⟩ := List.getElem?_eq_some_iff.1 hi
    refine ⟨hlt, by rw [hx]; exact hp, fun j hj => ?_⟩
    rw [h j _ hj (List.getElem?_eq_getElem (by omega))]
    simp
  simp [firstIdx, this]
theorem firstIdx_miss {α : Type} {l : List α} {p : α → Bool} (h : ∀ (j : Nat) y, l[j]? = some y → p y = false) : firstIdx l p = -1 := by
  have : l.findIdx? p = none := by
    rw [List.findIdx?_eq_none_iff]
    intro y hy
    obtain ⟨j, hj⟩ := List.getElem?_of_mem hy
    exact h j y hj
  simp [firstIdx, this]
theorem firstIdx_lt {α : Type} {l : List α} {p : α → Bool} (h : 0 ≤ firstIdx l p) : ∃ (i : Nat) (x : α), firstIdx l p = i ∧ l[i]? = some x ∧ p x = true ∧ i < l.length := by
  unfold firstIdx at h ⊢
  cases hf : l.findIdx? p with
  | none => simp [hf] at h
  | some i =>
    obtain ⟨hlt, hp, _⟩ := List.findIdx?_eq_some_iff_getElem.1 hf
    exact ⟨i, l[i], rfl, List.getElem?_eq_getElem hlt, hp, hlt⟩
theorem firstIdx_nonneg_iff {α : Type} {l : List α} {p : α → Bool} : 0 ≤ firstIdx l p ↔ l.any p = true := by
  constructor
  · intro h
    obtain ⟨i, x, _, hx, hp, _⟩ := firstIdx_lt h
    exact List.any_eq_true.2 ⟨x, List.mem_of_getElem? hx, hp⟩
  · intro h
    unfold firstIdx
    cases hf : l.findIdx? p with
    | some i => simp
    | none =>
      rw [List.findIdx?_eq_none_iff] at hf
      obtain ⟨x, hx, hp⟩ := List.any_eq_true.1 h
      simp [hf x hx] at hp
theorem firstIdx_neg {α : Type} {l : List α} {p : α → Bool} (h : ¬ 0 ≤ firstIdx l p) : firstIdx l p = -1 := by
  unfold firstIdx at h ⊢
  cases hf : l.findIdx? p with
  | none => rfl
  | some i => simp [hf] at h

/-- a letter of a name, at place i -/
def okc (i : Nat) (c : UInt8) : Bool := (decide (97 ≤ c.toNat) && decide (c.toNat ≤ 122)) || (decide (i ≠ 0) && decide (48 ≤ c.toNat) && decide (c.toNat ≤ 57))
def namedTo (s : Str) (n : Nat) : Prop := ∀ (i : Nat) c, i < n → s[i]? = some c → okc i c = true
def namedP (s : Str) : Prop := 1 ≤ s.size ∧ s.size ≤ 12 ∧ namedTo s s.size
def named (s : Str) : Bool := decide (1 ≤ s.size) && decide (s.size ≤ 12) && (List.range s.size).all fun i => match s[i]? with
  | some c => okc i c
  | none => true
theorem named_iff (s : Str) : named s = true ↔ namedP s := by
  simp only [named, namedP, namedTo, Bool.and_eq_true, decide_eq_true_eq, List.all_eq_true, List.mem_range, and_assoc]
  constructor
  · rintro ⟨h1, h2, h3⟩
    refine ⟨h1, h2, fun i c hi hc => ?_⟩
    have := h3 i hi
    rw [hc] at this
    exact this
  · rintro ⟨h1, h2, h3⟩
    refine ⟨h1, h2, fun i hi => ?_⟩
    split
    · rename_i c hc; exact h3 i c hi hc
    · rfl
theorem named_of {s : Str} (h : namedP s) : named s = true := (named_iff s).2 h
theorem not_named_of {s : Str} (h : ¬ namedP s) : named s = false := by
  cases hn : named s with
  | false => rfl
  | true => exact absurd ((named_iff s).1 hn) h
theorem str_get? (s : Str) (i : Nat) (h : i < s.size) : ∃ c, s[i]? = some c := ⟨s[i], by simp [h]⟩
end Go.Proofs.Ytgckpmcdlciibaa
