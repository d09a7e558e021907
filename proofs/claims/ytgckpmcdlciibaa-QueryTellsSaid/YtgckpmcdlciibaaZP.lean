/- Several texts in one: The program's data as plain Lean, and what its functions compute of them: no program in sight. Chapter 4 as plain Lean: what is wrong with picks. -/
import Derived.WalkKit
namespace Go.Proofs.Ytgckpmcdlciibaa

abbrev Str := ByteArray
structure Fld where
  name : Str
  kind : Int
  type : Str
  deriving DecidableEq, Inhabited
inductive Pck where
  | mk (as field : Str) (picks : List Pck)
  deriving Inhabited
def Pck.as : Pck → Str | .mk a _ _ => a
def Pck.field : Pck → Str | .mk _ f _ => f
def Pck.picks : Pck → List Pck | .mk _ _ p => p
structure Ak where
  type : Str
  key : Str
  picks : List Pck
  deriving Inhabited

/-- a letter of a name, at place i -/
def okc (i : Nat) (c : UInt8) : Bool := (decide (97 ≤ c.toNat) && decide (c.toNat ≤ 122)) || (decide (i ≠ 0) && decide (48 ≤ c.toNat) && decide (c.toNat ≤ 57))
def namedTo (s : Str) (n : Nat) : Prop := ∀ (i : Nat) c, i < n → s[i]? = some c → okc i c = true
def namedP (s : Str) : Prop := 1 ≤ s.size ∧ s.size ≤ 12 ∧ namedTo s s.size
def named (s : Str) : Bool := decide (1 ≤ s.size) && decide (s.size ≤ 12) && (List.range s.size).all fun i => match s[i]? with
  | some c => okc i c
  | none => true
theorem named_iff (s : Str) : named s = true ↔ namedP s := by
  simp only [named, namedP, namedTo, Bool.and_eq_true, decide_eq_true_eq, List.all_eq_true, List.mem_range, and_assoc]
  constructor
  · rintro ⟨h1, h2, h3⟩
    refine ⟨h1, h2, fun i c hi hc => ?_⟩
    have := h3 i hi
    rw [hc] at this
    exact this
  · rintro ⟨h1, h2, h3⟩
    refine ⟨h1, h2, fun i hi => ?_⟩
    split
    · rename_i c hc; exact h3 i c hi hc
    · rfl
theorem named_of {s : Str} (h : namedP s) : named s = true := (named_iff s).2 h
theorem not_named_of {s : Str} (h : ¬ namedP s) : named s = false := by
  cases hn : named s with
  | false => rfl
  | true => exact absurd ((named_iff s).1 hn) h
theorem str_get? (s : Str) (i : Nat) (h : i < s.size) : ∃ c, s[i]? = some c := ⟨s[i], by simp [h]⟩
end Go.Proofs.Ytgckpmcdlciibaa

namespace Go.Proofs.Ytgckpmcdlciibaa
def calledM (p : Pck) : Str := if p.as = ⟨#[]⟩ then p.field else p.as
def okPck : Nat → Pck → Prop
  | 0, _ => True
  | n + 1, p => p.as.size ≤ maxLen ∧ p.field.size ≤ maxLen ∧ ∀ q ∈ p.picks, okPck n q
/-- picks' form: what is wrong, and how many there were -/
def shapeL (sub : List Pck → Int → Int × Int) : List Pck → Int → Int × Int
  | [], n => (0, n)
  | p :: r, n =>
    if 60 < n + 1 then (4, n + 1)
    else if named p.field = true ∧ ¬ (¬ p.as = ⟨#[]⟩ ∧ named p.as = false) then
      if 0 < p.picks.length then (if (sub p.picks (n + 1)).1 = 0 then shapeL sub r (sub p.picks (n + 1)).2 else sub p.picks (n + 1)) else shapeL sub r (n + 1)
    else (6, n + 1)
def shapeM : Nat → List Pck → Int → Int → Int × Int
  | 0, _, _, n => (0, n)
  | m + 1, l, deep, n => if 8 < deep then (3, n) else if l.length = 0 then (4, n) else shapeL (fun ps k => shapeM m ps (deep + 1) k) l n
theorem shapeL_le {sub : List Pck → Int → Int × Int} (hs : ∀ ps k, k ≤ 60 → (sub ps k).1 = 0 → (sub ps k).2 ≤ 60 ∧ k ≤ (sub ps k).2) : ∀ (l : List Pck) (n : Int), n ≤ 60 → (shapeL sub l n).1 = 0 → (shapeL sub l n).2 ≤ 60 ∧ n ≤ (shapeL sub l n).2
  | [], n, hn, _ => ⟨hn, Int.le_refl _⟩
  | p :: r, n, hn, h => by
    simp only [shapeL] at h ⊢
    split at h
    · cases h
    rename_i h60
    rw [if_neg h60]
    split at h
    · rename_i h1
      rw [if_pos h1]
      split at h
      · rename_i h2
        rw [if_pos h2]
        split at h
        · rename_i h3
          rw [if_pos h3]
          have hb := hs p.picks (n + 1) (by omega) h3
          have := shapeL_le hs r _ hb.1 h
          exact ⟨this.1, by omega⟩
        · rename_i h3
          exact absurd h h3
      · rename_i h2
        rw [if_neg h2]
        have := shapeL_le hs r (n + 1) (by omega) h
        exact ⟨this.1, by omega⟩
    · cases h
theorem shapeM_le : ∀ (m : Nat) (l : List Pck) (deep n : Int), n ≤ 60 → (shapeM m l deep n).1 = 0 → (shapeM m l deep n).2 ≤ 60 ∧ n ≤ (shapeM m l deep n).2
  | 0, l, deep, n, hn, _ => ⟨hn, Int.le_refl _⟩
  | m + 1, l, deep, n, hn, h => by
    simp only [shapeM] at h ⊢
    split at h
    · cases h
    rename_i h1
    rw [if_neg h1]
    split at h
    · cases h
    rename_i h2
    rw [if_neg h2]
    exact shapeL_le (fun ps k hk he => shapeM_le m ps (deep + 1) k hk he) l n hn h
def wrongAsk (m : Nat) (a : Ak) : Int := if named a.type = true ∧ named a.key = true then (shapeM m a.picks 1 0).1 else 6
end Go.Proofs.Ytgckpmcdlciibaa
