/- Chapter 4 as plain Lean: what is wrong with picks. -/
import Derived.Test.YtgckpmcdlciibaaMod1
namespace Go.Proofs.Ytgckpmcdlciibaa
def calledM (p : Pck) : Str := if p.as = ⟨#[]⟩ then p.field else p.as
def partF (l : List Prt) (n : Str) : Int := firstIdx l fun p => decide (p.type.name = n)
def okPck : Nat → Pck → Prop
  | 0, _ => True
  | n + 1, p => p.as.size ≤ maxLen ∧ p.field.size ≤ maxLen ∧ ∀ q ∈ p.picks, okPck n q
/-- picks' form: what is wrong, and how many there were -/
def shapeL (sub : List Pck → Int → Int × Int) : List Pck → Int → Int × Int
  | [], n => (0, n)
  | p :: r, n =>
    if 60 < n + 1 then (4, n + 1)
    else if named p.field = true ∧ ¬ (¬ p.as = ⟨#[]⟩ ∧ named p.as = false) then
      if 0 < p.picks.length then (if (sub p.picks (n + 1)).1 = 0 then shapeL sub r (sub p.picks (n + 1)).2 else sub p.picks (n + 1)) else shapeL sub r (n + 1)
    else (6, n + 1)
def shapeM : Nat → List Pck → Int → Int → Int × Int
  | 0, _, _, n => (0, n)
  | m + 1, l, deep, n => if 8 < deep then (3, n) else if l.length = 0 then (4, n) else shapeL (fun ps k => shapeM m ps (deep + 1) k) l n
theorem shapeL_le {sub : List Pck → Int → Int × Int} (hs : ∀ ps k, k ≤ 60 → (sub ps k).1 = 0 → (sub ps k).2 ≤ 60 ∧ k ≤ (sub ps k).2) : ∀ (l : List Pck) (n : Int), n ≤ 60 → (shapeL sub l n).1 = 0 → (shapeL sub l n).2 ≤ 60 ∧ n ≤ (shapeL sub l n).2
  | [], n, hn, _ => ⟨hn, Int.le_refl _⟩
  | p :: r, n, hn, h => by
    simp only [shapeL] at h ⊢
    split at h
    · cases h
    rename_i h60
    rw [if_neg h60]
    split at h
    · rename_i h1
      rw [if_pos h1]
      split at h
      · rename_i h2
        rw [if_pos h2]
        split at h
        · rename_i h3
          rw [if_pos h3]
          have hb := hs p.picks (n + 1) (by omega) h3
          have := shapeL_le hs r _ hb.1 h
          exact ⟨this.1, by omega⟩
        · rename_i h3
          exact absurd h h3
      · rename_i h2
        rw [if_neg h2]
        have := shapeL_le hs r (n + 1) (by omega) h
        exact ⟨this.1, by omega⟩
    · cases h
theorem shapeM_le : ∀ (m : Nat) (l : List Pck) (deep n : Int), n ≤ 60 → (shapeM m l deep n).1 = 0 → (shapeM m l deep n).2 ≤ 60 ∧ n ≤ (shapeM m l deep n).2
  | 0, l, deep, n, hn, _ => ⟨hn, Int.le_refl _⟩
  | m + 1, l, deep, n, hn, h => by
    simp only [shapeM] at h ⊢
    split at h
    · cases h
    rename_i h1
    rw [if_neg h1]
    split at h
    · cases h
    rename_i h2
    rw [if_neg h2]
    exact shapeL_le (fun ps k hk he => shapeM_le m ps (deep + 1) k hk he) l n hn h
def pickErr (sub : Str → List Pck → Int) (fs : List Fld) (ps : List Pck) (i : Nat) (p : Pck) : Int :=
  if fieldF fs p.field < 0 then 5
  else if 0 ≤ firstIdx (ps.take i) (fun q => decide (calledM q = calledM p)) then 6
  else match fs[(fieldF fs p.field).toNat]? with
    | some f => if ¬ (f.kind = 1 ↔ p.picks.length = 0) then 7 else if p.picks.length = 0 then 0 else sub f.type p.picks
    | none => 5
def picksErr (sub : Str → List Pck → Int) (fs : List Fld) (ps : List Pck) : Int := match firstBad (pickErr sub fs ps) 0 ps with
  | some (_, e) => e
  | none => 0
def goesM : Nat → List Prt → Str → List Pck → Int
  | 0, _, _, _ => 0
  | m + 1, l, n, ps => match l[(partF l n).toNat]? with
    | some t => if partF l n < 0 then 5 else picksErr (goesM m l) t.type.fields ps
    | none => 5
def wrongAsk (m : Nat) (a : Ak) : Int := if named a.type = true ∧ named a.key = true then (shapeM m a.picks 1 0).1 else 6
def checkM (m : Nat) (l : List Prt) (a : Ak) : Int := if wrongAsk m a = 0 then goesM m l a.type a.picks else wrongAsk m a
end Go.Proofs.Ytgckpmcdlciibaa
