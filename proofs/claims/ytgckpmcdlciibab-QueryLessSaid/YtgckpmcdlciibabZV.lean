/- Several texts in one: Plain functions of chapter 6: what is asked for, of all things together. Plain laws of chapter 6: what is meant, as a plain function; in another order. -/
import Derived.Test.YtgckpmcdlciibabZD
import Derived.Test.YtgckpmcdlciibabZP
import Derived.Test.YtgckpmcdlciibabZB
namespace Go.Proofs.Ytgckpmcdlciibab
/-- services as they are seen, all together: by seen names -/
structure Sem where
  has : Str → Bool
  fld : Str → Str → Option Fld
  there : Str → Str → Bool
  val : Str → Str → Str → Option VVal
def partM (ps : List Prt) (n : Str) : Option Prt := if partF ps n < 0 then none else ps[(partF ps n).toNat]?
end Go.Proofs.Ytgckpmcdlciibab

namespace Go.Proofs.Ytgckpmcdlciibab
def fldM (fs : List Fld) (n : Str) : Option Fld := if fieldF fs n < 0 then none else fs[(fieldF fs n).toNat]?
theorem pickErr_fld (sub : Str → List Pck → Int) (fs : List Fld) (ps : List Pck) (i : Nat) (p : Pck) : pickErr sub fs ps i p = match fldM fs p.field with
    | none => 5
    | some f => if 0 ≤ firstIdx (ps.take i) (fun q => decide (calledM q = calledM p)) then 6 else if ¬ (f.kind = 1 ↔ p.picks.length = 0) then 7 else if p.picks.length = 0 then 0 else sub f.type p.picks := by
  unfold pickErr fldM
  by_cases h : fieldF fs p.field < 0
  · rw [if_pos h, if_pos h]
  · rw [if_neg h, if_neg h]
    obtain ⟨j, f, hj, hf, _, _⟩ := firstIdx_lt (l := fs) (p := fun t => decide (t.name = p.field)) (by unfold fieldF at h; omega)
    have hj : fieldF fs p.field = (j : Int) := hj
    rw [hj, Int.toNat_natCast, hf]
theorem goesM_part (m : Nat) (l : List Prt) (n : Str) (ps : List Pck) : goesM (m + 1) l n ps = match partM l n with
    | none => 5
    | some t => picksErr (goesM m l) t.type.fields ps := by
  unfold partM
  simp only [goesM]
  by_cases h : partF l n < 0
  · rw [if_pos h]
    cases l[(partF l n).toNat]? with
    | none => rfl
    | some t => simp only; rw [if_pos h]
  · rw [if_neg h]
    cases l[(partF l n).toNat]? with
    | none => rfl
    | some t => simp only; rw [if_neg h]
theorem shapeL_app {sub : List Pck → Int → Int × Int} : ∀ (xs ys : List Pck) (n : Int), (shapeL sub (xs ++ ys) n).1 = 0 → (shapeL sub xs n).1 = 0 ∧ (shapeL sub ys (shapeL sub xs n).2).1 = 0
  | [], ys, n, h => ⟨rfl, h⟩
  | p :: r, ys, n, h => by
    simp only [List.cons_append, shapeL] at h ⊢
    split at h
    · cases h
    rename_i h60
    simp only [if_neg h60]
    split at h
    · rename_i h1
      simp only [if_pos h1]
      split at h
      · rename_i h2
        simp only [if_pos h2]
        split at h
        · rename_i h3
          simp only [if_pos h3]
          exact shapeL_app r ys _ h
        · rename_i h3
          exact absurd h h3
      · rename_i h2
        simp only [if_neg h2]
        exact shapeL_app r ys _ h
    · cases h
/-- a part of picks that have the right form -/
theorem shape_take {m : Nat} {l : List Pck} {deep n : Int} {i : Nat} (h : (shapeM (m + 1) l deep n).1 = 0) (hi : 1 ≤ i) (hl : i ≤ l.length) : (shapeM (m + 1) (l.take i) deep n).1 = 0 := by
  simp only [shapeM] at h ⊢
  split at h
  · cases h
  rename_i h1
  rw [if_neg h1]
  split at h
  · cases h
  rename_i h2
  rw [if_neg (by rw [List.length_take]; omega)]
  rw [← List.take_append_drop i l] at h
  exact (shapeL_app _ _ _ h).1
theorem picksErr_iff {sub : Str → List Pck → Int} {fs : List Fld} {ps : List Pck} : picksErr sub fs ps = 0 ↔ ∀ (i : Nat) p, ps[i]? = some p → pickErr sub fs ps i p = 0 := by
  unfold picksErr
  constructor
  · intro h i p hp
    split at h
    · rename_i i' e he
      obtain ⟨_, _, _, _, _, hne, _⟩ := firstBad_some he
      exact absurd h hne
    · rename_i he
      have := firstBad_eq_none he i p hp
      rwa [Nat.zero_add] at this
  · intro h
    rw [firstBad_none h]
theorem firstIdx_sub {α : Type} {a b : List α} {p : α → Bool} (hs : ∀ x, x ∈ a → x ∈ b) (h : ¬ 0 ≤ firstIdx b p) : ¬ 0 ≤ firstIdx a p := fun h2 => by
  rw [firstIdx_nonneg_iff] at h h2
  obtain ⟨x, hx, hp⟩ := List.any_eq_true.1 h2
  exact h (List.any_eq_true.2 ⟨x, hs x hx, hp⟩)
theorem pickErr_less {sub : Str → List Pck → Int} {fs : List Fld} {ps qs : List Pck} {i j : Nat} {p : Pck} (hs : ∀ x, x ∈ qs.take j → x ∈ ps.take i) (h : pickErr sub fs ps i p = 0) : pickErr sub fs qs j p = 0 := by
  rw [pickErr_fld] at h ⊢
  split at h
  · cases h
  rename_i f hf
  split at h
  · cases h
  rename_i h1
  rw [if_neg (firstIdx_sub hs h1)]
  exact h
theorem picksErr_take {sub : Str → List Pck → Int} {fs : List Fld} {ps : List Pck} {i : Nat} (h : picksErr sub fs ps = 0) : picksErr sub fs (ps.take i) = 0 := by
  rw [picksErr_iff] at h ⊢
  intro j p hp
  rw [List.getElem?_take] at hp
  split at hp
  · exact pickErr_less (fun x hx => by rw [List.take_take] at hx; exact List.take_subset_take_left _ (Nat.min_le_left _ _) hx) (h j p hp)
  · cases hp
theorem goes_take {m : Nat} {l : List Prt} {n : Str} {ps : List Pck} {i : Nat} (h : goesM (m + 1) l n ps = 0) : goesM (m + 1) l n (ps.take i) = 0 := by
  rw [goesM_part] at h ⊢
  split at h
  · cases h
  · exact picksErr_take h
theorem checkM_zero {m : Nat} {l : List Prt} {a : Ak} : checkM m l a = 0 ↔ named a.type = true ∧ named a.key = true ∧ (shapeM m a.picks 1 0).1 = 0 ∧ goesM m l a.type a.picks = 0 := by
  unfold checkM wrongAsk
  by_cases h : named a.type = true ∧ named a.key = true
  · rw [if_pos h]
    by_cases h2 : (shapeM m a.picks 1 0).1 = 0
    · rw [if_pos h2]; simp [h, h2]
    · rw [if_neg h2]; simp [h2]
  · rw [if_neg h, if_neg (by decide)]
    simp only [show (6 : Int) = 0 ↔ False from by decide, false_iff]
    exact fun h2 => h ⟨h2.1, h2.2.1⟩
theorem check_take {m : Nat} {l : List Prt} {t k : Str} {ps : List Pck} {i : Nat} (h : checkM (m + 1) l ⟨t, k, ps⟩ = 0) (hi : 1 ≤ i) (hl : i ≤ ps.length) : checkM (m + 1) l ⟨t, k, ps.take i⟩ = 0 := by
  obtain ⟨h1, h2, h3, h4⟩ := checkM_zero.1 h
  exact checkM_zero.2 ⟨h1, h2, shape_take h3 hi hl, goes_take h4⟩
end Go.Proofs.Ytgckpmcdlciibab
