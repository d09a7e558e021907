/- Two rows that grow side by side. -/
import Derived.Test.YtgckpmcdlciibabZ0
namespace Go.Proofs.Ytgckpmcdlciibab
open Go.RowKit
/-- two rows that grow side by side -/
structure Pair {α : Type} (L : Lay α) (el : TypeId) (B0 B : Nat) (w : World) (v1 v2 : Value) (xs ys : List α) : Prop where
  le : B0 ≤ B
  fst : Own L el B (fun b => b < B0 ∨ (B ≤ b ∧ some b ≠ v2.ownBlock)) w v1 xs
  snd : Own L el B (fun b => b < B0 ∨ (B ≤ b ∧ some b ≠ v1.ownBlock)) w v2 ys
  ne : ∀ g, v1.ownBlock = some g → v2.ownBlock ≠ some g
section
variable {α : Type} {L : Lay α} {el : TypeId} {B0 B : Nat} {w w1 : World} {v1 v2 v1' : Value} {xs ys xs' : List α}
theorem Pair.symm (h : Pair L el B0 B w v1 v2 xs ys) : Pair L el B0 B w v2 v1 ys xs := ⟨h.le, h.snd, h.fst, fun g h1 h2 => h.ne g h2 h1⟩
theorem Pair.nil (hB : B0 ≤ B) : Pair L el B0 B w (.slice none 0 0) (.slice none 0 0) [] [] := ⟨hB, Own.nil _ _ _ _ _, Own.nil _ _ _ _ _, fun g h => by cases h⟩
theorem Pair.up (h : Pair L el B0 B w v1 v2 xs ys) (hu : Up w w1) : Pair L el B0 B w1 v1 v2 xs ys := ⟨h.le, h.fst.up hu, h.snd.up hu, h.ne⟩
theorem Pair.but {b : Nat} (h : Pair L el B0 B w v1 v2 xs ys) (hb : But b w w1) (h0 : B0 ≤ b) (h1 : b < B) : Pair L el B0 B w1 v1 v2 xs ys :=
  ⟨h.le, h.fst.but hb (fun k hk => by omega) (fun g hg => by have := (h.fst.lt g hg).1; omega), h.snd.but hb (fun k hk => by omega) (fun g hg => by have := (h.snd.lt g hg).1; omega), h.ne⟩
/-- the first has grown -/
theorem Pair.step (h : Pair L el B0 B w v1 v2 xs ys) (hg : w.grownBy w1 v1.ownBlock) (ho : Own L el B (fun b => b < B0 ∨ (B ≤ b ∧ some b ≠ v2.ownBlock)) w1 v1' xs') (hv : ∀ g, v1'.ownBlock = some g → v1.ownBlock = some g ∨ g = w.heap.size) : Pair L el B0 B w1 v1' v2 xs' ys := by
  have hl := h.le
  refine ⟨h.le, ho, ((h.snd.shift (S' := fun b => (b < B0 ∨ (B ≤ b ∧ some b ≠ v1.ownBlock)) ∧ b < w.heap.size) fun b hb hlt _ => ⟨hb, hlt⟩).keep' (Grown.keep hg) (fun b hb _ _ e => ?_) (fun g hg' e => h.ne g e.symm hg')).shift fun b hb _ _ => ?_, fun g h1 h2 => ?_⟩
  · have := (h.fst.lt b e.symm).1
    rcases hb.1 with h1 | h1
    · omega
    · exact h1.2 e
  · rcases hb.1 with h1 | h1
    · exact .inl h1
    · refine .inr ⟨h1.1, fun e => ?_⟩
      rcases hv b e.symm with h2 | h2
      · exact h1.2 h2.symm
      · have := hb.2; omega
  · rcases hv g h1 with h3 | h3
    · exact h.ne g h3 h2
    · have := (h.snd.lt g h2).2; omega
end
end Go.Proofs.Ytgckpmcdlciibab
