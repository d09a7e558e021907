/- Worlds that go on: what stood stays. -/
import Derived.Test.YtgckpmcdlciibaaInst
namespace Go.Proofs.Ytgckpmcdlciibaa
open Go.RowKit

/-- all that stood in w stands in w' -/
def Up (w w' : World) : Prop := Below w.heap.size w w'
theorem Up.refl (w : World) : Up w w := Below.refl _ _
theorem Up.below {w w' : World} (h : Up w w') : Below w.heap.size w w' := h
theorem Up.size {w w' : World} (h : Up w w') : w.heap.size ≤ w'.heap.size := Below.size h
theorem Up.trans {a b c : World} (h : Up a b) (k : Up b c) : Up a c := Below.trans (b := b) h (Below.mono k h.size)
theorem Up.drew (w : World) : Up w w.drew := Below.drew (Below.refl _ _)
theorem Up.alloc (w : World) (o : Obj) : Up w (w.alloc o) := Below.alloc (Below.refl _ _) (Nat.le_refl _) o
theorem Up.block {w w' : World} (h : Up w w') {b : Nat} (hb : b < w.heap.size) : w'.heap[b]? = w.heap[b]? := Below.block h b hb
theorem Up.cell {w w' : World} (h : Up w w') {a : Addr} {v : Value} (hc : w.cell? a = some v) : w'.cell? a = some v :=
  (World.cell?_of_block (h.block (World.block_lt_of_cell? w a hc))).trans hc
theorem At.up {w w' : World} {b o : Nat} {cs : List Value} (h : At w b o cs) (hu : Up w w') : At w' b o cs := fun j v hj => hu.cell (h j v hj)
theorem At.lt {w : World} {b o : Nat} {c : Value} {cs : List Value} (h : At w b o (c :: cs)) : b < w.heap.size := World.block_lt_of_cell? w _ (h 0 c rfl)
theorem At.new (w : World) (cs : List Value) (t : TypeId) : At (w.alloc (.cells cs.toArray t)) w.heap.size 0 cs := fun j v hj => by
  rw [cell_of_row _ _ _ cs.toArray t (0, 0) (heap_alloc_new w _)]
  simpa using hj
/-- what a value's cells are, as a list -/
theorem At.box (w : World) (v : Value) (t : TypeId) : At (w.alloc (.cells v.cells t)) w.heap.size 0 v.cells.toList := by
  have := At.new w v.cells.toList t
  simpa using this
/-- the first index below n of which p holds; -1: there is none -/
def idx (p : Nat → Bool) (n : Nat) : Int := match (List.range n).find? p with
  | some i => (i : Int)
  | none => -1
theorem idx_hit {p : Nat → Bool} {n i : Nat} (hi : i < n) (hp : p i = true) (h : ∀ j, j < i → p j = false) : idx p n = i := by
  have : (List.range n).find? p = some i := by
    rw [List.find?_range_eq_some]
    exact ⟨hp, by simpa using hi, fun j hj => by simp [h j hj]⟩
  simp [idx, this]
theorem idx_miss {p : Nat → Bool} {n : Nat} (h : ∀ j, j < n → p j = false) : idx p n = -1 := by
  have : (List.range n).find? p = none := by
    rw [List.find?_range_eq_none]
    intro j hj
    simp [h j hj]
  simp [idx, this]

/-- the slice value's elements, by index: k cells each -/
def Elems (k : Nat) (w : World) (sv : Value) (n : Nat) (cells : Nat → List Value) : Prop :=
  ∃ a c, sv = .slice a n c ∧ n ≤ c ∧ c ≤ maxLen ∧ (0 < n → ∃ b o, a = some ⟨b, o, none⟩ ∧ ∀ i, i < n → (cells i).length = k ∧ At w b (o + i * k) (cells i))

end Go.Proofs.Ytgckpmcdlciibaa
