/- An argument that asks, opened. -/
import Derived.Test.YtgckpmcdlciibabZF
import Derived.SizedLaws
import Derived.Test.YtgckpmcdlciibabZP
namespace Go.Proofs.Ytgckpmcdlciibab
open Go.ChangeShapes Go.WideShapes Go.ChangeAt Go.RowKit
theorem openW_ask {H : Type} {enc : TypeId × Value → H} {w : World} {base : Nat} {spare : Nat → Bool} {held : Bool} {fuel : Nat} {cs : List Value} {x : DataW H × List MemPlace} (h : DataW.trod enc Try.prog w base spare held fuel 37 cs = some x) :
    ∃ (m : Nat) (q : Ak) (v : Value), cs = [.string q.type, .string q.key, v] ∧ SliceOf (pckLay (m + 1)) All w v q.picks ∧ ((∀ p ∈ q.picks, ∀ k, okPck k p) ∧ q.type.size ≤ maxLen ∧ q.key.size ≤ maxLen) := by
  have hl : cs.length = 3 := (cells_of Try.underlying37 h).trans (by kernel_rfl)
  obtain ⟨c0, c1, c2, rfl⟩ := len3 hl
  obtain ⟨n0, y0, h0⟩ := field1 Try.underlying37 h 0 rfl rfl rfl (by kernel_rfl : Try.prog.cellsOf 9 = 1) (rfl : _ = some c0)
  obtain ⟨n1, y1, h1⟩ := field1 Try.underlying37 h 1 rfl rfl rfl (by kernel_rfl : Try.prog.cellsOf 9 = 1) (rfl : _ = some c1)
  obtain ⟨n2, y2, h2⟩ := field1 Try.underlying37 h 2 rfl rfl rfl (by kernel_rfl : Try.prog.cellsOf 35 = 1) (rfl : _ = some c2)
  obtain ⟨s0, e0, _, b0⟩ := DataW.trod_string Try.underlying9 h0
  obtain ⟨s1, e1, _, b1⟩ := DataW.trod_string Try.underlying9 h1
  obtain ⟨v, ps, e2, hs, b2⟩ := open_list_fuel (L := pckLay (n2 + 1)) (ok := fun p => ∀ k, okPck k p) Try.underlying35 (by kernel_rfl) (fun n cs' x' hn hx => by
    obtain ⟨p, hp, hk⟩ := open_pck n hx
    exact ⟨p, pckIs_le hp (by omega), hk⟩) h2
  simp only [List.cons.injEq, and_true] at e0 e1 e2
  subst e0; subst e1; subst e2
  exact ⟨n2, ⟨s0, s1, ps⟩, _, rfl, hs, b2, b0, b1⟩
end Go.Proofs.Ytgckpmcdlciibab
