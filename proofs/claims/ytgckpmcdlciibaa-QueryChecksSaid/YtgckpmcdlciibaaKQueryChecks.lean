/- stitchlaw4.QueryChecks answers true, whatever it is called with, and leaves its arguments as they were. Its conditions: none beyond those that the given row states. -/
import Derived.Test.YtgckpmcdlciibaaRow
import Derived.Test.YtgckpmcdlciibaaOpen2
import Derived.Test.YtgckpmcdlciibaaC19
namespace Go.Proofs.Ytgckpmcdlciibaa
open Go.ChangeShapes Go.WideShapes Go.ChangeAt Go.RowKit
theorem open_ask {H : Type} {enc : TypeId × Value → H} {w : World} {base : Nat} {spare : Nat → Bool} {held : Bool} {fuel : Nat} {cs : List Value} {x : DataW H × List MemPlace} (h : DataW.trod enc Try.prog w base spare held fuel 41 cs = some x) :
    ∃ (m : Nat) (q : Ak) (v : Value), cs = [.string q.type, .string q.key, v] ∧ SliceOf (pckLay (m + 1)) All w v q.picks ∧ (∀ p ∈ q.picks, ∀ k, okPck k p) ∧ q.type.size ≤ maxLen ∧ q.key.size ≤ maxLen := by
  have hl : cs.length = 3 := (cells_of Try.underlying41 h).trans (by kernel_rfl)
  obtain ⟨c0, c1, c2, rfl⟩ := len3 hl
  obtain ⟨n0, y0, h0⟩ := field1 Try.underlying41 h 0 rfl rfl rfl (by kernel_rfl : Try.prog.cellsOf 9 = 1) (rfl : _ = some c0)
  obtain ⟨n1, y1, h1⟩ := field1 Try.underlying41 h 1 rfl rfl rfl (by kernel_rfl : Try.prog.cellsOf 9 = 1) (rfl : _ = some c1)
  obtain ⟨n2, y2, h2⟩ := field1 Try.underlying41 h 2 rfl rfl rfl (by kernel_rfl : Try.prog.cellsOf 39 = 1) (rfl : _ = some c2)
  obtain ⟨s0, e0, _, b0⟩ := DataW.trod_string Try.underlying9 h0
  obtain ⟨s1, e1, _, b1⟩ := DataW.trod_string Try.underlying9 h1
  obtain ⟨v, ps, e2, hs, b2⟩ := open_list_fuel (L := pckLay (n2 + 1)) (ok := fun p => ∀ k, okPck k p) Try.underlying39 (by kernel_rfl) (fun n cs' x' hn hx => by
    obtain ⟨p, hp, hk⟩ := open_pck n hx
    exact ⟨p, pckIs_le hp (by omega), hk⟩) h2
  simp only [List.cons.injEq, and_true] at e0 e1 e2
  subst e0; subst e1; subst e2
  exact ⟨n2, ⟨s0, s1, ps⟩, _, rfl, hs, b2, b0, b1⟩
set_option maxRecDepth 100000 in
theorem queryChecks_lifted (os : Os) (started : os.Started) (H : Type) (enc : TypeId × Value → H) :
    ReturnsInHanded {} Try.checked os 5 .any (Rows.queryChecksSpec.pre6 enc Try.prog Try.f5 Rows.queryChecksRow.domain false) (Rows.queryChecksSpec.post enc Try.prog Try.f5 false true false false) := by
  refine returnsInHanded_of_change (C := Try.checked) own started (by kernel_rfl) Try.func5
    (ChangeSpec.witness6 (enc := enc) (C := Try.checked) false ⟨#[], #[.slice none 0 0, .agg #[.string ⟨#[]⟩, .string ⟨#[]⟩, .slice none 0 0]], []⟩ 8 (by kernel_rfl) (by kernel_rfl) (by kernel_rfl) (by kernel_rfl)) ?_
  intro W base args ds gs before hval0 hW hcnd _
  have hval : ∀ (j : Nat) t v, Try.f5.params[j]? = some t → args[j]? = some v → Value.okWide Try.prog W .any base t v := hval0
  have hW' := hW
  obtain ⟨p, q, hA0, hV, rfl, hfz, hnd⟩ := hW
  have hA : DataW.TrodAll enc Try.prog W 0 (fun _ => true) true Try.f5.params.toList args.toList ds p := hA0
  rw [Try.params5] at hA hval
  obtain ⟨v0, v1, d0, d1, p0, p1, rfl, rfl, rfl, h0, h1⟩ := trodAll_two hA
  obtain ⟨a0, l0, c0, rfl⟩ := okWide_slice Try.underlying38 (hval 0 38 v0 rfl rfl)
  obtain ⟨fuel0, h0⟩ := h0
  obtain ⟨u0, x0, hv0, hl0, ho0⟩ := open_list Try.underlying38 (by kernel_rfl) opens_prt h0
  simp only [Value.cells, List.cons.injEq, and_true] at hv0
  subst hv0
  obtain ⟨u1, rfl, hu1⟩ := okWide_struct Try.underlying41 (hval 1 41 v1 rfl rfl)
  obtain ⟨fuel1, h1⟩ := h1
  obtain ⟨m1, q1, w1, hq1, hp1, hk1, ht1, hy1⟩ := open_ask h1
  obtain ⟨u1⟩ := u1
  simp only [Value.cells] at hq1
  subst hq1
  refine (QueryChecks_walk q1 W hl0 hp1 (fun p hp => hk1 p hp _) ht1 hy1).mono fun e W' ⟨he, hu⟩ => ?_
  subst he
  exact ⟨_, rfl, law_post hW' rfl rfl (fun gs hg => by subst hg; rfl) (by kernel_rfl) hu⟩
theorem queryChecks_holds : Rows.QueryChecksSaid :=
  OpenClaim.holds_of_wide 5 Try.f5 rfl rfl rfl rfl rfl rfl rfl ⟨rfl, rfl, rfl, rfl, rfl⟩ rfl rfl rfl rfl rfl (by kernel_rfl) Try.func5 (by kernel_rfl)
    (of_decide_eq_true (by kernel_rfl)) (by unfold Func.isWrapper; first | (rw [if_pos (by decide +kernel)]; kernel_rfl) | (rw [if_neg (by decide +kernel)]; exact ⟨rfl, rfl⟩))
    (fun os started H enc _ => queryChecks_lifted os started H enc)
end Go.Proofs.Ytgckpmcdlciibaa
