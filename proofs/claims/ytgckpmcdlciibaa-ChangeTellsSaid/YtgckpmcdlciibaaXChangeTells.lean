/- stitchlaw2.ChangeTells answers true, whatever it is called with, and leaves its arguments as they were. Its conditions: none beyond those that the given row states. -/
import Derived.Test.YtgckpmcdlciibaaZF
import Derived.Test.YtgckpmcdlciibaaYL50
namespace Go.Proofs.Ytgckpmcdlciibaa
open Go.ChangeShapes Go.WideShapes Go.ChangeAt Go.RowKit
set_option maxRecDepth 100000 in
theorem changeTells_lifted (os : Os) (started : os.Started) (H : Type) (enc : TypeId × Value → H) :
    ReturnsInHanded {} Try.checked os 9 .any (Rows.changeTellsSpec.pre6 enc Try.prog Try.f9 Rows.changeTellsRow.domain false) (Rows.changeTellsSpec.post enc Try.prog Try.f9 false true false false) := by
  refine returnsInHanded_of_change_sized (C := Try.checked) own started (by kernel_rfl) Try.func9
    (ChangeSpec.witness6 (enc := enc) (C := Try.checked) false ⟨#[], #[.slice none 0 0, .slice none 0 0], []⟩ 8 (by kernel_rfl) (by kernel_rfl) (by kernel_rfl) (by kernel_rfl)) ?_
  intro W base args ds gs before hval0 hW hcnd hsz0 _
  have hval : ∀ (j : Nat) t v, Try.f9.params[j]? = some t → args[j]? = some v → Value.okWide Try.prog W .any base t v := hval0
  have hsz : (DataW.weightsEach Try.prog (Try.f9.params.toList ++ Rows.changeTellsSpec.plain.varTypes Try.prog) (ds ++ gs)).all (· ≤ reachBytes) = true := hsz0
  have hW' := hW
  obtain ⟨p, q, hA0, hV, rfl, hfz, hnd⟩ := hW
  have hA : DataW.TrodAll enc Try.prog W 0 (fun _ => true) true Try.f9.params.toList args.toList ds p := hA0
  rw [Try.params9] at hA hval hsz
  obtain ⟨v0, v1, d0, d1, p0, p1, rfl, rfl, hpp, h0, h1⟩ := trodAll_two hA
  have hx0 := light_each hsz (j := 0) rfl rfl
  obtain ⟨a0, l0, c0, rfl⟩ := okWide_slice Try.underlying44 (hval 0 44 v0 rfl rfl)
  obtain ⟨fuel0, h0⟩ := h0
  obtain ⟨u0, x0, hv0, hl0, ho0⟩ := openW (by_ := 40) Try.underlying44 (by kernel_rfl) (by kernel_rfl) opensW_typ h0 hx0
  simp only [Value.cells, List.cons.injEq, and_true] at hv0
  subst hv0
  have hx1 := light_each hsz (j := 1) rfl rfl
  obtain ⟨a1, l1, c1, rfl⟩ := okWide_slice Try.underlying60 (hval 1 60 v1 rfl rfl)
  obtain ⟨fuel1, h1⟩ := h1
  obtain ⟨u1, x1, hv1, hl1, ho1⟩ := openW (by_ := 56) Try.underlying60 (by kernel_rfl) (by kernel_rfl) opensW_chg h1 hx1
  simp only [Value.cells, List.cons.injEq, and_true] at hv1
  subst hv1
  refine (ChangeTells_walk W hl0 hl1 (okTs_of ho0) (okCs_of ho1)).mono fun e W' ⟨he, hu⟩ => ?_
  subst he
  exact ⟨_, rfl, law_post hW' rfl rfl (fun gs hg => by subst hg; rfl) (by kernel_rfl) hu⟩
theorem changeTells_holds : Rows.ChangeTellsSaid :=
  OpenClaim.holds_of_wide 9 Try.f9 rfl rfl rfl rfl rfl rfl rfl ⟨rfl, rfl, rfl, rfl, rfl⟩ rfl rfl rfl rfl rfl (by kernel_rfl) Try.func9 (by kernel_rfl)
    (of_decide_eq_true (by kernel_rfl)) (by unfold Func.isWrapper; first | (rw [if_pos (by decide +kernel)]; kernel_rfl) | (rw [if_neg (by decide +kernel)]; exact ⟨rfl, rfl⟩))
    (fun os started H enc _ => changeTells_lifted os started H enc)
end Go.Proofs.Ytgckpmcdlciibaa
