/- stitchlaw4.QueryTells answers true, whatever it is called with, and leaves its arguments as they were. Its conditions: none beyond those that the given row states. -/
import Derived.Test.YtgckpmcdlciibaaZF
import Derived.Test.YtgckpmcdlciibaaYOpenA
import Derived.Test.YtgckpmcdlciibaaYL57
namespace Go.Proofs.Ytgckpmcdlciibaa
open Go.ChangeShapes Go.WideShapes Go.ChangeAt Go.RowKit
set_option maxRecDepth 100000 in
theorem queryTells_lifted (os : Os) (started : os.Started) (H : Type) (enc : TypeId × Value → H) :
    ReturnsInHanded {} Try.checked os 14 .any (Rows.queryTellsSpec.pre6 enc Try.prog Try.f14 Rows.queryTellsRow.domain false) (Rows.queryTellsSpec.post enc Try.prog Try.f14 false true false false) := by
  refine returnsInHanded_of_change_sized (C := Try.checked) own started (by kernel_rfl) Try.func14
    (ChangeSpec.witness6 (enc := enc) (C := Try.checked) false ⟨#[], #[.string ⟨#[]⟩, .agg #[.string ⟨#[]⟩, .string ⟨#[]⟩, .slice none 0 0]], []⟩ 8 (by kernel_rfl) (by kernel_rfl) (by kernel_rfl) (by kernel_rfl)) ?_
  intro W base args ds gs before hval0 hW hcnd hsz0 _
  have hval : ∀ (j : Nat) t v, Try.f14.params[j]? = some t → args[j]? = some v → Value.okWide Try.prog W .any base t v := hval0
  have hsz : (DataW.weightsEach Try.prog (Try.f14.params.toList ++ Rows.queryTellsSpec.plain.varTypes Try.prog) (ds ++ gs)).all (· ≤ reachBytes) = true := hsz0
  have hW' := hW
  obtain ⟨p, q, hA0, hV, rfl, hfz, hnd⟩ := hW
  have hA : DataW.TrodAll enc Try.prog W 0 (fun _ => true) true Try.f14.params.toList args.toList ds p := hA0
  rw [Try.params14] at hA hval hsz
  obtain ⟨v0, v1, d0, d1, p0, p1, rfl, rfl, hpp, h0, h1⟩ := trodAll_two hA
  have hx0 := light_each hsz (j := 0) rfl rfl
  obtain ⟨x0, rfl, rfl, rfl, ho0⟩ := ChangeMaps.open_string Try.underlying9 (hval 0 9 v0 rfl rfl) h0
  have hx1 := light_each hsz (j := 1) rfl rfl
  obtain ⟨u1, rfl, hu1⟩ := okWide_struct Try.underlying41 (hval 1 41 v1 rfl rfl)
  obtain ⟨fuel1, h1⟩ := h1
  obtain ⟨m1, x1, pv1, he1, hp1, ho1⟩ := openW_ask h1
  obtain ⟨u1⟩ := u1
  simp only [Value.cells] at he1
  subst he1
  refine (QueryTells_walk x0 x1 W hp1 (fun p hp => ho1.1 p hp _) ho1.2.1 ho1.2.2).mono fun e W' ⟨he, hu⟩ => ?_
  subst he
  exact ⟨_, rfl, law_post hW' rfl rfl (fun gs hg => by subst hg; rfl) (by kernel_rfl) hu⟩
theorem queryTells_holds : Rows.QueryTellsSaid :=
  OpenClaim.holds_of_wide 14 Try.f14 rfl rfl rfl rfl rfl rfl rfl ⟨rfl, rfl, rfl, rfl, rfl⟩ rfl rfl rfl rfl rfl (by kernel_rfl) Try.func14 (by kernel_rfl)
    (of_decide_eq_true (by kernel_rfl)) (by unfold Func.isWrapper; first | (rw [if_pos (by decide +kernel)]; kernel_rfl) | (rw [if_neg (by decide +kernel)]; exact ⟨rfl, rfl⟩))
    (fun os started H enc _ => queryTells_lifted os started H enc)
end Go.Proofs.Ytgckpmcdlciibaa
