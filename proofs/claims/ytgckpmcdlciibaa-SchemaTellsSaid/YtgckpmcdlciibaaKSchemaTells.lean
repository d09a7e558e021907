/- stitchlaw1.SchemaTells answers true, whatever it is called with, and leaves its arguments as they were. Its conditions: none beyond those that the given row states. -/
import Derived.Test.YtgckpmcdlciibaaRow
import Derived.Test.YtgckpmcdlciibaaL1
namespace Go.Proofs.Ytgckpmcdlciibaa
open Go.ChangeShapes Go.WideShapes Go.ChangeAt Go.RowKit

set_option maxRecDepth 100000 in
theorem schemaTells_lifted (os : Os) (started : os.Started) (H : Type) (enc : TypeId × Value → H) :
    ReturnsInHanded {} Try.checked os 6 .any (Rows.schemaTellsSpec.pre6 enc Try.prog Try.f6 Rows.schemaTellsRow.domain false) (Rows.schemaTellsSpec.post enc Try.prog Try.f6 false true false false) := by
  refine returnsInHanded_of_change (C := Try.checked) own started (by kernel_rfl) Try.func6
    (ChangeSpec.witness6 (enc := enc) (C := Try.checked) false ⟨#[], #[.slice none 0 0, .slice none 0 0, .string ⟨#[]⟩], []⟩ 8 (by kernel_rfl) (by kernel_rfl) (by kernel_rfl) (by kernel_rfl)) ?_
  intro W base args ds gs before hval0 hW hcnd _
  have hval : ∀ (j : Nat) t v, Try.f6.params[j]? = some t → args[j]? = some v → Value.okWide Try.prog W .any base t v := hval0
  have hW' := hW
  obtain ⟨p, q, hA0, hV, rfl, hfz, hnd⟩ := hW
  have hA : DataW.TrodAll enc Try.prog W 0 (fun _ => true) true Try.f6.params.toList args.toList ds p := hA0
  rw [Try.params6] at hA hval
  obtain ⟨v0, v1, v2, d0, d1, d2, p0, p1, p2, rfl, rfl, rfl, h0, h1, h2⟩ := trodAll_three hA
  obtain ⟨fuel0, h0⟩ := h0
  obtain ⟨fuel1, h1⟩ := h1
  obtain ⟨s, rfl, rfl, rfl, hs⟩ := ChangeMaps.open_string Try.underlying9 (hval 2 9 v2 rfl rfl) h2
  obtain ⟨la, ll, lc, rfl⟩ := okWide_slice Try.underlying44 (hval 0 44 v0 rfl rfl)
  obtain ⟨xa, xl, xc, rfl⟩ := okWide_slice Try.underlying45 (hval 1 45 v1 rfl rfl)
  obtain ⟨v, l, hv, hl, hol⟩ := open_list Try.underlying44 (by kernel_rfl) opens_typ h0
  obtain ⟨xv, xs, hxv, hxs, hox⟩ := open_list Try.underlying45 (by kernel_rfl) opens_thg h1
  simp only [Value.cells, List.cons.injEq, and_true] at hv hxv
  subst hv
  subst hxv
  refine (SchemaTells_walk s W hl hxs (fun t ht => ⟨(hol t ht).1, fun f hf => ((hol t ht).2 f hf).1⟩) (fun x hx => ⟨(hox x hx).2.1, fun v hv k hk => ((hox x hx).2.2 v hv).2.2 k hk⟩) hs).mono fun e W' ⟨he, hu⟩ => ?_
  subst he
  exact ⟨_, rfl, law_post hW' rfl rfl (fun gs hg => by subst hg; rfl) (by kernel_rfl) hu⟩

theorem schemaTells_holds : Rows.SchemaTellsSaid :=
  OpenClaim.holds_of_wide 6 Try.f6 rfl rfl rfl rfl rfl rfl rfl ⟨rfl, rfl, rfl, rfl, rfl⟩ rfl rfl rfl rfl rfl (by kernel_rfl) Try.func6 (by kernel_rfl)
    (of_decide_eq_true (by kernel_rfl)) (by unfold Func.isWrapper; first | (rw [if_pos (by decide +kernel)]; kernel_rfl) | (rw [if_neg (by decide +kernel)]; exact ⟨rfl, rfl⟩))
    (fun os started H enc _ => schemaTells_lifted os started H enc)
end Go.Proofs.Ytgckpmcdlciibaa
