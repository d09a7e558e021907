/- The closed fact of chapter 6. -/
import Derived.Test.YtgckpmcdlciibacYL20
namespace Go.Proofs.Ytgckpmcdlciibac
open Go.RowKit
theorem pckLay_intro {n : Nat} {S : Nat → Prop} {w : World} {v : Value} {p : Pck} (h : SliceOf (pckLay n) S w v p.picks) : (pckLay (n + 1)).is S w [.string p.as, .string p.field, v] p := by
  obtain ⟨a, c, rfl, h1, h2, h3⟩ := h
  exact ⟨a, c, rfl, h1, h2, h3⟩
set_option maxHeartbeats 1000000 in
theorem alive6_any (w : World) : Calls Try.prog 14 #[] w fun en w' => en = .returned (.bool true) ∧ Up w w' := by
  refine calls_of_sim Try.func14 rfl (Nat.le_of_ble_eq_true rfl) ?_
  repeat (first | refine RL.vv ?_ | refine RL.p ?_ | refine RL.nil ?_ | refine Sim.seq ?_ | refine Sim.region ?_ | refine Sim.block ?_ | refine Sim.skip ?_ | refine Sim.inBlock ?_ | refine Sim.exit rfl ?_ | refine Sim.condT rfl ?_ | refine Sim.condF rfl ?_)
  refine RL.cx (two6_any w) ?_
  rintro _ w1 ⟨lv, rfl, hu1, hl⟩
  refine ⟨_, rfl, ?_⟩
  obtain ⟨la, lc, rfl, _⟩ := id hl
  refine RL.val trivial rfl (y_build (v := .agg #[.string sixN, .string sixName, .slice none 0 0]) rfl (fun w => by kernel_rfl)) ?_
  refine RL.bu (el := 87) [.string sixN, .string sixName, .slice none 0 0] hu1 fun b6 w2 _ _ hu2 h12 hb6 => ?_
  have h6 : SliceOf (pckLay 1) (fun _ => True) w2 (.slice (some ⟨b6, 0, none⟩) 1 1) [.mk sixN sixName []] := SliceOf.one hb6 trivial ⟨none, 0, rfl, Nat.le_refl _, Nat.zero_le _, fun h => absurd h (Nat.lt_irrefl _)⟩
  refine RL.val trivial rfl (y_build (v := .agg #[.string sixNo, .string sixBoss, .slice (some ⟨b6, 0, none⟩) 1 1]) rfl (fun w => by kernel_rfl)) ?_
  refine RL.bu (el := 87) [.string sixNo, .string sixBoss, .slice (some ⟨b6, 0, none⟩) 1 1] hu2 fun b8 w3 _ _ hu3 h23 hb8 => ?_
  have h8 : SliceOf (pckLay 2) (fun _ => True) w3 (.slice (some ⟨b8, 0, none⟩) 1 1) [.mk sixNo sixBoss [.mk sixN sixName []]] := SliceOf.one hb8 trivial (pckLay_intro (n := 1) (p := .mk sixNo sixBoss [.mk sixN sixName []]) (h6.up h23))
  refine RL.val trivial rfl (y_build (v := .agg #[.string sixUser, .string sixAnn, .slice (some ⟨b8, 0, none⟩) 1 1]) rfl (fun w => by kernel_rfl)) ?_
  refine RL.cx (Mean_any (m := 1) sixAsk6 w3 ((hl.up h12).up h23) h8) ?_
  rintro _ w4 ⟨v, rfl, h34, ho⟩
  refine ⟨_, rfl, ?_⟩
  have hu4 := hu3.trans h34
  rw [mean6] at ho ⊢
  have hs := ho.sl (S' := fun _ => True) (fun _ _ _ _ => trivial) fun _ _ => trivial
  simp only at hs
  obtain ⟨va, vc, rfl, _⟩ := id hs
  obtain ⟨gb, go, cs, rfl, _, hgat, hgi, _⟩ := hs.at (i := 0) (x := .mk sixBoss 2 false sixNo [.mk sixN 1 false sixAnnT [] []] []) rfl
  obtain ⟨v1, v2, rfl, hv1, _⟩ := gt_succ.1 hgi
  obtain ⟨a1, c1, rfl, _⟩ := id hv1
  obtain ⟨hb, ho', cs, rfl, _, hhat, hhi, _⟩ := hv1.at (i := 0) (x := .mk sixN 1 false sixAnnT [] []) rfl
  obtain ⟨u1, u2, rfl, _, _⟩ := gt_succ.1 hhi
  have hgat : At w4 gb (go + 0 * 6) _ := hgat
  have hhat : At w4 hb (ho' + 0 * 6) _ := hhat
  clear hl h6 h8 hs hv1 hgi hhi ho hb6 hb8 h12 h23 h34
  have k1 : (sixGot6.length : Int) = 1 := rfl
  have k2 : ((Gt.mk sixBoss 2 false sixNo [.mk sixN 1 false sixAnnT [] []] []).sub.length : Int) = 1 := rfl
  have k3 : (Gt.mk sixN 1 false sixAnnT [] []).name = ⟨#[110]⟩ := rfl
  have k4 : (Gt.mk sixN 1 false sixAnnT [] []).text = ⟨#[65, 110, 110]⟩ := rfl
  have k5 : 0 < sixGot6.length := by decide
  have k6 : 0 < (Gt.mk sixBoss 2 false sixNo [.mk sixN 1 false sixAnnT [] []] []).sub.length := by decide
  repeat (first | refine RL.vv ?_ | refine RL.p ?_ | refine RL.nil ?_ | refine Sim.seq ?_ | refine Sim.region ?_ | refine Sim.block ?_ | refine Sim.skip ?_ | refine Sim.inBlock ?_ | refine Sim.exit rfl ?_ | refine Sim.condT rfl ?_ | refine Sim.condF rfl ?_)
  exact Sim.ret1 Try.func14 rfl rfl ⟨rfl, hu4⟩
end Go.Proofs.Ytgckpmcdlciibac
