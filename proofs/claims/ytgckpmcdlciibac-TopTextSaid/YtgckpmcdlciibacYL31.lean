/- The closed fact of chapter 7. -/
import Derived.Test.YtgckpmcdlciibacYL21
import Derived.Test.YtgckpmcdlciibacZ1
namespace Go.Proofs.Ytgckpmcdlciibac
open Go.RowKit
def sevAsk : Ak := ⟨sixUser, sixAnn, [.mk sixNo sixBoss [.mk sixNo sixName []]]⟩
def sevGot : List Gt := [.mk sixBoss 2 false sixNo [.mk sixName 1 false sixAnnT [] []] []]
theorem run7 : (runM 2 sixTwo sevAsk).1 = sevGot ∧ (runM 2 sixTwo sevAsk).2.1.length = 4 ∧ (runM 2 sixTwo sevAsk).2.2 = 0 := ⟨by kernel_rfl, by kernel_rfl, by kernel_rfl⟩
theorem ok_six : ∀ s ∈ sixTwo, okSvc s := fun s hs => by
  simp only [sixTwo, List.mem_cons, List.not_mem_nil, or_false] at hs
  rcases hs with rfl | rfl <;> simp [sixOne, okSvc, okL, okWT, okWX, okWV, okS, okFld, maxLen, sixUser, sixName, sixBoss, sixAnn, sixAnnT, sixNo] <;> decide
set_option maxHeartbeats 1000000 in
theorem alive7_any (w : World) : Calls Try.prog 21 #[] w fun en w' => en = .returned (.bool true) ∧ Up w w' := by
  refine calls_of_sim Try.func21 rfl (Nat.le_of_ble_eq_true rfl) ?_
  repeat (first | refine RL.vv ?_ | refine RL.p ?_ | refine RL.nil ?_ | refine Sim.seq ?_ | refine Sim.region ?_ | refine Sim.block ?_ | refine Sim.skip ?_ | refine Sim.inBlock ?_ | refine Sim.exit rfl ?_ | refine Sim.condT rfl ?_ | refine Sim.condF rfl ?_)
  refine RL.cx (two7_any w) ?_
  rintro _ w1 ⟨lv, rfl, hu1, hl⟩
  refine ⟨_, rfl, ?_⟩
  obtain ⟨la, lc, rfl, _⟩ := id hl
  refine RL.val trivial rfl (y_build (v := .agg #[.string sixNo, .string sixName, .slice none 0 0]) rfl (fun w => by kernel_rfl)) ?_
  refine RL.bu (el := 87) [.string sixNo, .string sixName, .slice none 0 0] hu1 fun b6 w2 _ _ hu2 h12 hb6 => ?_
  have h6 : SliceOf (pckLay 1) (fun _ => True) w2 (.slice (some ⟨b6, 0, none⟩) 1 1) [.mk sixNo sixName []] := SliceOf.one hb6 trivial ⟨none, 0, rfl, Nat.le_refl _, Nat.zero_le _, fun h => absurd h (Nat.lt_irrefl _)⟩
  refine RL.val trivial rfl (y_build (v := .agg #[.string sixNo, .string sixBoss, .slice (some ⟨b6, 0, none⟩) 1 1]) rfl (fun w => by kernel_rfl)) ?_
  refine RL.bu (el := 87) [.string sixNo, .string sixBoss, .slice (some ⟨b6, 0, none⟩) 1 1] hu2 fun b8 w3 _ _ hu3 h23 hb8 => ?_
  have h8 : SliceOf (pckLay 2) (fun _ => True) w3 (.slice (some ⟨b8, 0, none⟩) 1 1) [.mk sixNo sixBoss [.mk sixNo sixName []]] := SliceOf.one hb8 trivial (pckLay_intro (n := 1) (p := .mk sixNo sixBoss [.mk sixNo sixName []]) (h6.up h23))
  refine RL.val trivial rfl (y_build (v := .agg #[.string sixUser, .string sixAnn, .slice (some ⟨b8, 0, none⟩) 1 1]) rfl (fun w => by kernel_rfl)) ?_
  refine RL.cx (Run_any (m := 1) sevAsk w3 ((hl.up h12).up h23) ok_six h8) ?_
  rintro _ w4 ⟨v, rv, rfl, h34, hs, hr⟩
  refine ⟨_, rfl, ?_⟩
  have hu4 := hu3.trans h34
  obtain ⟨r1, r2, r3⟩ := run7
  rw [r1] at hs
  rw [r3]
  obtain ⟨va, vc, rfl, _⟩ := id hs
  obtain ⟨ra, rc, rfl, _⟩ := id hr
  obtain ⟨gb, go, cs, rfl, _, hgat, hgi, _⟩ := hs.at (i := 0) (x := .mk sixBoss 2 false sixNo [.mk sixName 1 false sixAnnT [] []] []) rfl
  obtain ⟨v1, v2, rfl, hv1, _⟩ := gt_succ.1 hgi
  obtain ⟨a1, c1, rfl, _⟩ := id hv1
  obtain ⟨hb, ho', cs, rfl, _, hhat, hhi, _⟩ := hv1.at (i := 0) (x := .mk sixName 1 false sixAnnT [] []) rfl
  obtain ⟨u1, u2, rfl, _, _⟩ := gt_succ.1 hhi
  have hgat : At w4 gb (go + 0 * 6) _ := hgat
  have hhat : At w4 hb (ho' + 0 * 6) _ := hhat
  clear hl h6 h8 hs hv1 hgi hhi hb6 hb8 h12 h23 h34 hr
  have k1 : (sevGot.length : Int) = 1 := rfl
  have k2 : ((Gt.mk sixBoss 2 false sixNo [.mk sixName 1 false sixAnnT [] []] []).sub.length : Int) = 1 := rfl
  have k4 : (Gt.mk sixName 1 false sixAnnT [] []).text = ⟨#[65, 110, 110]⟩ := rfl
  have k5 : 0 < sevGot.length := by decide
  have k6 : 0 < (Gt.mk sixBoss 2 false sixNo [.mk sixName 1 false sixAnnT [] []] []).sub.length := by decide
  have k7 : ((runM 2 sixTwo sevAsk).2.1.length : Int) = 4 := by omega
  repeat (first | refine RL.vv ?_ | refine RL.p ?_ | refine RL.nil ?_ | refine Sim.seq ?_ | refine Sim.region ?_ | refine Sim.block ?_ | refine Sim.skip ?_ | refine Sim.inBlock ?_ | refine Sim.exit rfl ?_ | refine Sim.condT rfl ?_ | refine Sim.condF rfl ?_)
  exact Sim.ret1 Try.func21 rfl rfl ⟨rfl, hu4⟩
end Go.Proofs.Ytgckpmcdlciibac
