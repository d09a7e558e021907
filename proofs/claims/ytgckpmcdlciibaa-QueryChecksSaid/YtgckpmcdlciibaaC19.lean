/- Contracts of chapter 4: Check, of both; the walk of QueryChecks. -/
import Derived.Test.YtgckpmcdlciibaaC18
namespace Go.Proofs.Ytgckpmcdlciibaa
open Go.RowKit
set_option maxHeartbeats 400000 in
theorem Check_any {m : Nat} {S S' : Nat → Prop} {lv v : Value} {l : List Prt} (q : Ak) (w : World) (hl : SliceOf prtLay S' w lv l) (hps : SliceOf (pckLay (m + 1)) S w v q.picks)  :
    Calls Try.prog 21 #[lv, .agg #[.string q.type, .string q.key, v]] w fun en w' => en = .returned (.int .i64 (checkM (m + 1) l q)) ∧ Up w w' := by
  refine calls_of_sim Try.func21 rfl (Nat.le_of_ble_eq_true rfl) ?_
  obtain ⟨a, c, rfl, hnc, hcm, hel⟩ := id hps
  obtain ⟨la, lc, rfl, hlnc, hlcm, _⟩ := id hl
  repeat (first | refine RL.vv ?_ | refine RL.p ?_ | refine RL.nil ?_ | refine Sim.seq ?_ | refine Sim.region ?_ | refine Sim.block ?_ | refine Sim.skip ?_ | refine Sim.inBlock ?_ | refine Sim.exit rfl ?_ | refine Sim.condT rfl ?_ | refine Sim.condF rfl ?_)
  refine RL.box trivial rfl rfl fun w1 hu hb1 hsz => ?_
  have ha1 := hb1.at
  repeat (first | refine RL.vv ?_ | refine RL.p ?_ | refine RL.nil ?_ | refine Sim.seq ?_ | refine Sim.region ?_ | refine Sim.block ?_ | refine Sim.skip ?_ | refine Sim.inBlock ?_ | refine Sim.exit rfl ?_ | refine Sim.condT rfl ?_ | refine Sim.condF rfl ?_)
  refine RL.call trivial rfl (c_static rfl) (WrongAsk_any q w1 (hps.up hu)) ?_
  rintro _ w2 ⟨rfl, hu2⟩
  refine ⟨_, rfl, ?_⟩
  have hb1 := hb1.up hu2
  have hu := hu.trans hu2
  unfold checkM
  by_cases h : wrongAsk (m + 1) q = 0
  · rw [if_pos h]
    repeat (first | refine RL.vv ?_ | refine RL.p ?_ | refine RL.nil ?_ | refine Sim.seq ?_ | refine Sim.region ?_ | refine Sim.block ?_ | refine Sim.skip ?_ | refine Sim.inBlock ?_ | refine Sim.exit rfl ?_ | refine Sim.condT rfl ?_ | refine Sim.condF rfl ?_)
    refine RL.call trivial rfl (c_static rfl) (picks_any m q.type w2 (hl.up hu) (hps.up hu)) ?_
    rintro _ w3 ⟨rfl, hu3⟩
    refine ⟨_, rfl, ?_⟩
    repeat (first | refine RL.vv ?_ | refine RL.p ?_ | refine RL.nil ?_ | refine Sim.seq ?_ | refine Sim.region ?_ | refine Sim.block ?_ | refine Sim.skip ?_ | refine Sim.inBlock ?_ | refine Sim.exit rfl ?_ | refine Sim.condT rfl ?_ | refine Sim.condF rfl ?_)
    exact Sim.ret1 Try.func21 rfl rfl ⟨rfl, hu.trans hu3⟩
  · rw [if_neg h]
    repeat (first | refine RL.vv ?_ | refine RL.p ?_ | refine RL.nil ?_ | refine Sim.seq ?_ | refine Sim.region ?_ | refine Sim.block ?_ | refine Sim.skip ?_ | refine Sim.inBlock ?_ | refine Sim.exit rfl ?_ | refine Sim.condT rfl ?_ | refine Sim.condF rfl ?_)
    exact Sim.ret1 Try.func21 rfl rfl ⟨rfl, hu⟩
set_option maxHeartbeats 400000 in
theorem RCheck_any {m : Nat} {S S' : Nat → Prop} {lv v : Value} {l : List Prt} (q : Ak) (w : World) (hl : SliceOf prtLay S' w lv l) (hps : SliceOf (pckLay (m + 1)) S w v q.picks) (hok : ∀ p ∈ q.picks, okPck (m + 1) p) (hx1 : q.type.size ≤ maxLen) (hx2 : q.key.size ≤ maxLen) :
    Calls Try.prog 22 #[lv, .agg #[.string q.type, .string q.key, v]] w fun en w' => en = .returned (.int .i64 (checkM (m + 1) l q)) ∧ Up w w' := by
  refine calls_of_sim Try.func22 rfl (Nat.le_of_ble_eq_true rfl) ?_
  obtain ⟨a, c, rfl, hnc, hcm, hel⟩ := id hps
  obtain ⟨la, lc, rfl, hlnc, hlcm, _⟩ := id hl
  repeat (first | refine RL.vv ?_ | refine RL.p ?_ | refine RL.nil ?_ | refine Sim.seq ?_ | refine Sim.region ?_ | refine Sim.block ?_ | refine Sim.skip ?_ | refine Sim.inBlock ?_ | refine Sim.exit rfl ?_ | refine Sim.condT rfl ?_ | refine Sim.condF rfl ?_)
  refine RL.box trivial rfl rfl fun w1 hu hb1 hsz => ?_
  have ha1 := hb1.at
  repeat (first | refine RL.vv ?_ | refine RL.p ?_ | refine RL.nil ?_ | refine Sim.seq ?_ | refine Sim.region ?_ | refine Sim.block ?_ | refine Sim.skip ?_ | refine Sim.inBlock ?_ | refine Sim.exit rfl ?_ | refine Sim.condT rfl ?_ | refine Sim.condF rfl ?_)
  refine RL.call trivial rfl (c_static rfl) (RWrongAsk_any q w1 (hps.up hu) hok hx1 hx2) ?_
  rintro _ w2 ⟨rfl, hu2⟩
  refine ⟨_, rfl, ?_⟩
  have hb1 := hb1.up hu2
  have hu := hu.trans hu2
  unfold checkM
  by_cases h : wrongAsk (m + 1) q = 0
  · rw [if_pos h]
    repeat (first | refine RL.vv ?_ | refine RL.p ?_ | refine RL.nil ?_ | refine Sim.seq ?_ | refine Sim.region ?_ | refine Sim.block ?_ | refine Sim.skip ?_ | refine Sim.inBlock ?_ | refine Sim.exit rfl ?_ | refine Sim.condT rfl ?_ | refine Sim.condF rfl ?_)
    refine RL.call trivial rfl (c_static rfl) (Goes_any m q.type w2 (hl.up hu) (hps.up hu)) ?_
    rintro _ w3 ⟨rfl, hu3⟩
    refine ⟨_, rfl, ?_⟩
    repeat (first | refine RL.vv ?_ | refine RL.p ?_ | refine RL.nil ?_ | refine Sim.seq ?_ | refine Sim.region ?_ | refine Sim.block ?_ | refine Sim.skip ?_ | refine Sim.inBlock ?_ | refine Sim.exit rfl ?_ | refine Sim.condT rfl ?_ | refine Sim.condF rfl ?_)
    exact Sim.ret1 Try.func22 rfl rfl ⟨rfl, hu.trans hu3⟩
  · rw [if_neg h]
    repeat (first | refine RL.vv ?_ | refine RL.p ?_ | refine RL.nil ?_ | refine Sim.seq ?_ | refine Sim.region ?_ | refine Sim.block ?_ | refine Sim.skip ?_ | refine Sim.inBlock ?_ | refine Sim.exit rfl ?_ | refine Sim.condT rfl ?_ | refine Sim.condF rfl ?_)
    exact Sim.ret1 Try.func22 rfl rfl ⟨rfl, hu⟩
set_option maxHeartbeats 400000 in
theorem QueryChecks_walk {m : Nat} {S S' : Nat → Prop} {lv v : Value} {l : List Prt} (q : Ak) (w : World) (hl : SliceOf prtLay S' w lv l) (hps : SliceOf (pckLay (m + 1)) S w v q.picks) (hok : ∀ p ∈ q.picks, okPck (m + 1) p) (hx1 : q.type.size ≤ maxLen) (hx2 : q.key.size ≤ maxLen) :
    Calls Try.prog 5 #[lv, .agg #[.string q.type, .string q.key, v]] w fun en w' => en = .returned (.bool true) ∧ Up w w' := by
  refine calls_of_sim Try.func5 rfl (Nat.le_of_ble_eq_true rfl) ?_
  obtain ⟨a, c, rfl, hnc, hcm, hel⟩ := id hps
  obtain ⟨la, lc, rfl, hlnc, hlcm, _⟩ := id hl
  repeat (first | refine RL.vv ?_ | refine RL.p ?_ | refine RL.nil ?_ | refine Sim.seq ?_ | refine Sim.region ?_ | refine Sim.block ?_ | refine Sim.skip ?_ | refine Sim.inBlock ?_ | refine Sim.exit rfl ?_ | refine Sim.condT rfl ?_ | refine Sim.condF rfl ?_)
  refine RL.box trivial rfl rfl fun w1 hu hb1 hsz => ?_
  have ha1 := hb1.at
  repeat (first | refine RL.vv ?_ | refine RL.p ?_ | refine RL.nil ?_ | refine Sim.seq ?_ | refine Sim.region ?_ | refine Sim.block ?_ | refine Sim.skip ?_ | refine Sim.inBlock ?_ | refine Sim.exit rfl ?_ | refine Sim.condT rfl ?_ | refine Sim.condF rfl ?_)
  refine Sim.quiet (Up w1) mixed (by kernel_rfl) (Up.drew _) ?_
  repeat (first | refine RQ.vv ?_ | refine RQ.p ?_)
  refine RQ.call trivial rfl (fun wq hq => c_static rfl) (fun wq hq => q_call (Check_any q wq (hl.up (hu.trans hq)) (hps.up (hu.trans hq))) hq) ?_
  repeat (first | refine RQ.vv ?_ | refine RQ.p ?_)
  refine RQ.call trivial rfl (fun wq hq => c_static rfl) (fun wq hq => q_call (RCheck_any q wq (hl.up (hu.trans hq)) (hps.up (hu.trans hq)) hok hx1 hx2) hq) ?_
  repeat (first | refine RQ.vv ?_ | refine RQ.p ?_)
  refine RQ.nil fun w4 hq => ?_
  repeat (first | refine RL.vv ?_ | refine RL.p ?_ | refine RL.nil ?_ | refine Sim.seq ?_ | refine Sim.region ?_ | refine Sim.block ?_ | refine Sim.skip ?_ | refine Sim.inBlock ?_ | refine Sim.exit rfl ?_ | refine Sim.condT rfl ?_ | refine Sim.condF rfl ?_)
  exact Sim.ret1 Try.func5 rfl rfl ⟨by simp, hu.trans hq⟩
end Go.Proofs.Ytgckpmcdlciibaa
