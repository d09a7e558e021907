/- Contracts of chapter 4's small functions: Called, merge.Find, ref Part. -/
import Derived.Test.YtgckpmcdlciibaaZC
import Derived.Test.YtgckpmcdlciibaaZP
namespace Go.Proofs.Ytgckpmcdlciibaa
open Go.RowKit
set_option maxHeartbeats 400000 in
theorem Called_any (p : Pck) (v : Value) (w : World) : Calls Try.prog 49 #[.agg #[.string p.as, .string p.field, v]] w fun en w' => en = .returned (.string (calledM p)) ∧ Up w w' := by
  refine calls_of_sim Try.func49 rfl (Nat.le_of_ble_eq_true rfl) ?_
  by_cases h : p.as = ⟨#[]⟩
  · repeat (first | refine RL.vv ?_ | refine RL.p ?_ | refine RL.nil ?_ | refine Sim.seq ?_ | refine Sim.region ?_ | refine Sim.block ?_ | refine Sim.skip ?_ | refine Sim.inBlock ?_ | refine Sim.exit rfl ?_ | refine Sim.condT rfl ?_ | refine Sim.condF rfl ?_)
    refine RL.box trivial rfl rfl fun w1 hu hb1 hsz => ?_
    repeat (first | refine RL.vv ?_ | refine RL.p ?_ | refine RL.nil ?_ | refine Sim.seq ?_ | refine Sim.region ?_ | refine Sim.block ?_ | refine Sim.skip ?_ | refine Sim.inBlock ?_ | refine Sim.exit rfl ?_ | refine Sim.condT rfl ?_ | refine Sim.condF rfl ?_)
    exact Sim.ret1 Try.func49 rfl rfl ⟨by rw [calledM, if_pos h], hu⟩
  · repeat (first | refine RL.vv ?_ | refine RL.p ?_ | refine RL.nil ?_ | refine Sim.seq ?_ | refine Sim.region ?_ | refine Sim.block ?_ | refine Sim.skip ?_ | refine Sim.inBlock ?_ | refine Sim.exit rfl ?_ | refine Sim.condT rfl ?_ | refine Sim.condF rfl ?_)
    refine RL.box trivial rfl rfl fun w1 hu hb1 hsz => ?_
    repeat (first | refine RL.vv ?_ | refine RL.p ?_ | refine RL.nil ?_ | refine Sim.seq ?_ | refine Sim.region ?_ | refine Sim.block ?_ | refine Sim.skip ?_ | refine Sim.inBlock ?_ | refine Sim.exit rfl ?_ | refine Sim.condT rfl ?_ | refine Sim.condF rfl ?_)
    exact Sim.ret1 Try.func49 rfl rfl ⟨by rw [calledM, if_neg h], hu⟩
set_option maxHeartbeats 400000 in
theorem RCalled_any (p : Pck) (v : Value) (w : World) : Calls Try.prog 50 #[.agg #[.string p.as, .string p.field, v]] w fun en w' => en = .returned (.string (calledM p)) ∧ Up w w' := by
  refine calls_of_sim Try.func50 rfl (Nat.le_of_ble_eq_true rfl) ?_
  by_cases h : p.as = ⟨#[]⟩
  · repeat (first | refine RL.vv ?_ | refine RL.p ?_ | refine RL.nil ?_ | refine Sim.seq ?_ | refine Sim.region ?_ | refine Sim.block ?_ | refine Sim.skip ?_ | refine Sim.inBlock ?_ | refine Sim.exit rfl ?_ | refine Sim.condT rfl ?_ | refine Sim.condF rfl ?_)
    refine RL.box trivial rfl rfl fun w1 hu hb1 hsz => ?_
    repeat (first | refine RL.vv ?_ | refine RL.p ?_ | refine RL.nil ?_ | refine Sim.seq ?_ | refine Sim.region ?_ | refine Sim.block ?_ | refine Sim.skip ?_ | refine Sim.inBlock ?_ | refine Sim.exit rfl ?_ | refine Sim.condT rfl ?_ | refine Sim.condF rfl ?_)
    exact Sim.ret1 Try.func50 rfl rfl ⟨by rw [calledM, if_pos h], hu⟩
  · repeat (first | refine RL.vv ?_ | refine RL.p ?_ | refine RL.nil ?_ | refine Sim.seq ?_ | refine Sim.region ?_ | refine Sim.block ?_ | refine Sim.skip ?_ | refine Sim.inBlock ?_ | refine Sim.exit rfl ?_ | refine Sim.condT rfl ?_ | refine Sim.condF rfl ?_)
    refine RL.box trivial rfl rfl fun w1 hu hb1 hsz => ?_
    repeat (first | refine RL.vv ?_ | refine RL.p ?_ | refine RL.nil ?_ | refine Sim.seq ?_ | refine Sim.region ?_ | refine Sim.block ?_ | refine Sim.skip ?_ | refine Sim.inBlock ?_ | refine Sim.exit rfl ?_ | refine Sim.condT rfl ?_ | refine Sim.condF rfl ?_)
    exact Sim.ret1 Try.func50 rfl rfl ⟨by rw [calledM, if_neg h], hu⟩
end Go.Proofs.Ytgckpmcdlciibaa
