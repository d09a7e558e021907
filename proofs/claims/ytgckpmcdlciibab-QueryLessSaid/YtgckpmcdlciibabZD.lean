
import Derived.Test.YtgckpmcdlciibabZC
namespace Go.Proofs.Ytgckpmcdlciibab
open Go.RowKit

set_option maxHeartbeats 400000 in
theorem ContainsFunc_Pick {g : FuncId} [Fun Try.prog g] {caps : Array Value} {sv : Value} {n : Nat} {cells : Nat → List Value} {p : Nat → Bool} {w : World} (hs : Elems 3 w sv n cells)
    (hp : ∀ i, i < n → ∀ w', Up w w' → Calls Try.prog g (#[.agg (cells i).toArray] ++ caps) w' fun en w'' => en = .returned (.bool (p i)) ∧ Up w' w'') :
    Calls Try.prog 90 #[sv, .func (.func g) #[] caps] w fun en w' => en = .returned (.bool (decide (0 ≤ idx p n))) ∧ Up w w' := by
  refine calls_of_sim Try.func90 rfl (Nat.le_of_ble_eq_true rfl) ?_
  repeat (first | refine RL.vv ?_ | refine RL.p ?_ | refine RL.nil ?_ | refine Sim.seq ?_ | refine Sim.region ?_ | refine Sim.block ?_ | refine Sim.skip ?_ | refine Sim.inBlock ?_ | refine Sim.exit rfl ?_ | refine Sim.condT rfl ?_ | refine Sim.condF rfl ?_)
  refine RL.call trivial rfl (c_static rfl) (IndexFunc_Pick hs hp) ?_
  rintro _ w2 ⟨rfl, hu⟩
  refine ⟨_, rfl, ?_⟩
  repeat (first | refine RL.vv ?_ | refine RL.p ?_ | refine RL.nil ?_ | refine Sim.seq ?_ | refine Sim.region ?_ | refine Sim.block ?_ | refine Sim.skip ?_ | refine Sim.inBlock ?_ | refine Sim.exit rfl ?_ | refine Sim.condT rfl ?_ | refine Sim.condF rfl ?_)
  exact Sim.ret1 Try.func90 rfl rfl ⟨rfl, hu⟩

end Go.Proofs.Ytgckpmcdlciibab
