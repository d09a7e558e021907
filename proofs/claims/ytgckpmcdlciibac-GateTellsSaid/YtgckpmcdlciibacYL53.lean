/- The walk of GateTells. -/
import Derived.Test.YtgckpmcdlciibacYC92
import Derived.Test.YtgckpmcdlciibacZX
import Derived.Test.YtgckpmcdlciibacYC67
namespace Go.Proofs.Ytgckpmcdlciibac
open Go.RowKit
set_option maxHeartbeats 2000000 in
theorem GateTells_walk {m : Nat} {S S3 : Nat → Prop} {lv kv : Value} {l : List Svc} (q : Ak) (w : World) (hl : SliceOf svcLay S w lv l) (hos : ∀ s ∈ l, okSvc s) (hps : SliceOf (pckLay (m + 1)) S3 w kv q.picks) (hok : ∀ p ∈ q.picks, okPck (m + 1) p) (hx1 : q.type.size ≤ maxLen) (hx2 : q.key.size ≤ maxLen) :
    Calls Try.prog 4 #[lv, .agg #[.string q.type, .string q.key, kv]] w fun en w' => en = .returned (.bool true) ∧ Up w w' := by
  refine calls_of_sim Try.func4 rfl (Nat.le_of_ble_eq_true rfl) ?_
  obtain ⟨la, lc, rfl, _⟩ := id hl
  obtain ⟨ka, kc, rfl, _⟩ := id hps
  repeat (first | refine RL.vv ?_ | refine RL.p ?_ | refine RL.nil ?_ | refine Sim.seq ?_ | refine Sim.region ?_ | refine Sim.block ?_ | refine Sim.skip ?_ | refine Sim.inBlock ?_ | refine Sim.exit rfl ?_ | refine Sim.condT rfl ?_ | refine Sim.condF rfl ?_)
  refine RL.bx (.refl w) fun b3 w1 he3 hle3 hu _ hb3 => ?_
  have ha3 := hb3.at
  have ha3 : At w1 b3 0 [.string q.type, .string q.key, .slice ka q.picks.length kc] := ha3
  repeat (first | refine RL.vv ?_ | refine RL.p ?_ | refine RL.nil ?_ | refine Sim.seq ?_ | refine Sim.region ?_ | refine Sim.block ?_ | refine Sim.skip ?_ | refine Sim.inBlock ?_ | refine Sim.exit rfl ?_ | refine Sim.condT rfl ?_ | refine Sim.condF rfl ?_)
  refine RL.cx (Run_any q w1 (hl.up hu) hos (hps.up hu)) ?_
  rintro _ w2 ⟨gv, rv, rfl, h12, hg, hr⟩
  refine ⟨_, rfl, ?_⟩
  have hu2 := hu.trans h12
  have ha3 := ha3.up h12
  obtain ⟨ga, gc, rfl, _⟩ := id hg
  obtain ⟨ra, rc, rfl, _⟩ := id hr
  repeat (first | refine RL.vv ?_ | refine RL.p ?_ | refine RL.nil ?_ | refine Sim.seq ?_ | refine Sim.region ?_ | refine Sim.block ?_ | refine Sim.skip ?_ | refine Sim.inBlock ?_ | refine Sim.exit rfl ?_ | refine Sim.condT rfl ?_ | refine Sim.condF rfl ?_)
  refine RL.cx (RRun_any q w2 (hl.up hu2) hos (hps.up hu2) hok hx1 hx2) ?_
  rintro _ w3 ⟨gv', rv', rfl, h23, hg', hr'⟩
  refine ⟨_, rfl, ?_⟩
  have hu3 := hu2.trans h23
  obtain ⟨ga', gc', rfl, _⟩ := id hg'
  obtain ⟨ra', rc', rfl, _⟩ := id hr'
  have hg := hg.up h23
  have hr := hr.up h23
  have e : (runM (m + 1) l q).2.2 = (runM (m + 1) l q).2.2 := rfl
  repeat (first | refine RL.vv ?_ | refine RL.p ?_ | refine RL.nil ?_ | refine Sim.seq ?_ | refine Sim.region ?_ | refine Sim.block ?_ | refine Sim.skip ?_ | refine Sim.inBlock ?_ | refine Sim.exit rfl ?_ | refine Sim.condT rfl ?_ | refine Sim.condF rfl ?_)
  refine RL.cu hu3 (SameGot_any _ w3 hg hg') fun w4 hu4 h34 => ?_
  repeat (first | refine RL.vv ?_ | refine RL.p ?_ | refine RL.nil ?_ | refine Sim.seq ?_ | refine Sim.region ?_ | refine Sim.block ?_ | refine Sim.skip ?_ | refine Sim.inBlock ?_ | refine Sim.exit rfl ?_ | refine Sim.condT rfl ?_ | refine Sim.condF rfl ?_)
  refine RL.cu hu4 (SameRequests_eq w4 (hr.up h34) (hr'.up h34)) fun w5 hu5 _ => ?_
  repeat (first | refine RL.vv ?_ | refine RL.p ?_ | refine RL.nil ?_ | refine Sim.seq ?_ | refine Sim.region ?_ | refine Sim.block ?_ | refine Sim.skip ?_ | refine Sim.inBlock ?_ | refine Sim.exit rfl ?_ | refine Sim.condT rfl ?_ | refine Sim.condF rfl ?_)
  exact Sim.ret1 Try.func4 rfl rfl ⟨rfl, hu5⟩
end Go.Proofs.Ytgckpmcdlciibac
