/- The walk of MeanTells. -/
import Derived.Test.YtgckpmcdlciibabYC90
import Derived.Test.YtgckpmcdlciibabZX
namespace Go.Proofs.Ytgckpmcdlciibab
open Go.RowKit
set_option maxHeartbeats 2000000 in
theorem MeanTells_walk {m : Nat} {S S3 : Nat → Prop} {lv kv : Value} {l : List Svc} (q : Ak) (w : World) (hl : SliceOf svcLay S w lv l) (hos : ∀ s ∈ l, okSvc s) (hps : SliceOf (pckLay (m + 1)) S3 w kv q.picks) (hok : ∀ p ∈ q.picks, okPck (m + 1) p) (hx1 : q.type.size ≤ maxLen) (hx2 : q.key.size ≤ maxLen) :
    Calls Try.prog 11 #[lv, .agg #[.string q.type, .string q.key, kv]] w fun en w' => en = .returned (.bool true) ∧ Up w w' := by
  refine calls_of_sim Try.func11 rfl (Nat.le_of_ble_eq_true rfl) ?_
  obtain ⟨la, lc, rfl, _⟩ := id hl
  obtain ⟨ka, kc, rfl, _⟩ := id hps
  repeat (first | refine RL.vv ?_ | refine RL.p ?_ | refine RL.nil ?_ | refine Sim.seq ?_ | refine Sim.region ?_ | refine Sim.block ?_ | refine Sim.skip ?_ | refine Sim.inBlock ?_ | refine Sim.exit rfl ?_ | refine Sim.condT rfl ?_ | refine Sim.condF rfl ?_)
  refine RL.bx (.refl w) fun b3 w1 he3 hle3 hu _ hb3 => ?_
  have hb3 : Box w1 b3 37 [.string q.type, .string q.key, .slice ka q.picks.length kc] := hb3
  have ha3 := hb3.at
  repeat (first | refine RL.vv ?_ | refine RL.p ?_ | refine RL.nil ?_ | refine Sim.seq ?_ | refine Sim.region ?_ | refine Sim.block ?_ | refine Sim.skip ?_ | refine Sim.inBlock ?_ | refine Sim.exit rfl ?_ | refine Sim.condT rfl ?_ | refine Sim.condF rfl ?_)
  refine RL.cx (Mean_any q w1 (hl.up hu) (hps.up hu)) ?_
  rintro _ w2 ⟨v, rfl, h12, ho⟩
  refine ⟨_, rfl, ?_⟩
  have hu2 := hu.trans h12
  have ha3 := ha3.up h12
  obtain ⟨va, vn, vc, rfl⟩ := ho.sh
  repeat (first | refine RL.vv ?_ | refine RL.p ?_ | refine RL.nil ?_ | refine Sim.seq ?_ | refine Sim.region ?_ | refine Sim.block ?_ | refine Sim.skip ?_ | refine Sim.inBlock ?_ | refine Sim.exit rfl ?_ | refine Sim.condT rfl ?_ | refine Sim.condF rfl ?_)
  refine RL.cx (RMean_any q w2 (hl.up hu2) hos (hps.up hu2) hok hx1 hx2) ?_
  rintro _ w3 ⟨v', rfl, h23, ho'⟩
  refine ⟨_, rfl, ?_⟩
  have hu3 := hu2.trans h23
  obtain ⟨va', vn', vc', rfl⟩ := ho'.sh
  have hs := (ho.up h23).sl (S' := fun _ => True) (fun _ _ _ _ => trivial) fun _ _ => trivial
  have hs' := ho'.sl (S' := fun _ => True) (fun _ _ _ _ => trivial) fun _ _ => trivial
  have e : (meanM (m + 1) l q).2 = (meanM (m + 1) l q).2 := rfl
  repeat (first | refine RL.vv ?_ | refine RL.p ?_ | refine RL.nil ?_ | refine Sim.seq ?_ | refine Sim.region ?_ | refine Sim.block ?_ | refine Sim.skip ?_ | refine Sim.inBlock ?_ | refine Sim.exit rfl ?_ | refine Sim.condT rfl ?_ | refine Sim.condF rfl ?_)
  refine RL.cu hu3 (SameGot_any _ w3 hs hs') fun w4 hu4 _ => ?_
  repeat (first | refine RL.vv ?_ | refine RL.p ?_ | refine RL.nil ?_ | refine Sim.seq ?_ | refine Sim.region ?_ | refine Sim.block ?_ | refine Sim.skip ?_ | refine Sim.inBlock ?_ | refine Sim.exit rfl ?_ | refine Sim.condT rfl ?_ | refine Sim.condF rfl ?_)
  exact Sim.ret1 Try.func11 rfl rfl ⟨rfl, hu4⟩
end Go.Proofs.Ytgckpmcdlciibab
