/- The walk of ServeTells. -/
import Derived.Test.YtgckpmcdlciibaaC27
namespace Go.Proofs.Ytgckpmcdlciibaa
open Go.RowKit
theorem answerM_len (l : List Svc) (q : Rq) : (answerM l q).1.found.length = (answerM l q).1.vals.length := by
  unfold answerM
  split
  · split <;> simp
  · simp
set_option maxHeartbeats 1000000 in
theorem ServeTells_walk {S S2 S3 : Nat → Prop} {lv kv fv : Value} {l : List Svc} (q : Rq) (w : World) (hl : SliceOf svcLay S w lv l) (hk : SliceOf strLay S2 w kv q.keys) (hf : SliceOf strLay S3 w fv q.fields) (hok : ∀ s ∈ l, okSvc s) (hqk : q.keys.length * 16 ≤ 140737488351232) :
    Calls Try.prog 3 #[lv, .agg #[.int .i64 q.service, .string q.type, kv, fv]] w fun en w' => en = .returned (.bool true) ∧ Up w w' := by
  refine calls_of_sim Try.func3 rfl (Nat.le_of_ble_eq_true rfl) ?_
  obtain ⟨la, lc, rfl, _⟩ := id hl
  obtain ⟨ka, kc, rfl, _⟩ := id hk
  obtain ⟨fa, fc, rfl, _⟩ := id hf
  repeat (first | refine RL.vv ?_ | refine RL.p ?_ | refine RL.nil ?_ | refine Sim.seq ?_ | refine Sim.region ?_ | refine Sim.block ?_ | refine Sim.skip ?_ | refine Sim.inBlock ?_ | refine Sim.exit rfl ?_ | refine Sim.condT rfl ?_ | refine Sim.condF rfl ?_)
  refine RL.bx (.refl w) fun b3 w1 _ _ hu _ hb3 => ?_
  have ha3 := hb3.at
  repeat (first | refine RL.vv ?_ | refine RL.p ?_ | refine RL.nil ?_ | refine Sim.seq ?_ | refine Sim.region ?_ | refine Sim.block ?_ | refine Sim.skip ?_ | refine Sim.inBlock ?_ | refine Sim.exit rfl ?_ | refine Sim.condT rfl ?_ | refine Sim.condF rfl ?_)
  refine RL.cx (SAnswer_any q w1 (hl.up hu) (hk.up hu) (hf.up hu) hok hqk) ?_
  rintro _ w2 ⟨a, b, rfl, hu2, hr⟩
  refine ⟨_, rfl, ?_⟩
  have hu := hu.trans hu2
  have hb3 := hb3.up hu2
  obtain ⟨aa, an, ac, rfl⟩ := hr.1.sh
  obtain ⟨ba, bn, bc, rfl⟩ := hr.2.1.sh
  clear hu2 ha3
  repeat (first | refine RL.vv ?_ | refine RL.p ?_ | refine RL.nil ?_ | refine Sim.seq ?_ | refine Sim.region ?_ | refine Sim.block ?_ | refine Sim.skip ?_ | refine Sim.inBlock ?_ | refine Sim.exit rfl ?_ | refine Sim.condT rfl ?_ | refine Sim.condF rfl ?_)
  refine RL.al (.refl w2) fun b5 w3 he5 hle5 _ h23 hb5 => ?_
  repeat (first | refine RL.vv ?_ | refine RL.p ?_ | refine RL.nil ?_ | refine Sim.seq ?_ | refine Sim.region ?_ | refine Sim.block ?_ | refine Sim.skip ?_ | refine Sim.inBlock ?_ | refine Sim.exit rfl ?_ | refine Sim.condT rfl ?_ | refine Sim.condF rfl ?_)
  refine RL.st h23 hb5 hle5 fun w4 h24 _ hb5 => ?_
  have hu := hu.trans h24
  have hb3 := hb3.up h24
  have hr := hr.up h24
  clear h24 h23 he5 hle5
  have ha3 := hb3.at
  repeat (first | refine RL.vv ?_ | refine RL.p ?_ | refine RL.nil ?_ | refine Sim.seq ?_ | refine Sim.region ?_ | refine Sim.block ?_ | refine Sim.skip ?_ | refine Sim.inBlock ?_ | refine Sim.exit rfl ?_ | refine Sim.condT rfl ?_ | refine Sim.condF rfl ?_)
  refine RL.cx (RAnswer_any q w4 (hl.up hu) (hk.up hu) (hf.up hu) hok hqk) ?_
  rintro _ w5 ⟨a', b', rfl, hu5, hr'⟩
  refine ⟨_, rfl, ?_⟩
  have hu := hu.trans hu5
  have hb3 := hb3.up hu5
  have hb5 := hb5.up hu5
  have hr := hr.up hu5
  obtain ⟨aa', an', ac', rfl⟩ := hr'.1.sh
  obtain ⟨ba', bn', bc', rfl⟩ := hr'.2.1.sh
  clear hu5 ha3
  repeat (first | refine RL.vv ?_ | refine RL.p ?_ | refine RL.nil ?_ | refine Sim.seq ?_ | refine Sim.region ?_ | refine Sim.block ?_ | refine Sim.skip ?_ | refine Sim.inBlock ?_ | refine Sim.exit rfl ?_ | refine Sim.condT rfl ?_ | refine Sim.condF rfl ?_)
  refine RL.al (.refl w5) fun b7 w6 he7 hle7 _ h56 hb7 => ?_
  repeat (first | refine RL.vv ?_ | refine RL.p ?_ | refine RL.nil ?_ | refine Sim.seq ?_ | refine Sim.region ?_ | refine Sim.block ?_ | refine Sim.skip ?_ | refine Sim.inBlock ?_ | refine Sim.exit rfl ?_ | refine Sim.condT rfl ?_ | refine Sim.condF rfl ?_)
  refine RL.st h56 hb7 hle7 fun w7 h57 _ hb7 => ?_
  have hu := hu.trans h57
  have hb3 := hb3.up h57
  have hb5 := hb5.up h57
  have hr := hr.up h57
  have hr' := hr'.up h57
  clear h57 h56 he7 hle7
  have ha3 := hb3.at
  have ha5 := hb5.at
  have ha7 := hb7.at
  repeat (first | refine RL.vv ?_ | refine RL.p ?_ | refine RL.nil ?_ | refine Sim.seq ?_ | refine Sim.region ?_ | refine Sim.block ?_ | refine Sim.skip ?_ | refine Sim.inBlock ?_ | refine Sim.exit rfl ?_ | refine Sim.condT rfl ?_ | refine Sim.condF rfl ?_)
  refine Sim.q ?_
  repeat (first | refine RQ.vv ?_ | refine RQ.p ?_)
  refine RQ.cu (fun wq hq => q_call (SWrong_any q wq (hl.up (hu.trans hq)) (hk.up (hu.trans hq)) (hf.up (hu.trans hq))) hq) ?_
  repeat (first | refine RQ.vv ?_ | refine RQ.p ?_)
  refine RQ.cu (fun wq hq => q_call (RWrongRequest_any q wq (hl.up (hu.trans hq)) (hk.up (hu.trans hq)) (hf.up (hu.trans hq))) hq) ?_
  have e1 : wrongRq l q = wrongRq l q := rfl
  have e2 : (answerM l q).2 = (answerM l q).2 := rfl
  repeat (first | refine RQ.vv ?_ | refine RQ.p ?_)
  refine RQ.cu (fun wq hq => q_call (SameReply_eq (answerM l q).1 wq ((hr.up hq).1.sl (S' := All) (fun _ _ _ _ => trivial) (fun _ _ => trivial)) ((hr.up hq).2.1.sl (S' := All) (fun _ _ _ _ => trivial) (fun _ _ => trivial)) ((hr'.up hq).1.sl (S' := All) (fun _ _ _ _ => trivial) (fun _ _ => trivial)) ((hr'.up hq).2.1.sl (S' := All) (fun _ _ _ _ => trivial) (fun _ _ => trivial)) (answerM_len l q)) hq) ?_
  repeat (first | refine RQ.vv ?_ | refine RQ.p ?_)
  refine RQ.nil fun w8 hq => ?_
  repeat (first | refine RL.vv ?_ | refine RL.p ?_ | refine RL.nil ?_ | refine Sim.seq ?_ | refine Sim.region ?_ | refine Sim.block ?_ | refine Sim.skip ?_ | refine Sim.inBlock ?_ | refine Sim.exit rfl ?_ | refine Sim.condT rfl ?_ | refine Sim.condF rfl ?_)
  exact Sim.ret1 Try.func3 rfl rfl ⟨rfl, hu.trans hq⟩
end Go.Proofs.Ytgckpmcdlciibaa
