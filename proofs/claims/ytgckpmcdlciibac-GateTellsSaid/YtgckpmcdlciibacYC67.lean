/- Contracts of chapter 7: requests, compared with the same; maps of numbers. -/
import Derived.Test.YtgckpmcdlciibacZ1
namespace Go.Proofs.Ytgckpmcdlciibac
open Go.RowKit
set_option maxHeartbeats 1000000 in
theorem SameTexts_eq {S S' : Nat → Prop} {v v' : Value} {l : List Str} (w : World) (hl : SliceOf strLay S w v l) (hl' : SliceOf strLay S' w v' l) :
    Calls Try.prog 44 #[v, v'] w fun en w' => en = .returned (.bool true) ∧ Up w w' := by
  refine calls_of_sim Try.func44 rfl (Nat.le_of_ble_eq_true rfl) ?_
  obtain ⟨a, c, rfl, hnc, hcm, _⟩ := id hl
  obtain ⟨a', c', rfl, hnc', hcm', _⟩ := id hl'
  unfold maxLen at hcm hcm'
  repeat (first | refine RL.vv ?_ | refine RL.p ?_ | refine RL.nil ?_ | refine Sim.seq ?_ | refine Sim.region ?_ | refine Sim.block ?_ | refine Sim.skip ?_ | refine Sim.inBlock ?_ | refine Sim.exit rfl ?_ | refine Sim.condT rfl ?_ | refine Sim.condF rfl ?_)
  refine Sim.loop (σ := Nat) (fun i => [(0, .slice a l.length c), (1, .slice a' l.length c'), (12, .int .i64 (l.length : Int)), (13, .int .i64 (i : Int))]) (fun i w' => i ≤ l.length ∧ Up w w') (fun i => l.length - i) 0 sb ⟨Nat.zero_le _, .refl _⟩ ?_
  rintro i w1 ⟨hi, hu⟩ next
  by_cases hlt : i < l.length
  · have hx : l[i]? = some l[i] := List.getElem?_eq_getElem hlt
    obtain ⟨b, o, cs, rfl, _, hat, rfl, _⟩ := (hl.up hu).at hx
    obtain ⟨b', o', cs', rfl, _, hat', rfl, _⟩ := (hl'.up hu).at hx
    have hat : At w1 b (o + i * 1) _ := hat
    have hat' : At w1 b' (o' + i * 1) _ := hat'
    generalize l[i] = x at *
    have hxx : x = x := rfl
    repeat (first | refine RL.vv ?_ | refine RL.p ?_ | refine RL.nil ?_ | refine Sim.seq ?_ | refine Sim.region ?_ | refine Sim.block ?_ | refine Sim.skip ?_ | refine Sim.inBlock ?_ | refine Sim.exit rfl ?_ | refine Sim.condT rfl ?_ | refine Sim.condF rfl ?_)
    refine Sim.q ?_
    repeat (first | refine RQ.vv ?_ | refine RQ.p ?_)
    refine RQ.nil fun w2 hq => ?_
    repeat (first | refine RL.vv ?_ | refine RL.p ?_ | refine RL.nil ?_ | refine Sim.seq ?_ | refine Sim.region ?_ | refine Sim.block ?_ | refine Sim.skip ?_ | refine Sim.inBlock ?_ | refine Sim.exit rfl ?_ | refine Sim.condT rfl ?_ | refine Sim.condF rfl ?_)
    exact next (i + 1) _ _ ⟨by omega, hu.trans hq⟩ (by omega) sb
  · repeat (first | refine RL.vv ?_ | refine RL.p ?_ | refine RL.nil ?_ | refine Sim.seq ?_ | refine Sim.region ?_ | refine Sim.block ?_ | refine Sim.skip ?_ | refine Sim.inBlock ?_ | refine Sim.exit rfl ?_ | refine Sim.condT rfl ?_ | refine Sim.condF rfl ?_)
    exact Sim.ret1 Try.func44 rfl rfl ⟨rfl, hu⟩
set_option maxHeartbeats 1000000 in
theorem SameRequests_eq {S S' : Nat → Prop} {v v' : Value} {l : List Rq} (w : World) (hl : SliceOf rqLay S w v l) (hl' : SliceOf rqLay S' w v' l) :
    Calls Try.prog 20 #[v, v'] w fun en w' => en = .returned (.bool true) ∧ Up w w' := by
  refine calls_of_sim Try.func20 rfl (Nat.le_of_ble_eq_true rfl) ?_
  obtain ⟨a, c, rfl, hnc, hcm, _⟩ := id hl
  obtain ⟨a', c', rfl, hnc', hcm', _⟩ := id hl'
  unfold maxLen at hcm hcm'
  have hll : (l.length : Int) = (l.length : Int) := rfl
  repeat (first | refine RL.vv ?_ | refine RL.p ?_ | refine RL.nil ?_ | refine Sim.seq ?_ | refine Sim.region ?_ | refine Sim.block ?_ | refine Sim.skip ?_ | refine Sim.inBlock ?_ | refine Sim.exit rfl ?_ | refine Sim.condT rfl ?_ | refine Sim.condF rfl ?_)
  refine Sim.loop (σ := Nat) (fun i => [(0, .slice a l.length c), (1, .slice a' l.length c'), (12, .int .i64 (l.length : Int)), (13, .int .i64 (i : Int))]) (fun i w' => i ≤ l.length ∧ Up w w') (fun i => l.length - i) 0 sb ⟨Nat.zero_le _, .refl _⟩ ?_
  rintro i w1 ⟨hi, hu⟩ next
  by_cases hlt : i < l.length
  rotate_left
  · repeat (first | refine RL.vv ?_ | refine RL.p ?_ | refine RL.nil ?_ | refine Sim.seq ?_ | refine Sim.region ?_ | refine Sim.block ?_ | refine Sim.skip ?_ | refine Sim.inBlock ?_ | refine Sim.exit rfl ?_ | refine Sim.condT rfl ?_ | refine Sim.condF rfl ?_)
    exact Sim.ret1 Try.func20 rfl rfl ⟨rfl, hu⟩
  have hx : l[i]? = some l[i] := List.getElem?_eq_getElem hlt
  obtain ⟨b, o, cs, rfl, _, hat, ⟨k1, f1, rfl, hk1, hf1⟩, _⟩ := (hl.up hu).at hx
  obtain ⟨b', o', cs', rfl, _, hat', ⟨k2, f2, rfl, hk2, hf2⟩, _⟩ := (hl'.up hu).at hx
  have hat : At w1 b (o + i * 4) _ := hat
  have hat' : At w1 b' (o' + i * 4) _ := hat'
  generalize l[i] = x at *
  obtain ⟨x1, y1, rfl, _⟩ := id hk1
  obtain ⟨x2, y2, rfl, _⟩ := id hk2
  obtain ⟨x3, y3, rfl, _⟩ := id hf1
  obtain ⟨x4, y4, rfl, _⟩ := id hf2
  have e1 : x.service = x.service := rfl
  have e2 : x.type = x.type := rfl
  repeat (first | refine RL.vv ?_ | refine RL.p ?_ | refine RL.nil ?_ | refine Sim.seq ?_ | refine Sim.region ?_ | refine Sim.block ?_ | refine Sim.skip ?_ | refine Sim.inBlock ?_ | refine Sim.exit rfl ?_ | refine Sim.condT rfl ?_ | refine Sim.condF rfl ?_)
  refine Sim.q ?_
  repeat (first | refine RQ.vv ?_ | refine RQ.p ?_)
  refine RQ.cu (fun wq hq => q_call (SameTexts_eq wq (hk1.up hq) (hk2.up hq)) hq) ?_
  repeat (first | refine RQ.vv ?_ | refine RQ.p ?_)
  refine RQ.cu (fun wq hq => q_call (SameTexts_eq wq (hf1.up hq) (hf2.up hq)) hq) ?_
  repeat (first | refine RQ.vv ?_ | refine RQ.p ?_)
  refine RQ.nil fun w2 hq => ?_
  repeat (first | refine RL.vv ?_ | refine RL.p ?_ | refine RL.nil ?_ | refine Sim.seq ?_ | refine Sim.region ?_ | refine Sim.block ?_ | refine Sim.skip ?_ | refine Sim.inBlock ?_ | refine Sim.exit rfl ?_ | refine Sim.condT rfl ?_ | refine Sim.condF rfl ?_)
  exact next (i + 1) _ _ ⟨by omega, hu.trans hq⟩ (by omega) sb
end Go.Proofs.Ytgckpmcdlciibac
