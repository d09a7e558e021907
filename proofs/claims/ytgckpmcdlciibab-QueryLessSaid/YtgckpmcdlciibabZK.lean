/- Contracts of chapter 4's small functions: Called, merge.Find, ref Part. -/
import Derived.Test.YtgckpmcdlciibabZD
import Derived.Test.YtgckpmcdlciibabZP
namespace Go.Proofs.Ytgckpmcdlciibab
open Go.RowKit
set_option maxHeartbeats 400000 in
theorem Called_any (p : Pck) (v : Value) (w : World) : Calls Try.prog 44 #[.agg #[.string p.as, .string p.field, v]] w fun en w' => en = .returned (.string (calledM p)) ∧ Up w w' := by
  refine calls_of_sim Try.func44 rfl (Nat.le_of_ble_eq_true rfl) ?_
  by_cases h : p.as = ⟨#[]⟩
  · repeat (first | refine RL.vv ?_ | refine RL.p ?_ | refine RL.nil ?_ | refine Sim.seq ?_ | refine Sim.region ?_ | refine Sim.block ?_ | refine Sim.skip ?_ | refine Sim.inBlock ?_ | refine Sim.exit rfl ?_ | refine Sim.condT rfl ?_ | refine Sim.condF rfl ?_)
    refine RL.box trivial rfl rfl fun w1 hu hb1 hsz => ?_
    repeat (first | refine RL.vv ?_ | refine RL.p ?_ | refine RL.nil ?_ | refine Sim.seq ?_ | refine Sim.region ?_ | refine Sim.block ?_ | refine Sim.skip ?_ | refine Sim.inBlock ?_ | refine Sim.exit rfl ?_ | refine Sim.condT rfl ?_ | refine Sim.condF rfl ?_)
    exact Sim.ret1 Try.func44 rfl rfl ⟨by rw [calledM, if_pos h], hu⟩
  · repeat (first | refine RL.vv ?_ | refine RL.p ?_ | refine RL.nil ?_ | refine Sim.seq ?_ | refine Sim.region ?_ | refine Sim.block ?_ | refine Sim.skip ?_ | refine Sim.inBlock ?_ | refine Sim.exit rfl ?_ | refine Sim.condT rfl ?_ | refine Sim.condF rfl ?_)
    refine RL.box trivial rfl rfl fun w1 hu hb1 hsz => ?_
    repeat (first | refine RL.vv ?_ | refine RL.p ?_ | refine RL.nil ?_ | refine Sim.seq ?_ | refine Sim.region ?_ | refine Sim.block ?_ | refine Sim.skip ?_ | refine Sim.inBlock ?_ | refine Sim.exit rfl ?_ | refine Sim.condT rfl ?_ | refine Sim.condF rfl ?_)
    exact Sim.ret1 Try.func44 rfl rfl ⟨by rw [calledM, if_neg h], hu⟩
set_option maxHeartbeats 400000 in
theorem PFind1_any (nm nm2 : ByteArray) (v1 v2 v3 : Value) (b : Nat) (w : World) (hb : At w b 0 [.string nm2]) :
    Calls Try.prog 71 #[.agg #[.string nm, v1, v2, v3], .pointer (some ⟨b, 0, none⟩)] w fun en w' => en = .returned (.bool (decide (nm = nm2))) ∧ Up w w' := by
  refine calls_of_sim Try.func71 rfl (Nat.le_of_ble_eq_true rfl) ?_
  repeat (first | refine RL.vv ?_ | refine RL.p ?_ | refine RL.nil ?_ | refine Sim.seq ?_ | refine Sim.region ?_ | refine Sim.block ?_ | refine Sim.skip ?_ | refine Sim.inBlock ?_ | refine Sim.exit rfl ?_ | refine Sim.condT rfl ?_ | refine Sim.condF rfl ?_)
  refine RL.box trivial rfl rfl fun w1 hu hb1 hsz => ?_
  have hb := hb.up hu
  repeat (first | refine RL.vv ?_ | refine RL.p ?_ | refine RL.nil ?_ | refine Sim.seq ?_ | refine Sim.region ?_ | refine Sim.block ?_ | refine Sim.skip ?_ | refine Sim.inBlock ?_ | refine Sim.exit rfl ?_ | refine Sim.condT rfl ?_ | refine Sim.condF rfl ?_)
  exact Sim.ret1 Try.func71 rfl rfl ⟨rfl, hu⟩
set_option maxHeartbeats 400000 in
theorem PFind_any {S : Nat → Prop} {v : Value} {l : List Prt} (n : Str) (w : World) (hl : SliceOf prtLay S w v l) :
    Calls Try.prog 32 #[v, .string n] w fun en w' => en = .returned (.int .i64 (partF l n)) ∧ Up w w' := by
  refine calls_of_sim Try.func32 rfl (Nat.le_of_ble_eq_true rfl) ?_
  repeat (first | refine RL.vv ?_ | refine RL.p ?_ | refine RL.nil ?_ | refine Sim.seq ?_ | refine Sim.region ?_ | refine Sim.block ?_ | refine Sim.skip ?_ | refine Sim.inBlock ?_ | refine Sim.exit rfl ?_ | refine Sim.condT rfl ?_ | refine Sim.condF rfl ?_)
  refine RL.box trivial rfl rfl fun w1 hu h1 hsz => ?_
  have hl := hl.up hu
  repeat (first | refine RL.vv ?_ | refine RL.p ?_ | refine RL.nil ?_ | refine Sim.seq ?_ | refine Sim.region ?_ | refine Sim.block ?_ | refine Sim.skip ?_ | refine Sim.inBlock ?_ | refine Sim.exit rfl ?_ | refine Sim.condT rfl ?_ | refine Sim.condF rfl ?_)
  obtain ⟨cells, hel, his⟩ := hl.elems
  refine RL.call trivial rfl (c_static rfl) (IndexFunc_Part (p := fun i => match l[i]? with | some t => decide (t.type.name = n) | none => false) hel ?_) ?_
  · intro i hi w2 hu2
    obtain ⟨v1, v2, v3, hcs, _⟩ := his i l[i] (List.getElem?_eq_getElem hi)
    rw [hcs]
    refine (PFind1_any _ n _ _ _ _ _ (h1.at.up hu2)).mono ?_
    rintro _ w3 ⟨rfl, hu3⟩
    exact ⟨by simp [List.getElem?_eq_getElem hi], hu3⟩
  rintro _ w2 ⟨rfl, hu2⟩
  refine ⟨_, rfl, ?_⟩
  repeat (first | refine RL.vv ?_ | refine RL.p ?_ | refine RL.nil ?_ | refine Sim.seq ?_ | refine Sim.region ?_ | refine Sim.block ?_ | refine Sim.skip ?_ | refine Sim.inBlock ?_ | refine Sim.exit rfl ?_ | refine Sim.condT rfl ?_ | refine Sim.condF rfl ?_)
  exact Sim.ret1 Try.func32 rfl rfl ⟨by rw [idx_firstIdx l (fun t => decide (t.type.name = n)) _ (fun i x hx => by simp only [hx])]; rfl, hu.trans hu2⟩
end Go.Proofs.Ytgckpmcdlciibab
