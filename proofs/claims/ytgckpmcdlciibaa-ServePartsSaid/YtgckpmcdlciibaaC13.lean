/- Contracts of chapter 4's small functions: Called, merge.Find, ref Part. -/
import Derived.Test.YtgckpmcdlciibaaC12
import Derived.Test.YtgckpmcdlciibaaMod2
namespace Go.Proofs.Ytgckpmcdlciibaa
open Go.RowKit
set_option maxHeartbeats 400000 in
theorem Called_any (p : Pck) (v : Value) (w : World) : Calls Try.prog 49 #[.agg #[.string p.as, .string p.field, v]] w fun en w' => en = .returned (.string (calledM p)) ∧ Up w w' := by
  refine calls_of_sim Try.func49 rfl (Nat.le_of_ble_eq_true rfl) ?_
  by_cases h : p.as = ⟨#[]⟩
  · repeat (first | refine RL.vv ?_ | refine RL.p ?_ | refine RL.nil ?_ | refine Sim.seq ?_ | refine Sim.region ?_ | refine Sim.block ?_ | refine Sim.skip ?_ | refine Sim.inBlock ?_ | refine Sim.exit rfl ?_ | refine Sim.condT rfl ?_ | refine Sim.condF rfl ?_)
    refine RL.box trivial rfl rfl fun w1 hu hb1 hsz => ?_
    repeat (first | refine RL.vv ?_ | refine RL.p ?_ | refine RL.nil ?_ | refine Sim.seq ?_ | refine Sim.region ?_ | refine Sim.block ?_ | refine Sim.skip ?_ | refine Sim.inBlock ?_ | refine Sim.exit rfl ?_ | refine Sim.condT rfl ?_ | refine Sim.condF rfl ?_)
    exact Sim.ret1 Try.func49 rfl rfl ⟨by rw [calledM, if_pos h], hu⟩
  · repeat (first | refine RL.vv ?_ | refine RL.p ?_ | refine RL.nil ?_ | refine Sim.seq ?_ | refine Sim.region ?_ | refine Sim.block ?_ | refine Sim.skip ?_ | refine Sim.inBlock ?_ | refine Sim.exit rfl ?_ | refine Sim.condT rfl ?_ | refine Sim.condF rfl ?_)
    refine RL.box trivial rfl rfl fun w1 hu hb1 hsz => ?_
    repeat (first | refine RL.vv ?_ | refine RL.p ?_ | refine RL.nil ?_ | refine Sim.seq ?_ | refine Sim.region ?_ | refine Sim.block ?_ | refine Sim.skip ?_ | refine Sim.inBlock ?_ | refine Sim.exit rfl ?_ | refine Sim.condT rfl ?_ | refine Sim.condF rfl ?_)
    exact Sim.ret1 Try.func49 rfl rfl ⟨by rw [calledM, if_neg h], hu⟩
set_option maxHeartbeats 400000 in
theorem RCalled_any (p : Pck) (v : Value) (w : World) : Calls Try.prog 50 #[.agg #[.string p.as, .string p.field, v]] w fun en w' => en = .returned (.string (calledM p)) ∧ Up w w' := by
  refine calls_of_sim Try.func50 rfl (Nat.le_of_ble_eq_true rfl) ?_
  by_cases h : p.as = ⟨#[]⟩
  · repeat (first | refine RL.vv ?_ | refine RL.p ?_ | refine RL.nil ?_ | refine Sim.seq ?_ | refine Sim.region ?_ | refine Sim.block ?_ | refine Sim.skip ?_ | refine Sim.inBlock ?_ | refine Sim.exit rfl ?_ | refine Sim.condT rfl ?_ | refine Sim.condF rfl ?_)
    refine RL.box trivial rfl rfl fun w1 hu hb1 hsz => ?_
    repeat (first | refine RL.vv ?_ | refine RL.p ?_ | refine RL.nil ?_ | refine Sim.seq ?_ | refine Sim.region ?_ | refine Sim.block ?_ | refine Sim.skip ?_ | refine Sim.inBlock ?_ | refine Sim.exit rfl ?_ | refine Sim.condT rfl ?_ | refine Sim.condF rfl ?_)
    exact Sim.ret1 Try.func50 rfl rfl ⟨by rw [calledM, if_pos h], hu⟩
  · repeat (first | refine RL.vv ?_ | refine RL.p ?_ | refine RL.nil ?_ | refine Sim.seq ?_ | refine Sim.region ?_ | refine Sim.block ?_ | refine Sim.skip ?_ | refine Sim.inBlock ?_ | refine Sim.exit rfl ?_ | refine Sim.condT rfl ?_ | refine Sim.condF rfl ?_)
    refine RL.box trivial rfl rfl fun w1 hu hb1 hsz => ?_
    repeat (first | refine RL.vv ?_ | refine RL.p ?_ | refine RL.nil ?_ | refine Sim.seq ?_ | refine Sim.region ?_ | refine Sim.block ?_ | refine Sim.skip ?_ | refine Sim.inBlock ?_ | refine Sim.exit rfl ?_ | refine Sim.condT rfl ?_ | refine Sim.condF rfl ?_)
    exact Sim.ret1 Try.func50 rfl rfl ⟨by rw [calledM, if_neg h], hu⟩
set_option maxHeartbeats 400000 in
theorem PFind1_any (nm nm2 : ByteArray) (v1 v2 v3 : Value) (b : Nat) (w : World) (hb : At w b 0 [.string nm2]) :
    Calls Try.prog 114 #[.agg #[.string nm, v1, v2, v3], .pointer (some ⟨b, 0, none⟩)] w fun en w' => en = .returned (.bool (decide (nm = nm2))) ∧ Up w w' := by
  refine calls_of_sim Try.func114 rfl (Nat.le_of_ble_eq_true rfl) ?_
  repeat (first | refine RL.vv ?_ | refine RL.p ?_ | refine RL.nil ?_ | refine Sim.seq ?_ | refine Sim.region ?_ | refine Sim.block ?_ | refine Sim.skip ?_ | refine Sim.inBlock ?_ | refine Sim.exit rfl ?_ | refine Sim.condT rfl ?_ | refine Sim.condF rfl ?_)
  refine RL.box trivial rfl rfl fun w1 hu hb1 hsz => ?_
  have hb := hb.up hu
  repeat (first | refine RL.vv ?_ | refine RL.p ?_ | refine RL.nil ?_ | refine Sim.seq ?_ | refine Sim.region ?_ | refine Sim.block ?_ | refine Sim.skip ?_ | refine Sim.inBlock ?_ | refine Sim.exit rfl ?_ | refine Sim.condT rfl ?_ | refine Sim.condF rfl ?_)
  exact Sim.ret1 Try.func114 rfl rfl ⟨rfl, hu⟩
set_option maxHeartbeats 400000 in
theorem PFind_any {S : Nat → Prop} {v : Value} {l : List Prt} (n : Str) (w : World) (hl : SliceOf prtLay S w v l) :
    Calls Try.prog 98 #[v, .string n] w fun en w' => en = .returned (.int .i64 (partF l n)) ∧ Up w w' := by
  refine calls_of_sim Try.func98 rfl (Nat.le_of_ble_eq_true rfl) ?_
  repeat (first | refine RL.vv ?_ | refine RL.p ?_ | refine RL.nil ?_ | refine Sim.seq ?_ | refine Sim.region ?_ | refine Sim.block ?_ | refine Sim.skip ?_ | refine Sim.inBlock ?_ | refine Sim.exit rfl ?_ | refine Sim.condT rfl ?_ | refine Sim.condF rfl ?_)
  refine RL.box trivial rfl rfl fun w1 hu h1 hsz => ?_
  have hl := hl.up hu
  repeat (first | refine RL.vv ?_ | refine RL.p ?_ | refine RL.nil ?_ | refine Sim.seq ?_ | refine Sim.region ?_ | refine Sim.block ?_ | refine Sim.skip ?_ | refine Sim.inBlock ?_ | refine Sim.exit rfl ?_ | refine Sim.condT rfl ?_ | refine Sim.condF rfl ?_)
  obtain ⟨cells, hel, his⟩ := hl.elems
  refine RL.call trivial rfl (c_static rfl) (IndexFunc_Part (p := fun i => match l[i]? with | some t => decide (t.type.name = n) | none => false) hel ?_) ?_
  · intro i hi w2 hu2
    obtain ⟨v1, v2, v3, hcs, _⟩ := his i l[i] (List.getElem?_eq_getElem hi)
    rw [hcs]
    refine (PFind1_any _ n _ _ _ _ _ (h1.at.up hu2)).mono ?_
    rintro _ w3 ⟨rfl, hu3⟩
    exact ⟨by simp [List.getElem?_eq_getElem hi], hu3⟩
  rintro _ w2 ⟨rfl, hu2⟩
  refine ⟨_, rfl, ?_⟩
  repeat (first | refine RL.vv ?_ | refine RL.p ?_ | refine RL.nil ?_ | refine Sim.seq ?_ | refine Sim.region ?_ | refine Sim.block ?_ | refine Sim.skip ?_ | refine Sim.inBlock ?_ | refine Sim.exit rfl ?_ | refine Sim.condT rfl ?_ | refine Sim.condF rfl ?_)
  exact Sim.ret1 Try.func98 rfl rfl ⟨by rw [idx_firstIdx l (fun t => decide (t.type.name = n)) _ (fun i x hx => by simp only [hx])]; rfl, hu.trans hu2⟩
set_option maxHeartbeats 400000 in
theorem RPart_any {S : Nat → Prop} {v : Value} {l : List Prt} (n : Str) (w : World) (hl : SliceOf prtLay S w v l) :
    Calls Try.prog 101 #[v, .string n] w fun en w' => en = .returned (ptrAt v 4 (partF l n)) ∧ w' = w := by
  refine calls_of_sim Try.func101 rfl (Nat.le_of_ble_eq_true rfl) ?_
  obtain ⟨a, c, rfl, hnc, hcm, hel⟩ := id hl
  unfold maxLen at hcm
  repeat (first | refine RL.vv ?_ | refine RL.p ?_ | refine RL.nil ?_ | refine Sim.seq ?_ | refine Sim.region ?_ | refine Sim.block ?_ | refine Sim.skip ?_ | refine Sim.inBlock ?_ | refine Sim.exit rfl ?_ | refine Sim.condT rfl ?_ | refine Sim.condF rfl ?_)
  refine Sim.loop (σ := Nat) (fun i => [(0, .slice a l.length c), (1, .string n), (6, .slice a l.length c), (7, .int .i64 (l.length : Int)), (8, .int .i64 (i : Int))]) (fun i w' => i ≤ l.length ∧ w' = w ∧ ∀ (j : Nat) x, j < i → l[j]? = some x → decide (x.type.name = n) = false) (fun i => l.length - i) 0 sb ⟨Nat.zero_le _, rfl, fun j x hj => absurd hj (Nat.not_lt_zero _)⟩ ?_
  rintro i w1 ⟨hi, rfl, hno⟩ next
  by_cases hlt : i < l.length
  · have hx : l[i]? = some l[i] := List.getElem?_eq_getElem hlt
    obtain ⟨b, o, cs, rfl, _, hat, ⟨v1, v2, v3, rfl, _⟩, _⟩ := hl.at hx
    have hat : At w1 b (o + i * 4) _ := hat
    by_cases hn : l[i].type.name = n
    · repeat (first | refine RL.vv ?_ | refine RL.p ?_ | refine RL.nil ?_ | refine Sim.seq ?_ | refine Sim.region ?_ | refine Sim.block ?_ | refine Sim.skip ?_ | refine Sim.inBlock ?_ | refine Sim.exit rfl ?_ | refine Sim.condT rfl ?_ | refine Sim.condF rfl ?_)
      exact Sim.ret1 Try.func101 rfl rfl ⟨by rw [partF, firstIdx_hit hx (decide_eq_true hn) hno, ptrAt_nat], rfl⟩
    · repeat (first | refine RL.vv ?_ | refine RL.p ?_ | refine RL.nil ?_ | refine Sim.seq ?_ | refine Sim.region ?_ | refine Sim.block ?_ | refine Sim.skip ?_ | refine Sim.inBlock ?_ | refine Sim.exit rfl ?_ | refine Sim.condT rfl ?_ | refine Sim.condF rfl ?_)
      refine next (i + 1) w1 _ ⟨by omega, rfl, fun j x hj hxj => ?_⟩ (by omega) sb
      by_cases hji : j = i
      · subst hji; rw [hx] at hxj; cases hxj; exact decide_eq_false hn
      · exact hno j x (by omega) hxj
  · repeat (first | refine RL.vv ?_ | refine RL.p ?_ | refine RL.nil ?_ | refine Sim.seq ?_ | refine Sim.region ?_ | refine Sim.block ?_ | refine Sim.skip ?_ | refine Sim.inBlock ?_ | refine Sim.exit rfl ?_ | refine Sim.condT rfl ?_ | refine Sim.condF rfl ?_)
    exact Sim.ret1 Try.func101 rfl rfl ⟨by rw [partF, firstIdx_miss (fun j x hxj => hno j x (by have := (List.getElem?_eq_some_iff.1 hxj).1; omega) hxj), ptrAt_neg], rfl⟩
end Go.Proofs.Ytgckpmcdlciibaa
