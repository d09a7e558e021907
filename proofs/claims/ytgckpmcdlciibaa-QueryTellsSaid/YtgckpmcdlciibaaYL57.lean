/- The walk of QueryTells. -/
import Derived.Test.YtgckpmcdlciibaaYCA2
import Derived.Test.YtgckpmcdlciibaaYCA3
import Derived.Test.YtgckpmcdlciibaaZK
namespace Go.Proofs.Ytgckpmcdlciibaa
open Go.RowKit
set_option maxHeartbeats 4000000 in
theorem QueryTells_walk {m : Nat} {S : Nat → Prop} {v : Value} (s : Str) (q : Ak) (w : World) (hps : SliceOf (pckLay (m + 1)) S w v q.picks) (hok : ∀ p ∈ q.picks, okPck (m + 1) p) (hx1 : q.type.size ≤ maxLen) (hx2 : q.key.size ≤ maxLen) :
    Calls Try.prog 14 #[.string s, .agg #[.string q.type, .string q.key, v]] w fun en w' => en = .returned (.bool true) ∧ Up w w' := by
  refine calls_of_sim Try.func14 rfl (Nat.le_of_ble_eq_true rfl) ?_
  obtain ⟨a, c, rfl, hnc, hcm, hel⟩ := id hps
  unfold maxLen at hcm
  repeat (first | refine RL.vv ?_ | refine RL.p ?_ | refine RL.nil ?_ | refine Sim.seq ?_ | refine Sim.region ?_ | refine Sim.block ?_ | refine Sim.skip ?_ | refine Sim.inBlock ?_ | refine Sim.exit rfl ?_ | refine Sim.condT rfl ?_ | refine Sim.condF rfl ?_)
  refine RL.bx (.refl w) fun b3 w1 he1 hle1 hu1 _ hb3 => ?_
  have hb3 : Box w1 b3 41 [.string q.type, .string q.key, .slice a q.picks.length c] := hb3
  repeat (first | refine RL.vv ?_ | refine RL.p ?_ | refine RL.nil ?_ | refine Sim.seq ?_ | refine Sim.region ?_ | refine Sim.block ?_ | refine Sim.skip ?_ | refine Sim.inBlock ?_ | refine Sim.exit rfl ?_ | refine Sim.condT rfl ?_ | refine Sim.condF rfl ?_)
  refine RL.cx (Parse_any s w1) ?_
  rintro _ w2 ⟨pv, rfl, h12, hs1⟩
  refine ⟨_, rfl, ?_⟩
  have hu2 := hu1.trans h12
  have hb3 := hb3.up h12
  obtain ⟨va, vc, rfl, _⟩ := id hs1
  repeat (first | refine RL.vv ?_ | refine RL.p ?_ | refine RL.nil ?_ | refine Sim.seq ?_ | refine Sim.region ?_ | refine Sim.block ?_ | refine Sim.skip ?_ | refine Sim.inBlock ?_ | refine Sim.exit rfl ?_ | refine Sim.condT rfl ?_ | refine Sim.condF rfl ?_)
  refine RL.al hu2 fun b5 w3 he5 hB5 hu3 h23 hb5 => ?_
  refine RL.al hu3 fun b6 w4 he6 hB6 hu4 h34 hb6 => ?_
  have hl3 := hb3.lt
  have hn : b5 < b6 := by have := hb5.lt; omega
  refine RL.st hu4 (hb5.up h34) hB5 fun w5 hu5 hbt5 hb5 => ?_
  refine RL.st hu5 (hb6.but hbt5 (by omega)) hB6 fun w6 hu6 hbt6 hb6 => ?_
  have hb5 : Box w6 b5 41 [.string (parseM s).1.type, .string (parseM s).1.key, .slice va (parseM s).1.picks.length vc] := hb5.but hbt6 (by omega)
  have hb6 : Box w6 b6 51 [.int .i64 (parseM s).2.1, .int .i64 (parseM s).2.2] := hb6
  have hb3 := (((hb3.up h23).up h34).but hbt5 (by omega)).but hbt6 (by omega)
  have hs1 := (((hs1.old.up h23).up h34).bt hbt5 (fun k hk => by omega)).bt hbt6 (fun k hk => by omega)
  clear hbt5 hbt6 h12 h23 h34 hu1 hu2 hu3 hu4 hu5 he5 he6 he1
  repeat (first | refine RL.vv ?_ | refine RL.p ?_ | refine RL.nil ?_ | refine Sim.seq ?_ | refine Sim.region ?_ | refine Sim.block ?_ | refine Sim.skip ?_ | refine Sim.inBlock ?_ | refine Sim.exit rfl ?_ | refine Sim.condT rfl ?_ | refine Sim.condF rfl ?_)
  refine RL.cx (RParse_any s w6) ?_
  rintro _ w7 ⟨pv, rfl, h67, hs2⟩
  refine ⟨_, rfl, ?_⟩
  have hu7 := hu6.trans h67
  have hs1 := hs1.up h67
  have hl5 := hb5.lt
  have hl6 := hb6.lt
  have hb3 := hb3.up h67
  have hb5 := hb5.up h67
  have hb6 := hb6.up h67
  obtain ⟨ya, yc, rfl, _⟩ := id hs2
  have hl3 := hb3.lt
  have hl5 := hb5.lt
  have hl6 := hb6.lt
  repeat (first | refine RL.vv ?_ | refine RL.p ?_ | refine RL.nil ?_ | refine Sim.seq ?_ | refine Sim.region ?_ | refine Sim.block ?_ | refine Sim.skip ?_ | refine Sim.inBlock ?_ | refine Sim.exit rfl ?_ | refine Sim.condT rfl ?_ | refine Sim.condF rfl ?_)
  refine RL.al hu7 fun b7 w8 he7 hB7 hu8 h78 hb7 => ?_
  refine RL.al hu8 fun b8 w9 he8 hB8 hu9 h89 hb8 => ?_
  have hn : b7 < b8 := by have := hb7.lt; omega
  refine RL.st hu9 (hb7.up h89) hB7 fun w10 hu10 hbt10 hb7 => ?_
  refine RL.st hu10 (hb8.but hbt10 (by omega)) hB8 fun w11 hu11 hbt11 hb8 => ?_
  have hb7 : Box w11 b7 41 [.string (parseM s).1.type, .string (parseM s).1.key, .slice ya (parseM s).1.picks.length yc] := hb7.but hbt11 (by omega)
  have hb8 : Box w11 b8 51 [.int .i64 (parseM s).2.1, .int .i64 (parseM s).2.2] := hb8
  have hb3 := (((hb3.up h78).up h89).but hbt10 (by omega)).but hbt11 (by omega)
  have hb5 := (((hb5.up h78).up h89).but hbt10 (by omega)).but hbt11 (by omega)
  have hb6 := (((hb6.up h78).up h89).but hbt10 (by omega)).but hbt11 (by omega)
  have hs1 := (((hs1.old.up h78).up h89).bt hbt10 (fun k hk => by omega)).bt hbt11 (fun k hk => by omega)
  have hs2 := (((hs2.old.up h78).up h89).bt hbt10 (fun k hk => by omega)).bt hbt11 (fun k hk => by omega)
  clear hbt10 hbt11 h67 h78 h89 hu6 hu7 hu8 hu9 hu10 he7 he8
  generalize parseM s = pr at *
  obtain ⟨x, pe, pa⟩ := pr
  simp only at hs1 hs2 hb5 hb6 hb7 hb8
  have ha3 := hb3.at
  have ha5 := hb5.at
  have ha6 := hb6.at
  have ha7 := hb7.at
  have ha8 := hb8.at
  have hw0 : ¬ ¬ wrongAsk (m + 1) q = wrongAsk (m + 1) q := fun h => h rfl
  repeat (first | refine RL.vv ?_ | refine RL.p ?_ | refine RL.nil ?_ | refine Sim.seq ?_ | refine Sim.region ?_ | refine Sim.block ?_ | refine Sim.skip ?_ | refine Sim.inBlock ?_ | refine Sim.exit rfl ?_ | refine Sim.condT rfl ?_ | refine Sim.condF rfl ?_)
  refine Sim.q ?_
  repeat (first | refine RQ.vv ?_ | refine RQ.p ?_)
  have hf : ∀ w, (Op.equalIn 10000 51 (.agg #[.int .i64 pe, .int .i64 pa]) (.agg #[.int .i64 pe, .int .i64 pa])).run Try.prog w = .ok true w := fun w => by rw [eq_fault]; simp
  refine RQ.vv ?_ (hy := fun wq hq => y_neqA rfl rfl guard_fault hf)
  repeat (first | refine RQ.vv ?_ | refine RQ.p ?_)
  refine RQ.cu (fun wq hq => q_call (Same_any (m := 8) x wq (hs1.up hq) (hs2.up hq)) hq) ?_
  repeat (first | refine RQ.vv ?_ | refine RQ.p ?_)
  refine RQ.cu (fun wq hq => q_call (WrongAsk_any q wq (hps.up (hu11.trans hq))) hq) ?_
  repeat (first | refine RQ.vv ?_ | refine RQ.p ?_)
  refine RQ.cu (fun wq hq => q_call (RWrongAsk_any q wq (hps.up (hu11.trans hq)) hok hx1 hx2) hq) ?_
  repeat (first | refine RQ.vv ?_ | refine RQ.p ?_)
  refine RQ.nil fun w12 hq => ?_
  have hu12 := hu11.trans hq
  have hb3 := hb3.up hq
  have ha3 := hb3.at
  clear hb5 hb6 hb7 hb8 ha5 ha6 ha7 ha8 hs1 hs2 hq hu11
  repeat (first | refine RL.vv ?_ | refine RL.p ?_ | refine RL.nil ?_ | refine Sim.seq ?_ | refine Sim.region ?_ | refine Sim.block ?_ | refine Sim.skip ?_ | refine Sim.inBlock ?_ | refine Sim.exit rfl ?_ | refine Sim.condT rfl ?_ | refine Sim.condF rfl ?_)
  refine RL.cu hu12 (Print_any q w12 (hps.up hu12)) fun w13 hu13 h1213 => ?_
  have hb3 := hb3.up h1213
  have ha3 := hb3.at
  repeat (first | refine RL.vv ?_ | refine RL.p ?_ | refine RL.nil ?_ | refine Sim.seq ?_ | refine Sim.region ?_ | refine Sim.block ?_ | refine Sim.skip ?_ | refine Sim.inBlock ?_ | refine Sim.exit rfl ?_ | refine Sim.condT rfl ?_ | refine Sim.condF rfl ?_)
  refine RL.cu hu13 (RPrint_any q w13 (hps.up hu13) hok hx1 hx2) fun w14 hu14 h1314 => ?_
  have hb3 := hb3.up h1314
  have ha3 := hb3.at
  clear h1213 h1314
  repeat (first | refine RL.vv ?_ | refine RL.p ?_ | refine RL.nil ?_ | refine Sim.seq ?_ | refine Sim.region ?_ | refine Sim.block ?_ | refine Sim.skip ?_ | refine Sim.inBlock ?_ | refine Sim.exit rfl ?_ | refine Sim.condT rfl ?_ | refine Sim.condF rfl ?_)
  refine Sim.loop (σ := Nat) (fun i => [(9, .string (printM (m + 1) q).1), (10, .int .i64 (printM (m + 1) q).2), (11, .string (printM (m + 1) q).1), (12, .int .i64 (printM (m + 1) q).2), (52, .slice a q.picks.length c), (53, .int .i64 (q.picks.length : Int)), (54, .int .i64 (i : Int))])
    (fun i w' => i ≤ q.picks.length ∧ Up w w') (fun i => q.picks.length - i) 0 sb ⟨Nat.zero_le _, hu14⟩ ?_
  clear hb3 ha3 hu14 hu13 hu12
  rintro i w15 ⟨hi, hu⟩ next
  have e1 : (printM (m + 1) q).1 = (printM (m + 1) q).1 := rfl
  have e2 : (printM (m + 1) q).2 = (printM (m + 1) q).2 := rfl
  by_cases hlt : i < q.picks.length
  rotate_left
  · repeat (first | refine RL.vv ?_ | refine RL.p ?_ | refine RL.nil ?_ | refine Sim.seq ?_ | refine Sim.region ?_ | refine Sim.block ?_ | refine Sim.skip ?_ | refine Sim.inBlock ?_ | refine Sim.exit rfl ?_ | refine Sim.condT rfl ?_ | refine Sim.condF rfl ?_)
    exact Sim.ret1 Try.func14 rfl rfl ⟨rfl, hu⟩
  have hx : q.picks[i]? = some q.picks[i] := List.getElem?_eq_getElem hlt
  obtain ⟨kb, ko, cs, rfl, _, hkat, hkis, _⟩ := (hps.up hu).at hx
  have hkat : At w15 kb (ko + i * 3) _ := hkat
  generalize q.picks[i] = pk at *
  obtain ⟨qv, rfl, hqv⟩ := pckLay_succ hkis
  obtain ⟨qa, qc, rfl, _⟩ := id hqv
  repeat (first | refine RL.vv ?_ | refine RL.p ?_ | refine RL.nil ?_ | refine Sim.seq ?_ | refine Sim.region ?_ | refine Sim.block ?_ | refine Sim.skip ?_ | refine Sim.inBlock ?_ | refine Sim.exit rfl ?_ | refine Sim.condT rfl ?_ | refine Sim.condF rfl ?_)
  refine RL.al hu fun b14 w16 he14 hle14 hu16 _ hb14 => ?_
  repeat (first | refine RL.vv ?_ | refine RL.p ?_ | refine RL.nil ?_ | refine Sim.seq ?_ | refine Sim.region ?_ | refine Sim.block ?_ | refine Sim.skip ?_ | refine Sim.inBlock ?_ | refine Sim.exit rfl ?_ | refine Sim.condT rfl ?_ | refine Sim.condF rfl ?_)
  refine RL.st hu16 hb14 hle14 fun w17 hu17 _ hb14 => ?_
  have hb14 : Box w17 b14 93 [.string pk.as, .string pk.field, .slice qa pk.picks.length qc] := hb14
  have ha14 := hb14.at
  have e3 : calledM pk = calledM pk := rfl
  repeat (first | refine RL.vv ?_ | refine RL.p ?_ | refine RL.nil ?_ | refine Sim.seq ?_ | refine Sim.region ?_ | refine Sim.block ?_ | refine Sim.skip ?_ | refine Sim.inBlock ?_ | refine Sim.exit rfl ?_ | refine Sim.condT rfl ?_ | refine Sim.condF rfl ?_)
  refine Sim.q ?_
  repeat (first | refine RQ.vv ?_ | refine RQ.p ?_)
  refine RQ.cu (fun wq hq => q_call (Called_any pk _ wq) hq) ?_
  repeat (first | refine RQ.vv ?_ | refine RQ.p ?_)
  refine RQ.cu (fun wq hq => q_call (RCalled_any pk _ wq) hq) ?_
  repeat (first | refine RQ.vv ?_ | refine RQ.p ?_)
  refine RQ.nil fun w18 hq => ?_
  repeat (first | refine RL.vv ?_ | refine RL.p ?_ | refine RL.nil ?_ | refine Sim.seq ?_ | refine Sim.region ?_ | refine Sim.block ?_ | refine Sim.skip ?_ | refine Sim.inBlock ?_ | refine Sim.exit rfl ?_ | refine Sim.condT rfl ?_ | refine Sim.condF rfl ?_)
  exact next (i + 1) w18 _ ⟨by omega, hu17.trans hq⟩ (by omega) sb
end Go.Proofs.Ytgckpmcdlciibaa
