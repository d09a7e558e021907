import Derived.Test.YtgckpmcdlciibaaC12
import Derived.Test.YtgckpmcdlciibaaEng6
namespace Go.Proofs.Ytgckpmcdlciibaa
open Go.RowKit
theorem findT_take {l : List Typ} {n : Str} {j : Nat} (h : findT l n = (j : Int)) : ¬ 0 ≤ findT (l.take j) n := fun hc => by
  obtain ⟨i, x, h1, h2, h3, h4⟩ := firstIdx_lt hc
  have hij : i < j := by simp at h4; omega
  rw [List.getElem?_take, if_pos hij] at h2
  unfold findT firstIdx at h
  cases hf : l.findIdx? (fun t => decide (t.name = n)) with
  | none => simp [hf] at h
  | some k =>
    simp [hf] at h
    obtain rfl : k = j := by omega
    obtain ⟨hk, _, hmin⟩ := List.findIdx?_eq_some_iff_getElem.1 hf
    have := hmin i hij
    obtain ⟨hi', hx⟩ := List.getElem?_eq_some_iff.1 h2
    rw [hx] at this
    rw [h3] at this
    simp at this
theorem flt_same (f : Flt) (w : World) : (Op.equalIn 10000 51 (.agg #[.int .i64 f.err, .int .i64 f.at_]) (.agg #[.int .i64 f.err, .int .i64 f.at_])).run Try.prog w = .ok true w := by
  rw [eq_fault]; simp

set_option maxHeartbeats 2000000 in
theorem SchemaTells_walk {S S' : Nat → Prop} {v xv : Value} {l : List Typ} {xs : List Thg} (n : Str) (w : World) (hl : SliceOf typLay S w v l) (hxs : SliceOf thgLay S' w xv xs) (hok : okTs l) (hokx : okXs xs) (hn : n.size ≤ maxLen) :
    Calls Try.prog 6 #[v, xv, .string n] w fun en w' => en = .returned (.bool true) ∧ Up w w' := by
  refine calls_of_sim Try.func6 rfl (Nat.le_of_ble_eq_true rfl) ?_
  obtain ⟨la, lc, rfl, hlnc, hlcm, _⟩ := id hl
  unfold maxLen at hlcm
  refine Sim.seq ?_
  refine Sim.region ?_
  (first | refine RL.vv ?_ | refine RL.p ?_ | refine RL.nil ?_ | refine Sim.seq ?_ | refine Sim.region ?_ | refine Sim.block ?_ | refine Sim.skip ?_ | refine Sim.inBlock ?_ | refine Sim.exit rfl ?_ | refine Sim.condT rfl ?_ | refine Sim.condF rfl ?_)
  (first | refine RL.vv ?_ | refine RL.p ?_ | refine RL.nil ?_ | refine Sim.seq ?_ | refine Sim.region ?_ | refine Sim.block ?_ | refine Sim.skip ?_ | refine Sim.inBlock ?_ | refine Sim.exit rfl ?_ | refine Sim.condT rfl ?_ | refine Sim.condF rfl ?_)
  refine Sim.seq ?_
  refine Sim.cut [(0, .slice la l.length lc), (1, xv), (2, .string n)] (fun w' => Up w w') ?_ ?_
  · intro k' next
    by_cases hF : 0 ≤ findT l n
    · obtain ⟨j, t, hj, htj, hname, hjl⟩ := findT_get (l := l) (n := n) (by omega)
      obtain ⟨b2, o2, cs2, rfl, _, hat2, ⟨fv, rfl, hfv⟩, _⟩ := hl.at htj
      repeat (first | refine RL.vv ?_ | refine RL.p ?_ | refine RL.nil ?_ | refine Sim.seq ?_ | refine Sim.region ?_ | refine Sim.block ?_ | refine Sim.skip ?_ | refine Sim.inBlock ?_ | refine Sim.exit rfl ?_ | refine Sim.condT rfl ?_ | refine Sim.condF rfl ?_)
      refine RL.call trivial rfl (c_static rfl) (Named_any n w) ?_
      rintro _ w1 ⟨rfl, hu⟩
      refine ⟨_, rfl, ?_⟩
      repeat (first | refine RL.vv ?_ | refine RL.p ?_ | refine RL.nil ?_ | refine Sim.seq ?_ | refine Sim.region ?_ | refine Sim.block ?_ | refine Sim.skip ?_ | refine Sim.inBlock ?_ | refine Sim.exit rfl ?_ | refine Sim.condT rfl ?_ | refine Sim.condF rfl ?_)
      refine RL.call trivial rfl (c_static rfl) (RNamed_any n w1 hn) ?_
      rintro _ w2 ⟨rfl, hu2⟩
      refine ⟨_, rfl, ?_⟩
      have hu := hu.trans hu2
      repeat (first | refine RL.vv ?_ | refine RL.p ?_ | refine RL.nil ?_ | refine Sim.seq ?_ | refine Sim.region ?_ | refine Sim.block ?_ | refine Sim.skip ?_ | refine Sim.inBlock ?_ | refine Sim.exit rfl ?_ | refine Sim.condT rfl ?_ | refine Sim.condF rfl ?_)
      refine RL.call ⟨_, _, rfl, rfl, rfl⟩ rfl (c_static rfl) (c_val (Find_any n w2 (hl.up hu)) (by rw [hj])) ?_
      rintro _ w3 ⟨rfl, hu3⟩
      refine ⟨_, rfl, ?_⟩
      have hu := hu.trans hu3
      repeat (first | refine RL.vv ?_ | refine RL.p ?_ | refine RL.nil ?_ | refine Sim.seq ?_ | refine Sim.region ?_ | refine Sim.block ?_ | refine Sim.skip ?_ | refine Sim.inBlock ?_ | refine Sim.exit rfl ?_ | refine Sim.condT rfl ?_ | refine Sim.condF rfl ?_)
      refine RL.call ⟨_, _, rfl, rfl, rfl⟩ rfl (c_static rfl) (c_val (RType_any n w3 (hl.up hu)) (by rw [hj, ptrAt_nat])) ?_
      rintro _ w4 ⟨rfl, rfl⟩
      refine ⟨_, rfl, ?_⟩
      repeat (first | refine RL.vv ?_ | refine RL.p ?_ | refine RL.nil ?_ | refine Sim.seq ?_ | refine Sim.region ?_ | refine Sim.block ?_ | refine Sim.skip ?_ | refine Sim.inBlock ?_ | refine Sim.exit rfl ?_ | refine Sim.condT rfl ?_ | refine Sim.condF rfl ?_)
      refine RL.call ⟨_, _, rfl, rfl, rfl⟩ rfl (c_static rfl) (Wrong_any w4 (hl.up hu)) ?_
      rintro _ w5 ⟨rfl, hu5⟩
      refine ⟨_, rfl, ?_⟩
      have hu := hu.trans hu5
      repeat (first | refine RL.vv ?_ | refine RL.p ?_ | refine RL.nil ?_ | refine Sim.seq ?_ | refine Sim.region ?_ | refine Sim.block ?_ | refine Sim.skip ?_ | refine Sim.inBlock ?_ | refine Sim.exit rfl ?_ | refine Sim.condT rfl ?_ | refine Sim.condF rfl ?_)
      refine RL.call ⟨_, _, rfl, rfl, rfl⟩ rfl (c_static rfl) (RWrong_any w5 (hl.up hu) hok) ?_
      rintro _ w6 ⟨rfl, hu6⟩
      refine ⟨_, rfl, ?_⟩
      have hu := hu.trans hu6
      refine RL.val ⟨_, _, rfl, rfl, rfl⟩ rfl (y_neqA (b := true) rfl rfl guard_fault (flt_same _)) ?_
      repeat (first | refine RL.vv ?_ | refine RL.p ?_ | refine RL.nil ?_ | refine Sim.seq ?_ | refine Sim.region ?_ | refine Sim.block ?_ | refine Sim.skip ?_ | refine Sim.inBlock ?_ | refine Sim.exit rfl ?_ | refine Sim.condT rfl ?_ | refine Sim.condF rfl ?_)
      exact next _ _ hu sb
    · repeat (first | refine RL.vv ?_ | refine RL.p ?_ | refine RL.nil ?_ | refine Sim.seq ?_ | refine Sim.region ?_ | refine Sim.block ?_ | refine Sim.skip ?_ | refine Sim.inBlock ?_ | refine Sim.exit rfl ?_ | refine Sim.condT rfl ?_ | refine Sim.condF rfl ?_)
      refine RL.call trivial rfl (c_static rfl) (Named_any n w) ?_
      rintro _ w1 ⟨rfl, hu⟩
      refine ⟨_, rfl, ?_⟩
      repeat (first | refine RL.vv ?_ | refine RL.p ?_ | refine RL.nil ?_ | refine Sim.seq ?_ | refine Sim.region ?_ | refine Sim.block ?_ | refine Sim.skip ?_ | refine Sim.inBlock ?_ | refine Sim.exit rfl ?_ | refine Sim.condT rfl ?_ | refine Sim.condF rfl ?_)
      refine RL.call trivial rfl (c_static rfl) (RNamed_any n w1 hn) ?_
      rintro _ w2 ⟨rfl, hu2⟩
      refine ⟨_, rfl, ?_⟩
      have hu := hu.trans hu2
      repeat (first | refine RL.vv ?_ | refine RL.p ?_ | refine RL.nil ?_ | refine Sim.seq ?_ | refine Sim.region ?_ | refine Sim.block ?_ | refine Sim.skip ?_ | refine Sim.inBlock ?_ | refine Sim.exit rfl ?_ | refine Sim.condT rfl ?_ | refine Sim.condF rfl ?_)
      refine RL.call ⟨_, _, rfl, rfl, rfl⟩ rfl (c_static rfl) (c_val (Find_any n w2 (hl.up hu)) (by rw [findT_neg hF])) ?_
      rintro _ w3 ⟨rfl, hu3⟩
      refine ⟨_, rfl, ?_⟩
      have hu := hu.trans hu3
      repeat (first | refine RL.vv ?_ | refine RL.p ?_ | refine RL.nil ?_ | refine Sim.seq ?_ | refine Sim.region ?_ | refine Sim.block ?_ | refine Sim.skip ?_ | refine Sim.inBlock ?_ | refine Sim.exit rfl ?_ | refine Sim.condT rfl ?_ | refine Sim.condF rfl ?_)
      refine RL.call ⟨_, _, rfl, rfl, rfl⟩ rfl (c_static rfl) (c_val (RType_any n w3 (hl.up hu)) (by rw [findT_neg hF, ptrAt_neg])) ?_
      rintro _ w4 ⟨rfl, rfl⟩
      refine ⟨_, rfl, ?_⟩
      repeat (first | refine RL.vv ?_ | refine RL.p ?_ | refine RL.nil ?_ | refine Sim.seq ?_ | refine Sim.region ?_ | refine Sim.block ?_ | refine Sim.skip ?_ | refine Sim.inBlock ?_ | refine Sim.exit rfl ?_ | refine Sim.condT rfl ?_ | refine Sim.condF rfl ?_)
      refine RL.call ⟨_, _, rfl, rfl, rfl⟩ rfl (c_static rfl) (Wrong_any w4 (hl.up hu)) ?_
      rintro _ w5 ⟨rfl, hu5⟩
      refine ⟨_, rfl, ?_⟩
      have hu := hu.trans hu5
      repeat (first | refine RL.vv ?_ | refine RL.p ?_ | refine RL.nil ?_ | refine Sim.seq ?_ | refine Sim.region ?_ | refine Sim.block ?_ | refine Sim.skip ?_ | refine Sim.inBlock ?_ | refine Sim.exit rfl ?_ | refine Sim.condT rfl ?_ | refine Sim.condF rfl ?_)
      refine RL.call ⟨_, _, rfl, rfl, rfl⟩ rfl (c_static rfl) (RWrong_any w5 (hl.up hu) hok) ?_
      rintro _ w6 ⟨rfl, hu6⟩
      refine ⟨_, rfl, ?_⟩
      have hu := hu.trans hu6
      refine RL.val ⟨_, _, rfl, rfl, rfl⟩ rfl (y_neqA (b := true) rfl rfl guard_fault (flt_same _)) ?_
      repeat (first | refine RL.vv ?_ | refine RL.p ?_ | refine RL.nil ?_ | refine Sim.seq ?_ | refine Sim.region ?_ | refine Sim.block ?_ | refine Sim.skip ?_ | refine Sim.inBlock ?_ | refine Sim.exit rfl ?_ | refine Sim.condT rfl ?_ | refine Sim.condF rfl ?_)
      exact next _ _ hu sb
  intro w1 hu
  refine Sim.seq ?_
  refine Sim.cut [(0, .slice la l.length lc), (1, xv), (2, .string n)] (fun w' => Up w w') ?_ ?_
  · intro k' next
    by_cases hF : 0 ≤ findT l n
    · obtain ⟨j, t, hj, htj, hname, hjl⟩ := findT_get (l := l) (n := n) (by omega)
      obtain ⟨b2, o2, cs2, rfl, _, hat2, ⟨fv, rfl, hfv⟩, _⟩ := hl.at htj
      have hat2 : At w b2 (o2 + j * 2) _ := hat2
      have htk := (hl.take (i := j) (by omega))
      repeat (first | refine RL.vv ?_ | refine RL.p ?_ | refine RL.nil ?_ | refine Sim.seq ?_ | refine Sim.region ?_ | refine Sim.block ?_ | refine Sim.skip ?_ | refine Sim.inBlock ?_ | refine Sim.exit rfl ?_ | refine Sim.condT rfl ?_ | refine Sim.condF rfl ?_)
      refine RL.call trivial rfl (c_static rfl) (c_val (Find_any n w1 (hl.up hu)) (by rw [hj])) ?_
      rintro _ w7 ⟨rfl, hu7⟩
      refine ⟨_, rfl, ?_⟩
      have hu := hu.trans hu7
      repeat (first | refine RL.vv ?_ | refine RL.p ?_ | refine RL.nil ?_ | refine Sim.seq ?_ | refine Sim.region ?_ | refine Sim.block ?_ | refine Sim.skip ?_ | refine Sim.inBlock ?_ | refine Sim.exit rfl ?_ | refine Sim.condT rfl ?_ | refine Sim.condF rfl ?_)
      refine RL.call ⟨_, _, rfl, rfl, rfl⟩ rfl (c_static rfl) (c_val (RType_any n w7 (htk.up hu)) (by rw [findT_neg (findT_take hj), ptrAt_neg])) ?_
      rintro _ w8 ⟨rfl, rfl⟩
      refine ⟨_, rfl, ?_⟩
      repeat (first | refine RL.vv ?_ | refine RL.p ?_ | refine RL.nil ?_ | refine Sim.seq ?_ | refine Sim.region ?_ | refine Sim.block ?_ | refine Sim.skip ?_ | refine Sim.inBlock ?_ | refine Sim.exit rfl ?_ | refine Sim.condT rfl ?_ | refine Sim.condF rfl ?_)
      exact next _ _ hu sb
    · repeat (first | refine RL.vv ?_ | refine RL.p ?_ | refine RL.nil ?_ | refine Sim.seq ?_ | refine Sim.region ?_ | refine Sim.block ?_ | refine Sim.skip ?_ | refine Sim.inBlock ?_ | refine Sim.exit rfl ?_ | refine Sim.condT rfl ?_ | refine Sim.condF rfl ?_)
      refine RL.call trivial rfl (c_static rfl) (c_val (Find_any n w1 (hl.up hu)) (by rw [findT_neg hF])) ?_
      rintro _ w7 ⟨rfl, hu7⟩
      refine ⟨_, rfl, ?_⟩
      have hu := hu.trans hu7
      repeat (first | refine RL.vv ?_ | refine RL.p ?_ | refine RL.nil ?_ | refine Sim.seq ?_ | refine Sim.region ?_ | refine Sim.block ?_ | refine Sim.skip ?_ | refine Sim.inBlock ?_ | refine Sim.exit rfl ?_ | refine Sim.condT rfl ?_ | refine Sim.condF rfl ?_)
      exact next _ _ hu sb
  clear hu w1
  intro w1 hu
  repeat (first | refine RL.vv ?_ | refine RL.p ?_ | refine RL.nil ?_ | refine Sim.seq ?_ | refine Sim.region ?_ | refine Sim.block ?_ | refine Sim.skip ?_ | refine Sim.inBlock ?_ | refine Sim.exit rfl ?_ | refine Sim.condT rfl ?_ | refine Sim.condF rfl ?_)
  refine Sim.loop (σ := Nat) (fun i => [(0, .slice la l.length lc), (1, xv), (2, .string n), (61, .slice la l.length lc), (62, .int .i64 (l.length : Int)), (63, .int .i64 (i : Int))]) (fun i w' => i ≤ l.length ∧ Up w w') (fun i => l.length - i) 0 sb ⟨Nat.zero_le _, hu⟩ ?_
  clear hu w1
  rintro i w1 ⟨hi, hu⟩ next
  by_cases hlt : i < l.length
  · have hx : l[i]? = some l[i] := List.getElem?_eq_getElem hlt
    obtain ⟨b, o, cs, rfl, _, hat, ⟨fv, rfl, hfv⟩, _⟩ := hl.at hx
    obtain ⟨fa, fc, rfl, _⟩ := id hfv
    have hat : At w b (o + i * 2) _ := hat
    generalize l[i] = t at *
    repeat (first | refine RL.vv ?_ | refine RL.p ?_ | refine RL.nil ?_ | refine Sim.seq ?_ | refine Sim.region ?_ | refine Sim.block ?_ | refine Sim.skip ?_ | refine Sim.inBlock ?_ | refine Sim.exit rfl ?_ | refine Sim.condT rfl ?_ | refine Sim.condF rfl ?_)
    refine RL.alloc trivial rfl fun w2 hu2 hb2 _ => ?_
    refine RL.store trivial rfl rfl hb2 rfl rfl (by simp [Value.oneCell']) (Nat.le_of_ble_eq_true rfl) rfl fun w3 hb3 hb4 => ?_
    have hu := (hu.trans hu2).but hb3 hu.size
    clear hb2 hb3 hu2
    repeat (first | refine RL.vv ?_ | refine RL.p ?_ | refine RL.nil ?_ | refine Sim.seq ?_ | refine Sim.region ?_ | refine Sim.block ?_ | refine Sim.skip ?_ | refine Sim.inBlock ?_ | refine Sim.exit rfl ?_ | refine Sim.condT rfl ?_ | refine Sim.condF rfl ?_)
    refine Sim.quiet (Up w3) mixed (by kernel_rfl) (Up.drew _) ?_
    repeat (first | refine RQ.vv ?_ | refine RQ.p ?_)
    refine RQ.call trivial rfl (fun wq hq => c_static rfl) (fun wq hq => q_call (Field_any n wq (hfv.up (hu.trans hq))) hq) ?_
    repeat (first | refine RQ.vv ?_ | refine RQ.p ?_)
    refine RQ.call trivial rfl (fun wq hq => c_static rfl) (fun wq hq => q_call (RAt_any n wq (hfv.up (hu.trans hq))) hq) ?_
    repeat (first | refine RQ.vv ?_ | refine RQ.p ?_)
    refine RQ.nil fun w4 hq => ?_
    repeat (first | refine RL.vv ?_ | refine RL.p ?_ | refine RL.nil ?_ | refine Sim.seq ?_ | refine Sim.region ?_ | refine Sim.block ?_ | refine Sim.skip ?_ | refine Sim.inBlock ?_ | refine Sim.exit rfl ?_ | refine Sim.condT rfl ?_ | refine Sim.condF rfl ?_)
    exact next (i + 1) _ _ ⟨by omega, hu.trans hq⟩ (by omega) sb
  repeat (first | refine RL.vv ?_ | refine RL.p ?_ | refine RL.nil ?_ | refine Sim.seq ?_ | refine Sim.region ?_ | refine Sim.block ?_ | refine Sim.skip ?_ | refine Sim.inBlock ?_ | refine Sim.exit rfl ?_ | refine Sim.condT rfl ?_ | refine Sim.condF rfl ?_)
  refine RL.call trivial rfl (c_static rfl) (RWrong_any w1 (hl.up hu) hok) ?_
  rintro _ w2 ⟨rfl, hu2⟩
  refine ⟨_, rfl, ?_⟩
  have hu := hu.trans hu2
  clear hu2
  refine RL.val trivial rfl (y_field (v := .int .i64 (wrongT l).err) rfl (fun w => by kernel_rfl)) ?_
  by_cases h0 : (wrongT l).err = 0
  · repeat (first | refine RL.vv ?_ | refine RL.p ?_ | refine RL.nil ?_ | refine Sim.seq ?_ | refine Sim.region ?_ | refine Sim.block ?_ | refine Sim.skip ?_ | refine Sim.inBlock ?_ | refine Sim.exit rfl ?_ | refine Sim.condT rfl ?_ | refine Sim.condF rfl ?_)
    refine RL.call ⟨_, _, rfl, rfl, rfl⟩ rfl (c_static rfl) (Things_any w2 (hl.up hu) (hxs.up hu)) ?_
    rintro _ w3 ⟨rfl, hu3⟩
    refine ⟨_, rfl, ?_⟩
    have hu := hu.trans hu3
    repeat (first | refine RL.vv ?_ | refine RL.p ?_ | refine RL.nil ?_ | refine Sim.seq ?_ | refine Sim.region ?_ | refine Sim.block ?_ | refine Sim.skip ?_ | refine Sim.inBlock ?_ | refine Sim.exit rfl ?_ | refine Sim.condT rfl ?_ | refine Sim.condF rfl ?_)
    refine RL.call ⟨_, _, rfl, rfl, rfl⟩ rfl (c_static rfl) (RWrongThings_any w3 (hl.up hu) (hxs.up hu) hokx) ?_
    rintro _ w4 ⟨rfl, hu4⟩
    refine ⟨_, rfl, ?_⟩
    refine RL.val ⟨_, _, rfl, rfl, rfl⟩ rfl (y_eqlA (b := true) rfl rfl guard_fault (flt_same _)) ?_
    repeat (first | refine RL.vv ?_ | refine RL.p ?_ | refine RL.nil ?_ | refine Sim.seq ?_ | refine Sim.region ?_ | refine Sim.block ?_ | refine Sim.skip ?_ | refine Sim.inBlock ?_ | refine Sim.exit rfl ?_ | refine Sim.condT rfl ?_ | refine Sim.condF rfl ?_)
    exact Sim.ret1 Try.func6 rfl rfl ⟨rfl, hu.trans hu4⟩
  · repeat (first | refine RL.vv ?_ | refine RL.p ?_ | refine RL.nil ?_ | refine Sim.seq ?_ | refine Sim.region ?_ | refine Sim.block ?_ | refine Sim.skip ?_ | refine Sim.inBlock ?_ | refine Sim.exit rfl ?_ | refine Sim.condT rfl ?_ | refine Sim.condF rfl ?_)
    exact Sim.ret1 Try.func6 rfl rfl ⟨rfl, hu⟩
end Go.Proofs.Ytgckpmcdlciibaa
