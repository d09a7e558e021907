/- Contracts of chapter 4: what is wrong with picks of a type (the reference's). -/
import Derived.Test.YtgckpmcdlciibaaC17
namespace Go.Proofs.Ytgckpmcdlciibaa
open Go.RowKit
set_option maxHeartbeats 2000000 in
theorem Goes_step {m : Nat} {S S' : Nat → Prop} {lv v : Value} {l : List Prt} {ps : List Pck} (n : Str) (w : World) (hl : SliceOf prtLay S' w lv l) (hps : SliceOf (pckLay (m + 1)) S w v ps)
    (hsub : ∀ (kv : Value) (nm : Str) (qs : List Pck) (w1 : World), SliceOf prtLay S' w1 lv l → SliceOf (pckLay m) S w1 kv qs → 0 < qs.length →
      Calls Try.prog 58 #[lv, .string nm, kv] w1 fun en w' => en = .returned (.int .i64 (goesM m l nm qs)) ∧ Up w1 w') :
    Calls Try.prog 58 #[lv, .string n, v] w fun en w' => en = .returned (.int .i64 (goesM (m + 1) l n ps)) ∧ Up w w' := by
  refine calls_of_sim Try.func58 rfl (Nat.le_of_ble_eq_true rfl) ?_
  obtain ⟨a, c, rfl, hnc, hcm, hel⟩ := id hps
  obtain ⟨la, lc, rfl, hlnc, hlcm, _⟩ := id hl
  unfold maxLen at hcm hlcm
  by_cases hk : partF l n < 0
  · rw [goesM_none hk]
    repeat (first | refine RL.vv ?_ | refine RL.p ?_ | refine RL.nil ?_ | refine Sim.seq ?_ | refine Sim.region ?_ | refine Sim.block ?_ | refine Sim.skip ?_ | refine Sim.inBlock ?_ | refine Sim.exit rfl ?_ | refine Sim.condT rfl ?_ | refine Sim.condF rfl ?_)
    refine RL.call trivial rfl (c_static rfl) (c_val (RPart_any n w hl) (by rw [partF_none hk, ptrAt_neg])) ?_
    rintro _ w1 ⟨rfl, rfl⟩
    refine ⟨_, rfl, ?_⟩
    repeat (first | refine RL.vv ?_ | refine RL.p ?_ | refine RL.nil ?_ | refine Sim.seq ?_ | refine Sim.region ?_ | refine Sim.block ?_ | refine Sim.skip ?_ | refine Sim.inBlock ?_ | refine Sim.exit rfl ?_ | refine Sim.condT rfl ?_ | refine Sim.condF rfl ?_)
    exact Sim.ret1 Try.func58 rfl rfl ⟨rfl, .refl _⟩
  obtain ⟨j, t, hj, htj, hjl⟩ := partF_get hk
  rw [goesM_some hj htj]
  obtain ⟨tb, to, cs, rfl, _, hat, ⟨fv, v2, v3, rfl, hfv, _⟩, _⟩ := hl.at htj
  have hat : At w tb (to + j * 4) _ := hat
  obtain ⟨fa, fc, rfl, hfnc, hfcm, _⟩ := id hfv
  repeat (first | refine RL.vv ?_ | refine RL.p ?_ | refine RL.nil ?_ | refine Sim.seq ?_ | refine Sim.region ?_ | refine Sim.block ?_ | refine Sim.skip ?_ | refine Sim.inBlock ?_ | refine Sim.exit rfl ?_ | refine Sim.condT rfl ?_ | refine Sim.condF rfl ?_)
  refine RL.call trivial rfl (c_static rfl) (c_val (RPart_any n w hl) (by rw [hj, ptrAt_nat])) ?_
  rintro _ w ⟨rfl, rfl⟩
  refine ⟨_, rfl, ?_⟩
  generalize hsubE : goesM m l = sub at *
  repeat (first | refine RL.vv ?_ | refine RL.p ?_ | refine RL.nil ?_ | refine Sim.seq ?_ | refine Sim.region ?_ | refine Sim.block ?_ | refine Sim.skip ?_ | refine Sim.inBlock ?_ | refine Sim.exit rfl ?_ | refine Sim.condT rfl ?_ | refine Sim.condF rfl ?_)
  refine Sim.loop (σ := Nat) (fun i => [(0, .slice (some ⟨tb, to, none⟩) l.length lc), (2, .slice a ps.length c), (7, .pointer (some ⟨tb, to + j * 4, none⟩)), (20, .slice a ps.length c), (21, .int .i64 (ps.length : Int)), (22, .int .i64 (i : Int))])
    (fun i w' => i ≤ ps.length ∧ Up w w' ∧ ∀ (j : Nat) x, j < i → ps[j]? = some x → pickErr sub t.type.fields ps j x = 0) (fun i => ps.length - i) 0 sb ⟨Nat.zero_le _, .refl _, fun j x hj => absurd hj (Nat.not_lt_zero _)⟩ ?_
  rintro i w1 ⟨hi, hu, hno⟩ next
  by_cases hlt : i < ps.length
  · have hx : ps[i]? = some ps[i] := List.getElem?_eq_getElem hlt
    obtain ⟨b, o, cs, rfl, hSb, hat2, hiS, _⟩ := hps.at hx
    obtain ⟨kv, rfl, hkv⟩ := pckLay_succ hiS
    obtain ⟨ka, kc, rfl, hkn, hkm, _⟩ := id hkv
    have hat2 : At w b (o + i * 3) _ := hat2
    have bad : ∀ r, pickErr sub t.type.fields ps i ps[i] = r → r ≠ 0 → picksErr sub t.type.fields ps = r := fun r hr h => picksErr_hit hx hno hr h
    have good := goodTo (g := pickErr sub t.type.fields ps) hx hno
    have htk := hps.take (i := i) (by omega)
    have htl : (ps.take i).length = i := by simp; omega
    unfold pickErr at bad good
    generalize ps[i] = p at *
    clear hno
    repeat (first | refine RL.vv ?_ | refine RL.p ?_ | refine RL.nil ?_ | refine Sim.seq ?_ | refine Sim.region ?_ | refine Sim.block ?_ | refine Sim.skip ?_ | refine Sim.inBlock ?_ | refine Sim.exit rfl ?_ | refine Sim.condT rfl ?_ | refine Sim.condF rfl ?_)
    refine RL.alloc trivial rfl fun w2 hu2 hb9 hs2 => ?_
    repeat (first | refine RL.vv ?_ | refine RL.p ?_ | refine RL.nil ?_ | refine Sim.seq ?_ | refine Sim.region ?_ | refine Sim.block ?_ | refine Sim.skip ?_ | refine Sim.inBlock ?_ | refine Sim.exit rfl ?_ | refine Sim.condT rfl ?_ | refine Sim.condF rfl ?_)
    refine RL.store trivial rfl rfl hb9 rfl rfl (by simp [Value.oneCell']) (Nat.le_of_ble_eq_true rfl) rfl fun w3 hc3 hb9 => ?_
    have hu3 : Up w1 w3 := Up.but hu2 hc3 (Nat.le_refl _)
    have hu := hu.trans hu3
    generalize w1.heap.size = b9 at *
    clear hu2 hc3 hs2 hu3 hiS hx
    repeat (first | refine RL.vv ?_ | refine RL.p ?_ | refine RL.nil ?_ | refine Sim.seq ?_ | refine Sim.region ?_ | refine Sim.block ?_ | refine Sim.skip ?_ | refine Sim.inBlock ?_ | refine Sim.exit rfl ?_ | refine Sim.condT rfl ?_ | refine Sim.condF rfl ?_)
    refine Sim.quiet (Up w3) mixed (by kernel_rfl) (Up.drew _) ?_
    repeat (first | refine RQ.vv ?_ | refine RQ.p ?_)
    refine RQ.call trivial rfl (fun wq hq => c_static rfl) (fun wq hq => q_call (RAt_any p.field wq (hfv.up (hu.trans hq))) hq) ?_
    repeat (first | refine RQ.vv ?_ | refine RQ.p ?_)
    refine RQ.nil fun w4 hq => ?_
    have hu := hu.trans hq
    have hb9 := hb9.up hq
    clear hq
    by_cases hF : fieldF t.type.fields p.field < 0
    · have hbad := bad 5 (if_pos hF) (by decide)
      clear bad good next
      repeat (first | refine RL.vv ?_ | refine RL.p ?_ | refine RL.nil ?_ | refine Sim.seq ?_ | refine Sim.region ?_ | refine Sim.block ?_ | refine Sim.skip ?_ | refine Sim.inBlock ?_ | refine Sim.exit rfl ?_ | refine Sim.condT rfl ?_ | refine Sim.condF rfl ?_)
      exact Sim.ret1 Try.func58 rfl rfl ⟨by rw [hbad], hu⟩
    rw [if_neg hF] at bad good
    obtain ⟨f, fld, hfj, hfx, hfl⟩ := fieldF_get hF
    rw [hfj] at bad good ⊢
    rw [Int.toNat_natCast, hfx] at bad good
    simp only at bad good
    obtain ⟨b3, o3, cs3, rfl, _, hat3, rfl, _⟩ := hfv.at hfx
    have hat3 : At w b3 (o3 + f * 3) _ := hat3
    repeat (first | refine RL.vv ?_ | refine RL.p ?_ | refine RL.nil ?_ | refine Sim.seq ?_ | refine Sim.region ?_ | refine Sim.block ?_ | refine Sim.skip ?_ | refine Sim.inBlock ?_ | refine Sim.exit rfl ?_ | refine Sim.condT rfl ?_ | refine Sim.condF rfl ?_)
    refine Sim.loop (σ := Nat) (fun jj => [(0, .slice (some ⟨tb, to, none⟩) l.length lc), (2, .slice (some ⟨b, o, none⟩) ps.length c), (7, .pointer (some ⟨tb, to + j * 4, none⟩)), (20, .slice (some ⟨b, o, none⟩) ps.length c), (21, .int .i64 (ps.length : Int)), (22, .int .i64 (i : Int)),
        (9, .pointer (some ⟨b9, 0, none⟩)), (10, .int .i64 (f : Int)), (39, .slice (some ⟨b, o, none⟩) i c), (40, .int .i64 (i : Int)), (41, .int .i64 (jj : Int))])
      (fun jj w' => jj ≤ i ∧ Up w w' ∧ Box w' b9 93 [.string p.as, .string p.field, .slice ka p.picks.length kc] ∧ ∀ (k : Nat) x, k < jj → (ps.take i)[k]? = some x → decide (calledM x = calledM p) = false) (fun jj => i - jj) 0 sb ⟨Nat.zero_le _, hu, hb9, fun k x hk => absurd hk (Nat.not_lt_zero _)⟩ ?_
    clear hu hb9
    rintro jj w5 ⟨hjj, hu, hb9, hnc2⟩ next2
    by_cases hjl2 : jj < i
    · have hjl3 : jj < (ps.take i).length := by omega
      have hy : (ps.take i)[jj]? = some (ps.take i)[jj] := List.getElem?_eq_getElem hjl3
      obtain ⟨b4, o4, cs4, he4, _, hat4, hiS4, _⟩ := htk.at hy
      obtain ⟨kv4, rfl, hkv4⟩ := pckLay_succ hiS4
      obtain ⟨ka4, kc4, rfl, hkn4, hkm4, _⟩ := id hkv4
      simp only [Option.some.injEq, Addr.mk.injEq] at he4
      obtain ⟨rfl, rfl, _⟩ := he4
      have hat4 : At w b (o + jj * 3) _ := hat4
      generalize (ps.take i)[jj] = q at *
      clear hiS4 hkv4
      repeat (first | refine RL.vv ?_ | refine RL.p ?_ | refine RL.nil ?_ | refine Sim.seq ?_ | refine Sim.region ?_ | refine Sim.block ?_ | refine Sim.skip ?_ | refine Sim.inBlock ?_ | refine Sim.exit rfl ?_ | refine Sim.condT rfl ?_ | refine Sim.condF rfl ?_)
      refine RL.alloc trivial rfl fun w6 hu6 hb12 hs6 => ?_
      refine RL.store trivial rfl rfl hb12 rfl rfl (by simp [Value.oneCell']) (Nat.le_of_ble_eq_true rfl) rfl fun w7 hc7 hb12 => ?_
      have hu7 : Up w5 w7 := Up.but hu6 hc7 (Nat.le_refl _)
      have hu := hu.trans hu7
      have hb9 := hb9.up hu7
      generalize w5.heap.size = b12 at *
      clear hu6 hc7 hs6 hu7
      have ha9 := hb9.at
      have ha12 := hb12.at
      repeat (first | refine RL.vv ?_ | refine RL.p ?_ | refine RL.nil ?_ | refine Sim.seq ?_ | refine Sim.region ?_ | refine Sim.block ?_ | refine Sim.skip ?_ | refine Sim.inBlock ?_ | refine Sim.exit rfl ?_ | refine Sim.condT rfl ?_ | refine Sim.condF rfl ?_)
      refine Sim.quiet (Up w7) mixed (by kernel_rfl) (Up.drew _) ?_
      repeat (first | refine RQ.vv ?_ | refine RQ.p ?_)
      refine RQ.call trivial rfl (fun wq hq => c_static rfl) (fun wq hq => q_call (RCalled_any q _ wq) hq) ?_
      repeat (first | refine RQ.vv ?_ | refine RQ.p ?_)
      refine RQ.call trivial rfl (fun wq hq => c_static rfl) (fun wq hq => q_call (RCalled_any p _ wq) hq) ?_
      by_cases hq4 : calledM q = calledM p
      · have hbad := bad 6 (by rw [if_pos (firstIdx_nonneg_iff.2 (List.any_eq_true.2 ⟨q, List.mem_of_getElem? hy, decide_eq_true hq4⟩))]) (by decide)
        clear bad good next next2
        repeat (first | refine RQ.vv ?_ | refine RQ.p ?_)
        refine RQ.nil fun w8 hq => ?_
        have hu := hu.trans hq
        repeat (first | refine RL.vv ?_ | refine RL.p ?_ | refine RL.nil ?_ | refine Sim.seq ?_ | refine Sim.region ?_ | refine Sim.block ?_ | refine Sim.skip ?_ | refine Sim.inBlock ?_ | refine Sim.exit rfl ?_ | refine Sim.condT rfl ?_ | refine Sim.condF rfl ?_)
        exact Sim.ret1 Try.func58 rfl rfl ⟨by rw [hbad], hu⟩
      · repeat (first | refine RQ.vv ?_ | refine RQ.p ?_)
        refine RQ.nil fun w8 hq => ?_
        have hu := hu.trans hq
        have hb9 := hb9.up hq
        repeat (first | refine RL.vv ?_ | refine RL.p ?_ | refine RL.nil ?_ | refine Sim.seq ?_ | refine Sim.region ?_ | refine Sim.block ?_ | refine Sim.skip ?_ | refine Sim.inBlock ?_ | refine Sim.exit rfl ?_ | refine Sim.condT rfl ?_ | refine Sim.condF rfl ?_)
        refine next2 (jj + 1) _ _ ⟨by omega, hu, hb9, fun k x hk hxk => ?_⟩ (by omega) sb
        by_cases hkj : k = jj
        · subst hkj; rw [hy] at hxk; cases hxk; exact decide_eq_false hq4
        · exact hnc2 k x (by omega) hxk
    · have hmiss : firstIdx (ps.take i) (fun q => decide (calledM q = calledM p)) = -1 := firstIdx_miss fun k x hxk => hnc2 k x (by have := (List.getElem?_eq_some_iff.1 hxk).1; omega) hxk
      rw [hmiss, if_neg (by omega)] at bad good
      clear next2 hnc2
      repeat (first | refine RL.vv ?_ | refine RL.p ?_ | refine RL.nil ?_ | refine Sim.seq ?_ | refine Sim.region ?_ | refine Sim.block ?_ | refine Sim.skip ?_ | refine Sim.inBlock ?_ | refine Sim.exit rfl ?_ | refine Sim.condT rfl ?_ | refine Sim.condF rfl ?_)
      refine RL.alloc trivial rfl fun w6 hu6 hb13 hs6 => ?_
      refine RL.store trivial rfl rfl hb13 rfl rfl (by simp [Value.oneCell']) (Nat.le_of_ble_eq_true rfl) rfl fun w7 hc7 hb13 => ?_
      have hu7 : Up w5 w7 := Up.but hu6 hc7 (Nat.le_refl _)
      have hu := hu.trans hu7
      have hb9 := hb9.up hu7
      generalize w5.heap.size = b13 at *
      clear hu6 hc7 hs6 hu7
      by_cases h1 : fld.kind = 1
      · by_cases h2 : (p.picks.length : Int) = 0
        · have good := good (by rw [if_neg (fun h => h ⟨fun _ => by omega, fun _ => h1⟩), if_pos (by omega)])
          clear bad
          have h3 : ¬ (0 : Int) < p.picks.length := by omega
          repeat (first | refine RL.vv ?_ | refine RL.p ?_ | refine RL.nil ?_ | refine Sim.seq ?_ | refine Sim.region ?_ | refine Sim.block ?_ | refine Sim.skip ?_ | refine Sim.inBlock ?_ | refine Sim.exit rfl ?_ | refine Sim.condT rfl ?_ | refine Sim.condF rfl ?_)
          exact next (i + 1) _ _ ⟨by omega, hu, good⟩ (by omega) sb
        · have hbad := bad 7 (by rw [if_pos (fun h => h2 (by have := h.1 h1; omega))]) (by decide)
          have h3 : (0 : Int) < p.picks.length := by omega
          clear bad good next
          repeat (first | refine RL.vv ?_ | refine RL.p ?_ | refine RL.nil ?_ | refine Sim.seq ?_ | refine Sim.region ?_ | refine Sim.block ?_ | refine Sim.skip ?_ | refine Sim.inBlock ?_ | refine Sim.exit rfl ?_ | refine Sim.condT rfl ?_ | refine Sim.condF rfl ?_)
          exact Sim.ret1 Try.func58 rfl rfl ⟨by rw [hbad], hu⟩
      · by_cases h2 : (p.picks.length : Int) = 0
        · have hbad := bad 7 (by rw [if_pos (fun h => h1 (h.2 (by omega)))]) (by decide)
          clear bad good next
          repeat (first | refine RL.vv ?_ | refine RL.p ?_ | refine RL.nil ?_ | refine Sim.seq ?_ | refine Sim.region ?_ | refine Sim.block ?_ | refine Sim.skip ?_ | refine Sim.inBlock ?_ | refine Sim.exit rfl ?_ | refine Sim.condT rfl ?_ | refine Sim.condF rfl ?_)
          exact Sim.ret1 Try.func58 rfl rfl ⟨by rw [hbad], hu⟩
        · rw [if_neg (fun h => h ⟨fun h => absurd h h1, fun h => absurd h (by omega)⟩), if_neg (by omega)] at bad good
          have h3 : 0 < p.picks.length := by omega
          repeat (first | refine RL.vv ?_ | refine RL.p ?_ | refine RL.nil ?_ | refine Sim.seq ?_ | refine Sim.region ?_ | refine Sim.block ?_ | refine Sim.skip ?_ | refine Sim.inBlock ?_ | refine Sim.exit rfl ?_ | refine Sim.condT rfl ?_ | refine Sim.condF rfl ?_)
          refine RL.call trivial rfl (c_static rfl) (hsub _ fld.type p.picks w7 (hl.up hu) (hkv.up hu) (by omega)) ?_
          rintro _ w8 ⟨rfl, hu8⟩
          refine ⟨_, rfl, ?_⟩
          have hu := hu.trans hu8
          by_cases h0 : sub fld.type p.picks = 0
          · have good := good h0
            repeat (first | refine RL.vv ?_ | refine RL.p ?_ | refine RL.nil ?_ | refine Sim.seq ?_ | refine Sim.region ?_ | refine Sim.block ?_ | refine Sim.skip ?_ | refine Sim.inBlock ?_ | refine Sim.exit rfl ?_ | refine Sim.condT rfl ?_ | refine Sim.condF rfl ?_)
            exact next (i + 1) _ _ ⟨by omega, hu, good⟩ (by omega) sb
          · have hbad := bad _ rfl h0
            repeat (first | refine RL.vv ?_ | refine RL.p ?_ | refine RL.nil ?_ | refine Sim.seq ?_ | refine Sim.region ?_ | refine Sim.block ?_ | refine Sim.skip ?_ | refine Sim.inBlock ?_ | refine Sim.exit rfl ?_ | refine Sim.condT rfl ?_ | refine Sim.condF rfl ?_)
            exact Sim.ret1 Try.func58 rfl rfl ⟨by rw [hbad], hu⟩
  · have hbad := picksErr_none (goodAll hno hlt)
    repeat (first | refine RL.vv ?_ | refine RL.p ?_ | refine RL.nil ?_ | refine Sim.seq ?_ | refine Sim.region ?_ | refine Sim.block ?_ | refine Sim.skip ?_ | refine Sim.inBlock ?_ | refine Sim.exit rfl ?_ | refine Sim.condT rfl ?_ | refine Sim.condF rfl ?_)
    exact Sim.ret1 Try.func58 rfl rfl ⟨by rw [hbad], hu⟩
theorem Goes_any : ∀ (m : Nat) {S S' : Nat → Prop} {lv v : Value} {l : List Prt} {ps : List Pck} (n : Str) (w : World), SliceOf prtLay S' w lv l → SliceOf (pckLay (m + 1)) S w v ps →
    Calls Try.prog 58 #[lv, .string n, v] w fun en w' => en = .returned (.int .i64 (goesM (m + 1) l n ps)) ∧ Up w w'
  | 0, _, _, _, _, _, _, n, w, hl, hps => Goes_step n w hl hps fun _ _ _ _ _ hk hp => absurd hp (pck_zero hk)
  | m + 1, _, _, _, _, _, _, n, w, hl, hps => Goes_step n w hl hps fun _ nm _ w1 hl1 hk _ => Goes_any m nm w1 hl1 hk
end Go.Proofs.Ytgckpmcdlciibaa
