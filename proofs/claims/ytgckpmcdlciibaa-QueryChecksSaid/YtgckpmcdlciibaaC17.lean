/- Contracts of chapter 4: what is wrong with picks of a type (the program's). -/
import Derived.Test.YtgckpmcdlciibaaC16
namespace Go.Proofs.Ytgckpmcdlciibaa
open Go.RowKit
set_option maxHeartbeats 2000000 in
theorem picks_step {m : Nat} {S S' : Nat → Prop} {lv v : Value} {l : List Prt} {ps : List Pck} (n : Str) (w : World) (hl : SliceOf prtLay S' w lv l) (hps : SliceOf (pckLay (m + 1)) S w v ps)
    (hsub : ∀ (kv : Value) (nm : Str) (qs : List Pck) (w1 : World), SliceOf prtLay S' w1 lv l → SliceOf (pckLay m) S w1 kv qs → 0 < qs.length →
      Calls Try.prog 57 #[lv, .string nm, kv] w1 fun en w' => en = .returned (.int .i64 (goesM m l nm qs)) ∧ Up w1 w') :
    Calls Try.prog 57 #[lv, .string n, v] w fun en w' => en = .returned (.int .i64 (goesM (m + 1) l n ps)) ∧ Up w w' := by
  refine calls_of_sim Try.func57 rfl (Nat.le_of_ble_eq_true rfl) ?_
  obtain ⟨a, c, rfl, hnc, hcm, hel⟩ := id hps
  obtain ⟨la, lc, rfl, hlnc, hlcm, _⟩ := id hl
  unfold maxLen at hcm hlcm
  by_cases hk : partF l n < 0
  · rw [goesM_none hk]
    repeat (first | refine RL.vv ?_ | refine RL.p ?_ | refine RL.nil ?_ | refine Sim.seq ?_ | refine Sim.region ?_ | refine Sim.block ?_ | refine Sim.skip ?_ | refine Sim.inBlock ?_ | refine Sim.exit rfl ?_ | refine Sim.condT rfl ?_ | refine Sim.condF rfl ?_)
    refine RL.call trivial rfl (c_static rfl) (PFind_any n w hl) ?_
    rintro _ w1 ⟨rfl, hu⟩
    refine ⟨_, rfl, ?_⟩
    repeat (first | refine RL.vv ?_ | refine RL.p ?_ | refine RL.nil ?_ | refine Sim.seq ?_ | refine Sim.region ?_ | refine Sim.block ?_ | refine Sim.skip ?_ | refine Sim.inBlock ?_ | refine Sim.exit rfl ?_ | refine Sim.condT rfl ?_ | refine Sim.condF rfl ?_)
    exact Sim.ret1 Try.func57 rfl rfl ⟨rfl, hu⟩
  obtain ⟨j, t, hj, htj, hjl⟩ := partF_get hk
  rw [goesM_some hj htj]
  obtain ⟨tb, to, cs, rfl, _, hat, ⟨fv, v2, v3, rfl, hfv, _⟩, _⟩ := hl.at htj
  have hat : At w tb (to + j * 4) _ := hat
  obtain ⟨fa, fc, rfl, hfnc, hfcm, _⟩ := id hfv
  repeat (first | refine RL.vv ?_ | refine RL.p ?_ | refine RL.nil ?_ | refine Sim.seq ?_ | refine Sim.region ?_ | refine Sim.block ?_ | refine Sim.skip ?_ | refine Sim.inBlock ?_ | refine Sim.exit rfl ?_ | refine Sim.condT rfl ?_ | refine Sim.condF rfl ?_)
  refine RL.call trivial rfl (c_static rfl) (c_val (PFind_any n w hl) (by rw [hj])) ?_
  rintro _ w1 ⟨rfl, hu⟩
  refine ⟨_, rfl, ?_⟩
  repeat (first | refine RL.vv ?_ | refine RL.p ?_ | refine RL.nil ?_ | refine Sim.seq ?_ | refine Sim.region ?_ | refine Sim.block ?_ | refine Sim.skip ?_ | refine Sim.inBlock ?_ | refine Sim.exit rfl ?_ | refine Sim.condT rfl ?_ | refine Sim.condF rfl ?_)
  refine RL.val trivial rfl (y_loadA (cs := [.string t.type.name, .slice fa t.type.fields.length fc]) (k := 2) rfl (fun i v hi => by have := (hat.up hu) i v (by match i, hi with | 0, hi => exact hi | 1, hi => exact hi); exact this) rfl) ?_
  refine RL.alloc trivial rfl fun w2 hu2 hb8 hs2 => ?_
  refine RL.store trivial rfl rfl hb8 rfl rfl (by simp [Value.oneCell']) (Nat.le_of_ble_eq_true rfl) rfl fun w3 hc3 hb8 => ?_
  have hu := hu.trans (Up.but hu2 hc3 (Nat.le_refl _))
  generalize w1.heap.size = b8 at *
  clear hu2 hc3 hs2
  generalize hsubE : goesM m l = sub at *
  repeat (first | refine RL.vv ?_ | refine RL.p ?_ | refine RL.nil ?_ | refine Sim.seq ?_ | refine Sim.region ?_ | refine Sim.block ?_ | refine Sim.skip ?_ | refine Sim.inBlock ?_ | refine Sim.exit rfl ?_ | refine Sim.condT rfl ?_ | refine Sim.condF rfl ?_)
  refine Sim.loop (σ := Nat) (fun i => [(0, .slice (some ⟨tb, to, none⟩) l.length lc), (2, .slice a ps.length c), (8, .pointer (some ⟨b8, 0, none⟩)), (23, .slice a ps.length c), (24, .int .i64 (ps.length : Int)), (25, .int .i64 (i : Int))])
    (fun i w' => i ≤ ps.length ∧ Up w w' ∧ Box w' b8 55 [.string t.type.name, .slice fa t.type.fields.length fc] ∧ ∀ (j : Nat) x, j < i → ps[j]? = some x → pickErr sub t.type.fields ps j x = 0) (fun i => ps.length - i) 0 sb ⟨Nat.zero_le _, hu, hb8, fun j x hj => absurd hj (Nat.not_lt_zero _)⟩ ?_
  clear hu hb8
  rintro i w1 ⟨hi, hu, hb8, hno⟩ next
  by_cases hlt : i < ps.length
  · have hx : ps[i]? = some ps[i] := List.getElem?_eq_getElem hlt
    obtain ⟨b, o, cs, rfl, hSb, hat2, hiS, _⟩ := hps.at hx
    obtain ⟨kv, rfl, hkv⟩ := pckLay_succ hiS
    obtain ⟨ka, kc, rfl, hkn, hkm, _⟩ := id hkv
    have hat2 : At w b (o + i * 3) _ := hat2
    have bad : ∀ r, pickErr sub t.type.fields ps i ps[i] = r → r ≠ 0 → picksErr sub t.type.fields ps = r := fun r hr h => picksErr_hit hx hno hr h
    have good := goodTo (g := pickErr sub t.type.fields ps) hx hno
    have htk := hps.take (i := i) (by omega)
    unfold pickErr at bad good
    generalize ps[i] = p at *
    clear hno
    repeat (first | refine RL.vv ?_ | refine RL.p ?_ | refine RL.nil ?_ | refine Sim.seq ?_ | refine Sim.region ?_ | refine Sim.block ?_ | refine Sim.skip ?_ | refine Sim.inBlock ?_ | refine Sim.exit rfl ?_ | refine Sim.condT rfl ?_ | refine Sim.condF rfl ?_)
    refine RL.alloc trivial rfl fun w2 hu2 hb10 hs2 => ?_
    repeat (first | refine RL.vv ?_ | refine RL.p ?_ | refine RL.nil ?_ | refine Sim.seq ?_ | refine Sim.region ?_ | refine Sim.block ?_ | refine Sim.skip ?_ | refine Sim.inBlock ?_ | refine Sim.exit rfl ?_ | refine Sim.condT rfl ?_ | refine Sim.condF rfl ?_)
    refine RL.store trivial rfl rfl hb10 rfl rfl (by simp [Value.oneCell']) (Nat.le_of_ble_eq_true rfl) rfl fun w3 hc3 hb10 => ?_
    have hu3 : Up w1 w3 := Up.but hu2 hc3 (Nat.le_refl _)
    have hu := hu.trans hu3
    have hb8 := hb8.up hu3
    generalize w1.heap.size = b10 at *
    clear hu2 hc3 hs2 hu3 hiS hx
    repeat (first | refine RL.vv ?_ | refine RL.p ?_ | refine RL.nil ?_ | refine Sim.seq ?_ | refine Sim.region ?_ | refine Sim.block ?_ | refine Sim.skip ?_ | refine Sim.inBlock ?_ | refine Sim.exit rfl ?_ | refine Sim.condT rfl ?_ | refine Sim.condF rfl ?_)
    refine RL.call trivial rfl (c_static rfl) (Field_any p.field w3 (hfv.up hu)) ?_
    rintro _ w4 ⟨rfl, hu4⟩
    refine ⟨_, rfl, ?_⟩
    have hu := hu.trans hu4
    have hb8 := hb8.up hu4
    have hb10 := hb10.up hu4
    clear hu4
    by_cases hF : fieldF t.type.fields p.field < 0
    · have hbad := bad 5 (if_pos hF) (by decide)
      clear bad good next
      repeat (first | refine RL.vv ?_ | refine RL.p ?_ | refine RL.nil ?_ | refine Sim.seq ?_ | refine Sim.region ?_ | refine Sim.block ?_ | refine Sim.skip ?_ | refine Sim.inBlock ?_ | refine Sim.exit rfl ?_ | refine Sim.condT rfl ?_ | refine Sim.condF rfl ?_)
      exact Sim.ret1 Try.func57 rfl rfl ⟨by rw [hbad], hu⟩
    rw [if_neg hF] at bad good
    repeat (first | refine RL.vv ?_ | refine RL.p ?_ | refine RL.nil ?_ | refine Sim.seq ?_ | refine Sim.region ?_ | refine Sim.block ?_ | refine Sim.skip ?_ | refine Sim.inBlock ?_ | refine Sim.exit rfl ?_ | refine Sim.condT rfl ?_ | refine Sim.condF rfl ?_)
    refine RL.call trivial rfl (c_closure rfl rfl) (ContainsPick_any p _ b10 w4 (htk.up hu) hb10.at) ?_
    rintro _ w5 ⟨rfl, hu5⟩
    refine ⟨_, rfl, ?_⟩
    have hu := hu.trans hu5
    have hb8 := hb8.up hu5
    have hb10 := hb10.up hu5
    clear hu5
    by_cases hC : 0 ≤ calledAt (ps.take i) (calledM p)
    · have hbad := bad 6 (if_pos hC) (by decide)
      clear bad good next
      rw [decide_eq_true hC]
      repeat (first | refine RL.vv ?_ | refine RL.p ?_ | refine RL.nil ?_ | refine Sim.seq ?_ | refine Sim.region ?_ | refine Sim.block ?_ | refine Sim.skip ?_ | refine Sim.inBlock ?_ | refine Sim.exit rfl ?_ | refine Sim.condT rfl ?_ | refine Sim.condF rfl ?_)
      exact Sim.ret1 Try.func57 rfl rfl ⟨by rw [hbad], hu⟩
    rw [decide_eq_false hC]
    rw [if_neg (show ¬ 0 ≤ firstIdx (ps.take i) (fun q => decide (calledM q = calledM p)) from hC)] at bad good
    obtain ⟨f, fld, hfj, hfx, hfl⟩ := fieldF_get hF
    rw [hfj, Int.toNat_natCast, hfx] at bad good
    simp only at bad good
    obtain ⟨b3, o3, cs3, rfl, _, hat3, rfl, _⟩ := hfv.at hfx
    have hat3 : At w b3 (o3 + f * 3) _ := hat3
    have hF0 : (fieldF t.type.fields p.field) = (f : Int) := hfj
    rw [hfj]
    by_cases h1 : fld.kind = 1
    · by_cases h2 : (p.picks.length : Int) = 0
      · have good := good (by rw [if_neg (fun h => h ⟨fun _ => by omega, fun _ => h1⟩), if_pos (by omega)])
        clear bad
        repeat (first | refine RL.vv ?_ | refine RL.p ?_ | refine RL.nil ?_ | refine Sim.seq ?_ | refine Sim.region ?_ | refine Sim.block ?_ | refine Sim.skip ?_ | refine Sim.inBlock ?_ | refine Sim.exit rfl ?_ | refine Sim.condT rfl ?_ | refine Sim.condF rfl ?_)
        refine Sim.quiet (Up w5) mixed (by kernel_rfl) (Up.drew _) ?_
        repeat (first | refine RQ.vv ?_ | refine RQ.p ?_)
        refine RQ.nil fun w6 hq => ?_
        have hu := hu.trans hq
        have hb8 := hb8.up hq
        have hb10 := hb10.up hq
        repeat (first | refine RL.vv ?_ | refine RL.p ?_ | refine RL.nil ?_ | refine Sim.seq ?_ | refine Sim.region ?_ | refine Sim.block ?_ | refine Sim.skip ?_ | refine Sim.inBlock ?_ | refine Sim.exit rfl ?_ | refine Sim.condT rfl ?_ | refine Sim.condF rfl ?_)
        exact next (i + 1) _ _ ⟨by omega, hu, hb8, good⟩ (by omega) sb
      · have hbad := bad 7 (by rw [if_pos (fun h => h2 (by have := h.1 h1; omega))]) (by decide)
        clear bad good next
        repeat (first | refine RL.vv ?_ | refine RL.p ?_ | refine RL.nil ?_ | refine Sim.seq ?_ | refine Sim.region ?_ | refine Sim.block ?_ | refine Sim.skip ?_ | refine Sim.inBlock ?_ | refine Sim.exit rfl ?_ | refine Sim.condT rfl ?_ | refine Sim.condF rfl ?_)
        refine Sim.quiet (Up w5) mixed (by kernel_rfl) (Up.drew _) ?_
        repeat (first | refine RQ.vv ?_ | refine RQ.p ?_)
        refine RQ.val trivial rfl (fun wq hq => y_neqB rfl rfl) ?_
        repeat (first | refine RQ.vv ?_ | refine RQ.p ?_)
        refine RQ.nil fun w6 hq => ?_
        have hu := hu.trans hq
        repeat (first | refine RL.vv ?_ | refine RL.p ?_ | refine RL.nil ?_ | refine Sim.seq ?_ | refine Sim.region ?_ | refine Sim.block ?_ | refine Sim.skip ?_ | refine Sim.inBlock ?_ | refine Sim.exit rfl ?_ | refine Sim.condT rfl ?_ | refine Sim.condF rfl ?_)
        exact Sim.ret1 Try.func57 rfl rfl ⟨by rw [hbad], hu⟩
    · by_cases h2 : (p.picks.length : Int) = 0
      · have hbad := bad 7 (by rw [if_pos (fun h => h1 (h.2 (by omega)))]) (by decide)
        clear bad good next
        repeat (first | refine RL.vv ?_ | refine RL.p ?_ | refine RL.nil ?_ | refine Sim.seq ?_ | refine Sim.region ?_ | refine Sim.block ?_ | refine Sim.skip ?_ | refine Sim.inBlock ?_ | refine Sim.exit rfl ?_ | refine Sim.condT rfl ?_ | refine Sim.condF rfl ?_)
        refine Sim.quiet (Up w5) mixed (by kernel_rfl) (Up.drew _) ?_
        repeat (first | refine RQ.vv ?_ | refine RQ.p ?_)
        refine RQ.val trivial rfl (fun wq hq => y_neqB rfl rfl) ?_
        repeat (first | refine RQ.vv ?_ | refine RQ.p ?_)
        refine RQ.nil fun w6 hq => ?_
        have hu := hu.trans hq
        repeat (first | refine RL.vv ?_ | refine RL.p ?_ | refine RL.nil ?_ | refine Sim.seq ?_ | refine Sim.region ?_ | refine Sim.block ?_ | refine Sim.skip ?_ | refine Sim.inBlock ?_ | refine Sim.exit rfl ?_ | refine Sim.condT rfl ?_ | refine Sim.condF rfl ?_)
        exact Sim.ret1 Try.func57 rfl rfl ⟨by rw [hbad], hu⟩
      · rw [if_neg (fun h => h ⟨fun h => absurd h h1, fun h => absurd h (by omega)⟩), if_neg (by omega)] at bad good
        have h3 : (0 : Int) < p.picks.length := by omega
        repeat (first | refine RL.vv ?_ | refine RL.p ?_ | refine RL.nil ?_ | refine Sim.seq ?_ | refine Sim.region ?_ | refine Sim.block ?_ | refine Sim.skip ?_ | refine Sim.inBlock ?_ | refine Sim.exit rfl ?_ | refine Sim.condT rfl ?_ | refine Sim.condF rfl ?_)
        refine Sim.quiet (Up w5) mixed (by kernel_rfl) (Up.drew _) ?_
        repeat (first | refine RQ.vv ?_ | refine RQ.p ?_)
        refine RQ.nil fun w6 hq => ?_
        have hu := hu.trans hq
        have hb8 := hb8.up hq
        have hb10 := hb10.up hq
        repeat (first | refine RL.vv ?_ | refine RL.p ?_ | refine RL.nil ?_ | refine Sim.seq ?_ | refine Sim.region ?_ | refine Sim.block ?_ | refine Sim.skip ?_ | refine Sim.inBlock ?_ | refine Sim.exit rfl ?_ | refine Sim.condT rfl ?_ | refine Sim.condF rfl ?_)
        refine Sim.quiet (Up w6) mixed (by kernel_rfl) (Up.drew _) ?_
        repeat (first | refine RQ.vv ?_ | refine RQ.p ?_)
        refine RQ.call trivial rfl (fun wq hq => c_static rfl) (fun wq hq => q_call (hsub _ fld.type p.picks wq (hl.up (hu.trans hq)) (hkv.up (hu.trans hq)) (by omega)) hq) ?_
        repeat (first | refine RQ.vv ?_ | refine RQ.p ?_)
        refine RQ.nil fun w7 hq => ?_
        have hu := hu.trans hq
        have hb8 := hb8.up hq
        by_cases h0 : sub fld.type p.picks = 0
        · have good := good h0
          repeat (first | refine RL.vv ?_ | refine RL.p ?_ | refine RL.nil ?_ | refine Sim.seq ?_ | refine Sim.region ?_ | refine Sim.block ?_ | refine Sim.skip ?_ | refine Sim.inBlock ?_ | refine Sim.exit rfl ?_ | refine Sim.condT rfl ?_ | refine Sim.condF rfl ?_)
          exact next (i + 1) _ _ ⟨by omega, hu, hb8, good⟩ (by omega) sb
        · have hbad := bad _ rfl h0
          repeat (first | refine RL.vv ?_ | refine RL.p ?_ | refine RL.nil ?_ | refine Sim.seq ?_ | refine Sim.region ?_ | refine Sim.block ?_ | refine Sim.skip ?_ | refine Sim.inBlock ?_ | refine Sim.exit rfl ?_ | refine Sim.condT rfl ?_ | refine Sim.condF rfl ?_)
          exact Sim.ret1 Try.func57 rfl rfl ⟨by rw [hbad], hu⟩
  · have hbad := picksErr_none (goodAll hno hlt)
    repeat (first | refine RL.vv ?_ | refine RL.p ?_ | refine RL.nil ?_ | refine Sim.seq ?_ | refine Sim.region ?_ | refine Sim.block ?_ | refine Sim.skip ?_ | refine Sim.inBlock ?_ | refine Sim.exit rfl ?_ | refine Sim.condT rfl ?_ | refine Sim.condF rfl ?_)
    exact Sim.ret1 Try.func57 rfl rfl ⟨by rw [hbad], hu⟩
theorem picks_any : ∀ (m : Nat) {S S' : Nat → Prop} {lv v : Value} {l : List Prt} {ps : List Pck} (n : Str) (w : World), SliceOf prtLay S' w lv l → SliceOf (pckLay (m + 1)) S w v ps →
    Calls Try.prog 57 #[lv, .string n, v] w fun en w' => en = .returned (.int .i64 (goesM (m + 1) l n ps)) ∧ Up w w'
  | 0, _, _, _, _, _, _, n, w, hl, hps => picks_step n w hl hps fun _ _ _ _ _ hk hp => absurd hp (pck_zero hk)
  | m + 1, _, _, _, _, _, _, n, w, hl, hps => picks_step n w hl hps fun _ nm _ w1 hl1 hk _ => picks_any m nm w1 hl1 hk
end Go.Proofs.Ytgckpmcdlciibaa
