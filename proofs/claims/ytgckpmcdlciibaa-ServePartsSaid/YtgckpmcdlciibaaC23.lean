/- Contracts of chapter 5: what is wrong with a request (the reference's). -/
import Derived.Test.YtgckpmcdlciibaaC22
namespace Go.Proofs.Ytgckpmcdlciibaa
open Go.RowKit
theorem strAt_hit {l : List Str} {i j : Nat} {s x : Str} (hj : j < i) (hx : l[j]? = some x) (he : x = s) : 0 ≤ strAt (l.take i) s := by
  refine firstIdx_nonneg_iff.2 (List.any_eq_true.2 ⟨x, List.mem_of_getElem? (i := j) ?_, decide_eq_true he⟩)
  rw [List.getElem?_take, if_pos hj]
  exact hx
theorem strAt_none {l : List Str} {i : Nat} {s : Str} (h : ∀ (j : Nat) x, j < i → l[j]? = some x → ¬ s = x) : ¬ 0 ≤ strAt (l.take i) s := fun hc => by
  obtain ⟨x, hx, he⟩ := List.any_eq_true.1 (firstIdx_nonneg_iff.1 hc)
  obtain ⟨j, hj⟩ := List.getElem?_of_mem hx
  rw [List.getElem?_take] at hj
  split at hj
  · exact h j x ‹_› hj (of_decide_eq_true he).symm
  · cases hj
set_option maxHeartbeats 1000000 in
theorem RWrongRequest_any {S S2 S3 : Nat → Prop} {lv kv fv : Value} {l : List Svc} (q : Rq) (w : World) (hl : SliceOf svcLay S w lv l) (hk : SliceOf strLay S2 w kv q.keys) (hf : SliceOf strLay S3 w fv q.fields) :
    Calls Try.prog 18 #[lv, .agg #[.int .i64 q.service, .string q.type, kv, fv]] w fun en w' => en = .returned (.int .i64 (wrongRq l q)) ∧ Up w w' := by
  refine calls_of_sim Try.func18 rfl (Nat.le_of_ble_eq_true rfl) ?_
  obtain ⟨svc, ty, ks, fs⟩ := q
  simp only at hk hf ⊢
  obtain ⟨la, lc, rfl, hlnc, hlcm, _⟩ := id hl
  obtain ⟨ka, kc, rfl, hknc, hkcm, _⟩ := id hk
  obtain ⟨fa, fc, rfl, hfnc, hfcm, _⟩ := id hf
  unfold maxLen at hlcm hkcm hfcm
  repeat (first | refine RL.vv ?_ | refine RL.p ?_ | refine RL.nil ?_ | refine Sim.seq ?_ | refine Sim.region ?_ | refine Sim.block ?_ | refine Sim.skip ?_ | refine Sim.inBlock ?_ | refine Sim.exit rfl ?_ | refine Sim.condT rfl ?_ | refine Sim.condF rfl ?_)
  refine RL.bx (.refl w) fun b3 w1 _ _ hu _ hb3 => ?_
  by_cases h0 : svc < 0
  · repeat (first | refine RL.vv ?_ | refine RL.p ?_ | refine RL.nil ?_ | refine Sim.seq ?_ | refine Sim.region ?_ | refine Sim.block ?_ | refine Sim.skip ?_ | refine Sim.inBlock ?_ | refine Sim.exit rfl ?_ | refine Sim.condT rfl ?_ | refine Sim.condF rfl ?_)
    exact Sim.ret1 Try.func18 rfl rfl ⟨by unfold wrongRq; rw [if_pos h0], hu⟩
  obtain ⟨n, rfl⟩ := Int.eq_ofNat_of_zero_le (Int.not_lt.1 h0)
  by_cases h1 : (l.length : Int) ≤ n
  · repeat (first | refine RL.vv ?_ | refine RL.p ?_ | refine RL.nil ?_ | refine Sim.seq ?_ | refine Sim.region ?_ | refine Sim.block ?_ | refine Sim.skip ?_ | refine Sim.inBlock ?_ | refine Sim.exit rfl ?_ | refine Sim.condT rfl ?_ | refine Sim.condF rfl ?_)
    refine Sim.ret1 Try.func18 rfl rfl ⟨?_, hu⟩
    unfold wrongRq
    simp only [if_neg h0, Int.toNat_natCast, List.getElem?_eq_none (show l.length ≤ n by omega)]
  have hs : l[n]? = some l[n] := List.getElem?_eq_getElem (by omega)
  obtain ⟨vb, so, cs, rfl, _, hsat, ⟨tv, cv, xv, rfl, htv, _⟩, _⟩ := hl.at hs
  have hsat : At w vb (so + n * 3) _ := hsat
  rw [wrongRq_some (q := ⟨n, ty, ks, fs⟩) (s := l[n]) h0 hs]
  simp only
  generalize l[n] = s at *
  obtain ⟨ta, tc, rfl, htnc, htcm, _⟩ := id htv
  unfold maxLen at htcm
  by_cases h2 : findT s.types ty < 0
  · repeat (first | refine RL.vv ?_ | refine RL.p ?_ | refine RL.nil ?_ | refine Sim.seq ?_ | refine Sim.region ?_ | refine Sim.block ?_ | refine Sim.skip ?_ | refine Sim.inBlock ?_ | refine Sim.exit rfl ?_ | refine Sim.condT rfl ?_ | refine Sim.condF rfl ?_)
    refine Sim.q ?_
    repeat (first | refine RQ.vv ?_ | refine RQ.p ?_)
    refine RQ.cu (fun wq hq => q_same (c_val (RType_any ty wq (htv.up (hu.trans hq))) (by rw [findT_neg (by omega), ptrAt_neg])) hq) ?_
    repeat (first | refine RQ.vv ?_ | refine RQ.p ?_)
    refine RQ.nil fun w2 hq => ?_
    repeat (first | refine RL.vv ?_ | refine RL.p ?_ | refine RL.nil ?_ | refine Sim.seq ?_ | refine Sim.region ?_ | refine Sim.block ?_ | refine Sim.skip ?_ | refine Sim.inBlock ?_ | refine Sim.exit rfl ?_ | refine Sim.condT rfl ?_ | refine Sim.condF rfl ?_)
    exact Sim.ret1 Try.func18 rfl rfl ⟨by rw [if_pos h2], hu.trans hq⟩
  obtain ⟨k, t, hk1, hkt, _, hkl⟩ := findT_get h2
  rw [if_neg h2]
  obtain ⟨tb, to, cs, rfl, _, htat, ⟨flv, rfl, hflv⟩, _⟩ := htv.at hkt
  have htat : At w tb (to + k * 2) _ := htat
  obtain ⟨fla, flc, rfl, hflnc, hflcm, _⟩ := id hflv
  repeat (first | refine RL.vv ?_ | refine RL.p ?_ | refine RL.nil ?_ | refine Sim.seq ?_ | refine Sim.region ?_ | refine Sim.block ?_ | refine Sim.skip ?_ | refine Sim.inBlock ?_ | refine Sim.exit rfl ?_ | refine Sim.condT rfl ?_ | refine Sim.condF rfl ?_)
  refine Sim.q ?_
  repeat (first | refine RQ.vv ?_ | refine RQ.p ?_)
  refine RQ.cu (fun wq hq => q_same (c_val (RType_any ty wq (htv.up (hu.trans hq))) (by rw [hk1, ptrAt_nat])) hq) ?_
  repeat (first | refine RQ.vv ?_ | refine RQ.p ?_)
  refine RQ.nil fun w2 hq => ?_
  have hb3 := hb3.up hq
  have hu := hu.trans hq
  clear hq
  rw [hk1, Int.toNat_natCast, hkt]
  simp only
  repeat (first | refine RL.vv ?_ | refine RL.p ?_ | refine RL.nil ?_ | refine Sim.seq ?_ | refine Sim.region ?_ | refine Sim.block ?_ | refine Sim.skip ?_ | refine Sim.inBlock ?_ | refine Sim.exit rfl ?_ | refine Sim.condT rfl ?_ | refine Sim.condF rfl ?_)
  refine Sim.loop (σ := Nat) (fun i => [(3, .pointer (some ⟨b3, 0, none⟩)), (5, .pointer (some ⟨tb, to + k * 2, none⟩)), (36, .slice fa fs.length fc), (37, .int .i64 (fs.length : Int)), (38, .int .i64 (i : Int))])
    (fun i w' => i ≤ fs.length ∧ Up w w' ∧ Box w' b3 _ _ ∧ ∀ (j : Nat) x, j < i → fs[j]? = some x → rqErr t.fields fs j x = 0) (fun i => fs.length - i) 0 sb ⟨Nat.zero_le _, hu, hb3, fun j x hj => absurd hj (Nat.not_lt_zero _)⟩ ?_
  clear hu hb3
  rintro i w1 ⟨hi, hu, hb3, hno⟩ next
  have ha3 := hb3.at
  by_cases hlt : i < fs.length
  · have hx : fs[i]? = some fs[i] := List.getElem?_eq_getElem hlt
    obtain ⟨b, o, cs, rfl, _, hat, rfl, _⟩ := hf.at hx
    have hat : At w b (o + i * 1) _ := hat
    have bad : ∀ r, rqErr t.fields fs i fs[i] = r → r ≠ 0 → rqTail t.fields fs ks = r := fun r hr h => by
      unfold rqTail
      rw [firstBad_hit hx hno (by rw [hr]; exact h)]
      exact hr
    have good := goodTo (g := rqErr t.fields fs) hx hno
    unfold rqErr at bad good
    generalize fs[i] = f at *
    repeat (first | refine RL.vv ?_ | refine RL.p ?_ | refine RL.nil ?_ | refine Sim.seq ?_ | refine Sim.region ?_ | refine Sim.block ?_ | refine Sim.skip ?_ | refine Sim.inBlock ?_ | refine Sim.exit rfl ?_ | refine Sim.condT rfl ?_ | refine Sim.condF rfl ?_)
    refine RL.cu hu (RHas_any f w1 (hflv.up hu)) fun w2 hu hu2 => ?_
    have hb3 := hb3.up hu2
    have ha3 := hb3.at
    by_cases h3 : fieldF t.fields f < 0
    · have hbad := bad 7 (by rw [if_pos h3]) (by decide)
      rw [decide_eq_false (show ¬ 0 ≤ fieldF t.fields f by omega)]
      repeat (first | refine RL.vv ?_ | refine RL.p ?_ | refine RL.nil ?_ | refine Sim.seq ?_ | refine Sim.region ?_ | refine Sim.block ?_ | refine Sim.skip ?_ | refine Sim.inBlock ?_ | refine Sim.exit rfl ?_ | refine Sim.condT rfl ?_ | refine Sim.condF rfl ?_)
      exact Sim.ret1 Try.func18 rfl rfl ⟨by rw [hbad], hu⟩
    rw [if_neg h3] at bad good
    rw [decide_eq_true (show 0 ≤ fieldF t.fields f by omega)]
    repeat (first | refine RL.vv ?_ | refine RL.p ?_ | refine RL.nil ?_ | refine Sim.seq ?_ | refine Sim.region ?_ | refine Sim.block ?_ | refine Sim.skip ?_ | refine Sim.inBlock ?_ | refine Sim.exit rfl ?_ | refine Sim.condT rfl ?_ | refine Sim.condF rfl ?_)
    refine Sim.loop (σ := Nat) (fun m => [(3, .pointer (some ⟨b3, 0, none⟩)), (5, .pointer (some ⟨tb, to + k * 2, none⟩)), (36, .slice (some ⟨b, o, none⟩) fs.length fc), (37, .int .i64 (fs.length : Int)), (38, .int .i64 (i : Int)), (7, .string f), (53, .slice (some ⟨b, o, none⟩) i fc), (54, .int .i64 (i : Int)), (55, .int .i64 (m : Int))])
      (fun m w' => m ≤ i ∧ Up w w' ∧ Box w' b3 _ _ ∧ ∀ (j : Nat) x, j < m → fs[j]? = some x → ¬ f = x) (fun m => i - m) 0 sb ⟨Nat.zero_le _, hu, hb3, fun j x hj => absurd hj (Nat.not_lt_zero _)⟩ ?_
    clear hu hb3 ha3 hu2
    rintro m w3 ⟨hm, hu, hb3, hno2⟩ next2
    have ha3 := hb3.at
    by_cases hlt2 : m < i
    · have hy : fs[m]? = some fs[m] := List.getElem?_eq_getElem (by omega)
      obtain ⟨b4, o4, cs4, he4, _, hat4, rfl, _⟩ := hf.at hy
      simp only [Option.some.injEq, Addr.mk.injEq] at he4
      obtain ⟨rfl, rfl, _⟩ := he4
      have hat4 : At w b (o + m * 1) _ := hat4
      generalize fs[m] = y at *
      by_cases h5 : f = y
      · have hbad := bad 6 (by rw [if_pos (strAt_hit hlt2 hy h5.symm)]) (by decide)
        repeat (first | refine RL.vv ?_ | refine RL.p ?_ | refine RL.nil ?_ | refine Sim.seq ?_ | refine Sim.region ?_ | refine Sim.block ?_ | refine Sim.skip ?_ | refine Sim.inBlock ?_ | refine Sim.exit rfl ?_ | refine Sim.condT rfl ?_ | refine Sim.condF rfl ?_)
        exact Sim.ret1 Try.func18 rfl rfl ⟨by rw [hbad], hu⟩
      · repeat (first | refine RL.vv ?_ | refine RL.p ?_ | refine RL.nil ?_ | refine Sim.seq ?_ | refine Sim.region ?_ | refine Sim.block ?_ | refine Sim.skip ?_ | refine Sim.inBlock ?_ | refine Sim.exit rfl ?_ | refine Sim.condT rfl ?_ | refine Sim.condF rfl ?_)
        refine next2 (m + 1) _ _ ⟨by omega, hu, hb3, fun j x hj hxj => ?_⟩ (by omega) sb
        by_cases hji : j = m
        · subst hji; rw [hy] at hxj; cases hxj; exact h5
        · exact hno2 j x (by omega) hxj
    · have good := good (by rw [if_neg (strAt_none fun j x hj hxj => hno2 j x (by omega) hxj)])
      clear bad next2
      repeat (first | refine RL.vv ?_ | refine RL.p ?_ | refine RL.nil ?_ | refine Sim.seq ?_ | refine Sim.region ?_ | refine Sim.block ?_ | refine Sim.skip ?_ | refine Sim.inBlock ?_ | refine Sim.exit rfl ?_ | refine Sim.condT rfl ?_ | refine Sim.condF rfl ?_)
      exact next (i + 1) _ _ ⟨by omega, hu, hb3, good⟩ (by omega) sb
  have hall := firstBad_none (goodAll hno hlt)
  repeat (first | refine RL.vv ?_ | refine RL.p ?_ | refine RL.nil ?_ | refine Sim.seq ?_ | refine Sim.region ?_ | refine Sim.block ?_ | refine Sim.skip ?_ | refine Sim.inBlock ?_ | refine Sim.exit rfl ?_ | refine Sim.condT rfl ?_ | refine Sim.condF rfl ?_)
  refine Sim.loop (σ := Nat) (fun i => [(3, .pointer (some ⟨b3, 0, none⟩)), (65, .slice ka ks.length kc), (66, .int .i64 (ks.length : Int)), (67, .int .i64 (i : Int))])
    (fun i w' => i ≤ ks.length ∧ Up w w' ∧ Box w' b3 _ _ ∧ ∀ (j : Nat) x, j < i → ks[j]? = some x → dupErr ks j x = 0) (fun i => ks.length - i) 0 sb ⟨Nat.zero_le _, hu, hb3, fun j x hj => absurd hj (Nat.not_lt_zero _)⟩ ?_
  clear hu hb3 ha3 hno next hlt hi
  rintro i w1 ⟨hi, hu, hb3, hno⟩ next
  have ha3 := hb3.at
  by_cases hlt : i < ks.length
  · have hx : ks[i]? = some ks[i] := List.getElem?_eq_getElem hlt
    obtain ⟨b, o, cs, rfl, _, hat, rfl, _⟩ := hk.at hx
    have hat : At w b (o + i * 1) _ := hat
    generalize hfx : ks[i] = f at *
    repeat (first | refine RL.vv ?_ | refine RL.p ?_ | refine RL.nil ?_ | refine Sim.seq ?_ | refine Sim.region ?_ | refine Sim.block ?_ | refine Sim.skip ?_ | refine Sim.inBlock ?_ | refine Sim.exit rfl ?_ | refine Sim.condT rfl ?_ | refine Sim.condF rfl ?_)
    refine Sim.loop (σ := Nat) (fun m => [(3, .pointer (some ⟨b3, 0, none⟩)), (65, .slice (some ⟨b, o, none⟩) ks.length kc), (66, .int .i64 (ks.length : Int)), (67, .int .i64 (i : Int)), (11, .string f), (75, .slice (some ⟨b, o, none⟩) i kc), (76, .int .i64 (i : Int)), (77, .int .i64 (m : Int))])
      (fun m w' => m ≤ i ∧ Up w w' ∧ Box w' b3 _ _ ∧ ∀ (j : Nat) x, j < m → ks[j]? = some x → ¬ f = x) (fun m => i - m) 0 sb ⟨Nat.zero_le _, hu, hb3, fun j x hj => absurd hj (Nat.not_lt_zero _)⟩ ?_
    clear hu hb3 ha3
    rintro m w3 ⟨hm, hu, hb3, hno2⟩ next2
    have ha3 := hb3.at
    by_cases hlt2 : m < i
    · have hy : ks[m]? = some ks[m] := List.getElem?_eq_getElem (by omega)
      obtain ⟨b4, o4, cs4, he4, _, hat4, rfl, _⟩ := hk.at hy
      simp only [Option.some.injEq, Addr.mk.injEq] at he4
      obtain ⟨rfl, rfl, _⟩ := he4
      have hat4 : At w b (o + m * 1) _ := hat4
      generalize ks[m] = y at *
      by_cases h5 : f = y
      · repeat (first | refine RL.vv ?_ | refine RL.p ?_ | refine RL.nil ?_ | refine Sim.seq ?_ | refine Sim.region ?_ | refine Sim.block ?_ | refine Sim.skip ?_ | refine Sim.inBlock ?_ | refine Sim.exit rfl ?_ | refine Sim.condT rfl ?_ | refine Sim.condF rfl ?_)
        refine Sim.ret1 Try.func18 rfl rfl ⟨?_, hu⟩
        unfold rqTail
        have hd : dupErr ks i f = 6 := by unfold dupErr; rw [if_pos (strAt_hit hlt2 hy h5.symm)]
        rw [hall, firstBad_hit hx hno (by rw [hd]; decide)]
        simp only [hd]
      · repeat (first | refine RL.vv ?_ | refine RL.p ?_ | refine RL.nil ?_ | refine Sim.seq ?_ | refine Sim.region ?_ | refine Sim.block ?_ | refine Sim.skip ?_ | refine Sim.inBlock ?_ | refine Sim.exit rfl ?_ | refine Sim.condT rfl ?_ | refine Sim.condF rfl ?_)
        refine next2 (m + 1) _ _ ⟨by omega, hu, hb3, fun j x hj hxj => ?_⟩ (by omega) sb
        by_cases hji : j = m
        · subst hji; rw [hy] at hxj; cases hxj; exact h5
        · exact hno2 j x (by omega) hxj
    · have good := goodTo (g := dupErr ks) hx hno (by unfold dupErr; rw [if_neg (strAt_none fun j x hj hxj => hno2 j x (by omega) hxj)])
      clear next2
      repeat (first | refine RL.vv ?_ | refine RL.p ?_ | refine RL.nil ?_ | refine Sim.seq ?_ | refine Sim.region ?_ | refine Sim.block ?_ | refine Sim.skip ?_ | refine Sim.inBlock ?_ | refine Sim.exit rfl ?_ | refine Sim.condT rfl ?_ | refine Sim.condF rfl ?_)
      exact next (i + 1) _ _ ⟨by omega, hu, hb3, good⟩ (by omega) sb
  · repeat (first | refine RL.vv ?_ | refine RL.p ?_ | refine RL.nil ?_ | refine Sim.seq ?_ | refine Sim.region ?_ | refine Sim.block ?_ | refine Sim.skip ?_ | refine Sim.inBlock ?_ | refine Sim.exit rfl ?_ | refine Sim.condT rfl ?_ | refine Sim.condF rfl ?_)
    refine Sim.ret1 Try.func18 rfl rfl ⟨?_, hu⟩
    unfold rqTail
    rw [hall, firstBad_none (goodAll hno hlt)]
end Go.Proofs.Ytgckpmcdlciibaa
