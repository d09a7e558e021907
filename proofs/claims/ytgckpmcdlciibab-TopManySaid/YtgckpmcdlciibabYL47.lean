/- The walk of TopMany. -/
import Derived.Test.YtgckpmcdlciibabZ5
import Derived.Test.YtgckpmcdlciibabYL49
import Derived.Test.YtgckpmcdlciibabZB
namespace Go.Proofs.Ytgckpmcdlciibab
open Go.RowKit
theorem text_eq3 (g : Gt) : gText g = g.text := by cases g; rfl
theorem subs_eq3 (g : Gt) : gSubs g = g.subs := by cases g; rfl
theorem gt_at3 {l : List Gt} {i : Nat} (h : i < l.length) : l[i]? = some (gtAt l i) := by
  unfold gtAt
  rw [List.getD, List.getElem?_eq_getElem h]
  rfl
theorem many_ok {n : Nat} (hn : 0 < n) (h20 : n ≤ 20) : manyOk n = true := by
  have h1 := List.all_eq_true.1 many_all (n - 1) (List.mem_range.2 (by omega))
  rwa [Nat.sub_add_cancel hn] at h1
theorem key_ne1 : (List.range 20).all (fun i => decide (keyM (i + 2) ≠ keyM 1)) = true := by kernel_rfl
theorem men_cons (n : Nat) : (List.range (n + 1)).map (manM (n + 1)) = manM (n + 1) 0 :: ((List.range (n + 1)).map (manM (n + 1))).drop 1 := by
  rw [List.range_succ_eq_map]
  rfl
theorem ok_many {n : Nat} (hn : n ≤ 90) : ∀ s ∈ manyM n, okSvc s := fun s hs => by
  simp only [manyM, List.mem_cons, List.not_mem_nil, or_false] at hs
  rcases hs with rfl | rfl
  · exact ok_userS (by simp; omega) fun x hx => by obtain ⟨i, _, rfl⟩ := List.mem_map.1 hx; exact ok_user i
  · refine ok_manS (by simp; omega) fun x hx => ?_
    rcases List.mem_cons.1 hx with rfl | hx
    · have := ok_manK (ks := (List.range n).map (· + 1)) (i := 0) (by simp; omega)
      simpa [List.map_map, Function.comp_def] using this
    · obtain ⟨i, _, rfl⟩ := List.mem_map.1 (List.mem_of_mem_drop hx)
      exact ok_man _ i
theorem users_no (m : Nat) : ∀ x ∈ (List.range m).map userM, x.type ≠ sUnder ∧ ∀ y ∈ x.vals, y.field = sUnder → y.keys ≠ [keyM 1] := fun x hx => by
  obtain ⟨i, _, rfl⟩ := List.mem_map.1 hx
  refine ⟨by show ¬ sUser = sUnder; decide, fun y hy => ?_⟩
  simp only [userM, List.mem_singleton] at hy
  subst hy
  exact fun h => absurd (show sNamE = sUnder from h) (by decide)
theorem men_no {n : Nat} (hn : n ≤ 20) : ∀ x ∈ ((List.range (n + 1)).map (manM (n + 1))).drop 1, x.type ≠ sUnder ∧ ∀ y ∈ x.vals, y.field = sUnder → y.keys ≠ [keyM 1] := fun x hx => by
  rw [List.range_succ_eq_map] at hx
  simp only [List.map_cons, List.drop_succ_cons, List.drop_zero, List.mem_map, List.map_map] at hx
  obtain ⟨i, hi, rfl⟩ := hx
  have hi := List.mem_range.1 hi
  refine ⟨by show ¬ sMan = sUnder; decide, fun y hy _ => ?_⟩
  simp only [manM, Function.comp, List.mem_singleton] at hy
  subst hy
  simp only
  split
  · have := List.all_eq_true.1 key_ne1 i (List.mem_range.2 (by omega))
    simp only [decide_eq_true_eq] at this
    intro h
    simp only [List.cons.injEq, and_true] at h
    exact this h
  · exact fun h => by cases h
set_option maxHeartbeats 4000000 in
theorem TopMany_walk (n0 : Int) (w : World) :
    Calls Try.prog 7 #[.int .i64 n0] w fun en w' => en = .returned (.bool true) ∧ Up w w' := by
  refine calls_of_sim Try.func7 rfl (Nat.le_of_ble_eq_true rfl) ?_
  repeat (first | refine RL.vv ?_ | refine RL.p ?_ | refine RL.nil ?_ | refine Sim.seq ?_ | refine Sim.region ?_ | refine Sim.block ?_ | refine Sim.skip ?_ | refine Sim.inBlock ?_ | refine Sim.exit rfl ?_ | refine Sim.condT rfl ?_ | refine Sim.condF rfl ?_)
  refine RL.cu (.refl w) (aliveT_any w) fun w1 hu1 _ => ?_
  by_cases c1 : n0 < 1
  · repeat (first | refine RL.vv ?_ | refine RL.p ?_ | refine RL.nil ?_ | refine Sim.seq ?_ | refine Sim.region ?_ | refine Sim.block ?_ | refine Sim.skip ?_ | refine Sim.inBlock ?_ | refine Sim.exit rfl ?_ | refine Sim.condT rfl ?_ | refine Sim.condF rfl ?_)
    exact Sim.ret1 Try.func7 rfl rfl ⟨rfl, hu1⟩
  by_cases c2 : (20 : Int) < n0
  · repeat (first | refine RL.vv ?_ | refine RL.p ?_ | refine RL.nil ?_ | refine Sim.seq ?_ | refine Sim.region ?_ | refine Sim.block ?_ | refine Sim.skip ?_ | refine Sim.inBlock ?_ | refine Sim.exit rfl ?_ | refine Sim.condT rfl ?_ | refine Sim.condF rfl ?_)
    exact Sim.ret1 Try.func7 rfl rfl ⟨rfl, hu1⟩
  obtain ⟨n, rfl⟩ := Int.eq_ofNat_of_zero_le (show 0 ≤ n0 by omega)
  have hn1 : 0 < n := by omega
  have hn20 : n ≤ 20 := by omega
  repeat (first | refine RL.vv ?_ | refine RL.p ?_ | refine RL.nil ?_ | refine Sim.seq ?_ | refine Sim.region ?_ | refine Sim.block ?_ | refine Sim.skip ?_ | refine Sim.inBlock ?_ | refine Sim.exit rfl ?_ | refine Sim.condT rfl ?_ | refine Sim.condF rfl ?_)
  refine RL.cx (peopleB_any (n + 1) (by omega) w1) ?_
  rintro _ w2 ⟨bl, x1, x2, x3, x4, x5, rfl, h12, hp⟩
  refine ⟨_, rfl, ?_⟩
  have hu2 := hu1.trans h12
  repeat (first | refine RL.vv ?_ | refine RL.p ?_ | refine RL.nil ?_ | refine Sim.seq ?_ | refine Sim.region ?_ | refine Sim.block ?_ | refine Sim.skip ?_ | refine Sim.inBlock ?_ | refine Sim.exit rfl ?_ | refine Sim.condT rfl ?_ | refine Sim.condF rfl ?_)
  refine Sim.loop (σ := Nat × Value) (fun st => [(0, .int .i64 (n : Int)), (3, .slice (some ⟨bl, 0, none⟩) 2 2), (22, .int .i64 (n : Int)), (23, .int .i64 (st.1 : Int)), (4, st.2)])
    (fun st w' => st.1 ≤ n ∧ Up w2 w' ∧ Own strLay 9 w2.heap.size Nn w' st.2 ((List.range st.1).map fun i => keyM (i + 1))) (fun st => n - st.1) (0, .slice none 0 0) sb ⟨Nat.zero_le _, .refl _, Own.nil _ _ _ _ _⟩ ?_
  rintro ⟨i, v⟩ w3 ⟨hi, h23, ho⟩ next
  simp only at hi ho next ⊢
  by_cases hlt : (i : Int) < (n : Int)
  · repeat (first | refine RL.vv ?_ | refine RL.p ?_ | refine RL.nil ?_ | refine Sim.seq ?_ | refine Sim.region ?_ | refine Sim.block ?_ | refine Sim.skip ?_ | refine Sim.inBlock ?_ | refine Sim.exit rfl ?_ | refine Sim.condT rfl ?_ | refine Sim.condF rfl ?_)
    refine RL.cu h23 (key_any (i + 1) (by omega) w3) fun w4 h24 h34 => ?_
    have ho4 := ho.up h34
    refine RL.bu (el := 9) [.string (keyM (i + 1))] h24 fun b30 w5 he30 hle30 h25 h45 hb30 => ?_
    refine RL.app (L := strLay) (el := 9) (S := fun _ => True) (B := w2.heap.size) (ys := [keyM (i + 1)]) h25 ((ho4.up h45).no (S' := fun _ => True)) (SliceOf.one hb30 ⟨trivial, ho4.ne (Nat.le_of_eq he30.symm)⟩ rfl) (by simp only [List.length_map, List.length_range, List.length_cons, List.length_nil]; omega) (Nat.le_refl _) h25.size fun v' w6 h26 ho2 hg hv => ?_
    repeat (first | refine RL.vv ?_ | refine RL.p ?_ | refine RL.nil ?_ | refine Sim.seq ?_ | refine Sim.region ?_ | refine Sim.block ?_ | refine Sim.skip ?_ | refine Sim.inBlock ?_ | refine Sim.exit rfl ?_ | refine Sim.condT rfl ?_ | refine Sim.condF rfl ?_)
    exact next (i + 1, v') _ _ ⟨by simp only; omega, h26, by simp only; rw [List.range_succ, List.map_append]; exact ho2.no (S' := Nn)⟩ (by simp only; omega) sb
  obtain rfl : i = n := by omega
  clear next
  have hall := ho.sl (S' := fun b => w2.heap.size ≤ b) (fun _ h _ _ => h.elim) fun g hg => (ho.lt g hg).1
  obtain ⟨aa, ac, rfl, _⟩ := id hall
  have hx2 := hp.x2
  obtain ⟨ta, tc, rfl, htn, htm, _⟩ := id hx2
  unfold maxLen at htm
  have hx0 : ((List.range (i + 1)).map (manM (i + 1)))[0]? = some (manM (i + 1) 0) := by rw [men_cons]; rfl
  obtain ⟨tb, to, cs, rfl, _, htat, ⟨vb, vo, vc, rfl, hvb, ⟨vt, vcur, hvr⟩, hvs⟩, htl⟩ := hx2.at hx0
  have hm0 : (manM (i + 1) 0).vals = [⟨sUnder, sNil, [keyM 1]⟩] := by unfold manM; rw [if_pos (by omega)]
  rw [hm0] at hvs
  have hvcm : 1 ≤ vc ∧ vc ≤ maxLen := by
    obtain ⟨_, _, e, h1, h2, _⟩ := hvs
    simp only [Value.slice.injEq] at e
    obtain ⟨_, _, rfl⟩ := e
    exact ⟨h1, h2⟩
  obtain ⟨vb', vo', cs, e, _, hvat, ⟨kv, rfl, hkv⟩, _⟩ := hvs.at (i := 0) (x := ⟨sUnder, sNil, [keyM 1]⟩) rfl
  simp only [Option.some.injEq, Addr.mk.injEq, and_true] at e
  obtain ⟨rfl, rfl⟩ := e
  have htat : At w2 tb to [.string sMan, .string (keyM 0), .slice (some ⟨vb, vo, none⟩) 1 vc] := htat
  have hvat : At w2 vb vo [.string sUnder, .string sNil, kv] := hvat
  have hblat := hp.box.at.up h23
  have hblat2 : At w3 bl (0 + 1 * 3) [x3, x4, .slice (some ⟨tb, to, none⟩) ((List.range (i + 1)).map (manM (i + 1))).length tc] := fun j v hj => by
    have := hblat (j + 3) v (by simpa using hj)
    rwa [show 0 + (j + 3) = 0 + 1 * 3 + j by omega] at this
  have htat3 := htat.up h23
  have hvr3 := hvr.up h23
  have hu3 := hu2.trans h23
  have hvlen : vo + 2 < vcur.length := by
    have h1 := hvat 2 _ rfl
    rw [cell_of_row _ _ _ vcur.toArray vt (0, 0) hvr] at h1
    simpa using (Array.getElem?_eq_some_iff.1 h1).1
  have hw1 := hu1.size
  have hvbw : w.heap.size ≤ vb := by have := hvb.1; omega
  repeat (first | refine RL.vv ?_ | refine RL.p ?_ | refine RL.nil ?_ | refine Sim.seq ?_ | refine Sim.region ?_ | refine Sim.block ?_ | refine Sim.skip ?_ | refine Sim.inBlock ?_ | refine Sim.exit rfl ?_ | refine Sim.condT rfl ?_ | refine Sim.condF rfl ?_)
  refine RL.vv ?_ (hy := y_indexAddr (i := 1) (k := 3) rfl rfl (by decide))
  refine RL.vv ?_
  refine RL.vv ?_ (hy := y_loadF rfl hblat2 rfl)
  refine RL.vv ?_ (hy := y_indexAddr (i := 0) (k := 3) rfl rfl htl)
  refine RL.vv ?_
  refine RL.vv ?_ (hy := y_loadF rfl htat3 rfl)
  refine RL.vv ?_
  refine RL.vv ?_ (hy := y_indexAddr (i := 0) (k := 3) rfl rfl (by decide))
  refine RL.vv ?_
  refine RL.st hu3 hvr3 hvbw (hfit := hvlen) fun w4 hu4 hbt hb4 => ?_
  have hsto : Sto1 vb vo kv (.slice aa ((List.range i).map fun i => keyM (i + 1)).length ac) w3 w4 := sto1_of hbt hvr3 hb4 (hvat.up h23) (by obtain ⟨a, c, e, _⟩ := id hkv; exact ⟨a, _, c, e⟩)
  have hkv3 := hkv.up h23
  have hbne : bl ≠ vb := fun e => hvb.2 e.symm
  have hbl4 := (hp.box.up h23).but hbt hbne
  have hlow : ∀ b, w2.heap.size ≤ b → b ≠ vb := fun b hb e => by have := hvr.lt; omega
  have ht1 := (hsto.typ (hp.t1.up h23) (fun t ht => by simp only [typA, List.mem_singleton] at ht; subst ht; show ¬ sUser = sNil; decide)).mono (S' := fun _ => True) fun _ _ => trivial
  have ht2 := (hsto.typ (hp.t2.up h23) (fun t ht => by simp only [typB, List.mem_singleton] at ht; subst ht; show ¬ sMan = sNil; decide)).mono (S' := fun _ => True) fun _ _ => trivial
  have hc2 := (hsto.chg (hp.c2.up h23)).mono (S' := fun _ => True) fun _ _ => trivial
  have hx1 := (hsto.thg hkv3 (hp.x1.bx.up h23) (users_no (i + 1))).mono (S' := fun _ => True) fun _ _ => trivial
  have hall3 := (hsto.str hall).mono (S' := fun _ => True) fun _ _ => trivial
  have hxm := (hx2.bx.up h23).mono (S' := fun _ => True) fun _ _ => trivial
  have hxm : SliceOf thgLay (fun _ => True) w3 (.slice (some ⟨tb, to, none⟩) ((List.range (i + 1)).map (manM (i + 1))).length tc) (manM (i + 1) 0 :: ((List.range (i + 1)).map (manM (i + 1))).drop 1) := by rw [← men_cons]; exact hxm
  have hx2' := hsto.first hkv3 hall3 hxm (htat.up h23) trivial hvcm.1 hvcm.2 (show ¬ sMan = sUnder by decide) (men_no hn20)
  have hl : SliceOf svcLay (fun _ => True) w4 (.slice (some ⟨bl, 0, none⟩) 2 2) (manyM i) := SliceOf.lit2 [x1, .slice none 0 0, x2] [x3, x4, _] _ _ hbl4.at trivial ⟨_, _, _, rfl, ht1, SliceOf.nil _ _ _, hx1⟩ ⟨_, _, _, rfl, ht2, hc2, hx2'⟩
  clear ht1 ht2 hc2 hx1 hall3 hxm hx2' hsto hbl4 hb4 hbt hkv3 hkv hvat htat htat3 hblat hblat2 hvs hvr hvr3 hx2 hp ho hall
  repeat (first | refine RL.vv ?_ | refine RL.p ?_ | refine RL.nil ?_ | refine Sim.seq ?_ | refine Sim.region ?_ | refine Sim.block ?_ | refine Sim.skip ?_ | refine Sim.inBlock ?_ | refine Sim.exit rfl ?_ | refine Sim.condT rfl ?_ | refine Sim.condF rfl ?_)
  refine RL.cu hu4 (key_any 0 (by decide) w4) fun w5 hu5 h45 => ?_
  refine RL.vv ?_ (hy := y_cat rfl rfl (by show 5 + 3 ≤ _; decide))
  refine RL.vv ?_ (hy := y_cat rfl rfl (by show 8 + 14 ≤ _; decide))
  refine RL.cx (run_top (l := manyM i) (tPre ++ keyM 0 ++ tMany) w5 (hl.up h45) (ok_many (by omega))) ?_
  rintro _ w6 ⟨gv, rv, rfl, h56, hs, hr⟩
  refine ⟨_, rfl, ?_⟩
  have hu6 := hu5.trans h56
  have e1 : topM (manyM i) (tPre ++ keyM 0 ++ tMany) = runM 9 (manyM i) manyA := by
    unfold topM
    rw [parse_many, if_pos rfl]
  have hh := many_ok hn1 hn20
  rw [e1] at hs hr ⊢
  unfold manyOk at hh
  generalize runM 9 (manyM i) manyA = R at *
  simp only [Bool.and_eq_true, decide_eq_true_eq, beq_iff_eq, subs_eq3, text_eq3] at hh
  obtain ⟨⟨⟨⟨h0, hq4⟩, hg1⟩, hsn⟩, heach⟩ := hh
  have h0' : ¬ ¬ R.2.2 = 0 := fun h => h h0
  obtain ⟨ra, rc, rfl, hrc, hrm, _⟩ := id hr
  unfold maxLen at hrm
  obtain ⟨ga, gc, rfl, _⟩ := id hs
  obtain ⟨gb, go, cs, rfl, _, hgat, hgi, _⟩ := hs.at (gt_at3 (l := R.1) (i := 0) (by omega))
  obtain ⟨v1, v2, rfl, _, hv2⟩ := gt_succ.1 hgi
  obtain ⟨sa, sc, rfl, hsnc, hscm, _⟩ := id hv2
  unfold maxLen at hscm
  have hgat : At w6 gb (go + 0 * 6) _ := hgat
  have k1 : ¬ ¬ (R.1.length : Int) = 1 := by omega
  have k2 : ¬ ¬ ((gtAt R.1 0).subs.length : Int) = (i : Int) := by omega
  have k3 : ¬ ¬ (R.2.1.length : Int) = 4 := by omega
  have k4 : 0 < R.1.length := by omega
  clear hl h45 hr e1 hs hgi
  repeat (first | refine RL.vv ?_ | refine RL.p ?_ | refine RL.nil ?_ | refine Sim.seq ?_ | refine Sim.region ?_ | refine Sim.block ?_ | refine Sim.skip ?_ | refine Sim.inBlock ?_ | refine Sim.exit rfl ?_ | refine Sim.condT rfl ?_ | refine Sim.condF rfl ?_)
  refine Sim.loop (σ := Nat) (fun k => [(76, .slice sa (gtAt R.1 0).subs.length sc), (77, .int .i64 ((gtAt R.1 0).subs.length : Int)), (78, .int .i64 (k : Int))])
    (fun k w' => k ≤ (gtAt R.1 0).subs.length ∧ Up w6 w') (fun k => (gtAt R.1 0).subs.length - k) 0 sb ⟨Nat.zero_le _, .refl _⟩ ?_
  rintro k w7 ⟨hk, h67⟩ next
  have hu := hu6.trans h67
  by_cases hklt : k < (gtAt R.1 0).subs.length
  · have hxk := List.getElem?_eq_getElem hklt
    obtain ⟨sb4, so4, cs, rfl, _, hsat, ⟨u, rfl, hu4'⟩, _⟩ := (hv2.up h67).at hxk
    have hsat : At w7 sb4 (so4 + k * 1) _ := hsat
    have hek := List.all_eq_true.1 heach k (List.mem_range.2 (by omega))
    have hgd : (gtAt R.1 0).subs.getD k [] = (gtAt R.1 0).subs[k] := by rw [List.getD, hxk]; rfl
    rw [hgd] at hek
    simp only [Bool.and_eq_true, beq_iff_eq, decide_eq_true_eq, text_eq3] at hek
    generalize (gtAt R.1 0).subs[k] = sk at *
    obtain ⟨hl1, htx⟩ := hek
    obtain ⟨ua, uc, rfl, _⟩ := id hu4'
    obtain ⟨hb4, ho4, cs, rfl, _, hhat, hhi, _⟩ := hu4'.at (gt_at3 (l := sk) (i := 0) (by omega))
    obtain ⟨q1, q2, rfl, _, _⟩ := gt_succ.1 hhi
    have hhat : At w7 hb4 (ho4 + 0 * 6) _ := hhat
    rw [htx] at hhat
    have t0 : nkeyM (k + 1) = (⟨#[78]⟩ : Str) ++ keyM (k + 1) := rfl
    have t1 : ¬ ¬ (sk.length : Int) = 1 := by omega
    have t2 : 0 < sk.length := by omega
    repeat (first | refine RL.vv ?_ | refine RL.p ?_ | refine RL.nil ?_ | refine Sim.seq ?_ | refine Sim.region ?_ | refine Sim.block ?_ | refine Sim.skip ?_ | refine Sim.inBlock ?_ | refine Sim.exit rfl ?_ | refine Sim.condT rfl ?_ | refine Sim.condF rfl ?_)
    refine Sim.q ?_
    repeat (first | refine RQ.vv ?_ | refine RQ.p ?_)
    refine RQ.cu (fun wq hq => (key_any (k + 1) (by omega) wq).mono fun _ _ ⟨h1, h2⟩ => ⟨h1, hq.trans h2⟩) ?_
    refine RQ.vv ?_ (hy := fun wq hq => y_cat rfl rfl (by show 1 + 3 ≤ _; decide))
    repeat (first | refine RQ.vv ?_ | refine RQ.p ?_)
    refine RQ.nil fun w8 hq => ?_
    repeat (first | refine RL.vv ?_ | refine RL.p ?_ | refine RL.nil ?_ | refine Sim.seq ?_ | refine Sim.region ?_ | refine Sim.block ?_ | refine Sim.skip ?_ | refine Sim.inBlock ?_ | refine Sim.exit rfl ?_ | refine Sim.condT rfl ?_ | refine Sim.condF rfl ?_)
    exact next (k + 1) _ _ ⟨by omega, h67.trans hq⟩ (by omega) sb
  repeat (first | refine RL.vv ?_ | refine RL.p ?_ | refine RL.nil ?_ | refine Sim.seq ?_ | refine Sim.region ?_ | refine Sim.block ?_ | refine Sim.skip ?_ | refine Sim.inBlock ?_ | refine Sim.exit rfl ?_ | refine Sim.condT rfl ?_ | refine Sim.condF rfl ?_)
  exact Sim.ret1 Try.func7 rfl rfl ⟨rfl, hu⟩
end Go.Proofs.Ytgckpmcdlciibab
