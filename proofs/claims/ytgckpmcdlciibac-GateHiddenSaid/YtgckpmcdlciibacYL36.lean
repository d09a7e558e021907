/- The walk of GateHidden. -/
import Derived.Test.YtgckpmcdlciibacYL32
import Derived.Test.YtgckpmcdlciibacZI
namespace Go.Proofs.Ytgckpmcdlciibac
open Go.RowKit
set_option maxHeartbeats 4000000 in
theorem GateHidden_walk {m : Nat} {S S3 : Nat → Prop} {lv kv : Value} {l : List Svc} (q : Ak) (w : World) (hl : SliceOf svcLay S w lv l) (hok : ∀ s ∈ l, okSvc s) (hps : SliceOf (pckLay (m + 1)) S3 w kv q.picks) :
    Calls Try.prog 7 #[lv, .agg #[.string q.type, .string q.key, kv]] w fun en w' => en = .returned (.bool true) ∧ Up w w' := by
  refine calls_of_sim Try.func7 rfl (Nat.le_of_ble_eq_true rfl) ?_
  obtain ⟨la, lc, rfl, _⟩ := id hl
  obtain ⟨ka, kc, rfl, _⟩ := id hps
  repeat (first | refine RL.vv ?_ | refine RL.p ?_ | refine RL.nil ?_ | refine Sim.seq ?_ | refine Sim.region ?_ | refine Sim.block ?_ | refine Sim.skip ?_ | refine Sim.inBlock ?_ | refine Sim.exit rfl ?_ | refine Sim.condT rfl ?_ | refine Sim.condF rfl ?_)
  refine RL.bx (.refl w) fun b3 w1 he3 hle3 hu1 _ hb3 => ?_
  have hb3 : Box w1 b3 _ [.string q.type, .string q.key, .slice ka q.picks.length kc] := hb3
  repeat (first | refine RL.vv ?_ | refine RL.p ?_ | refine RL.nil ?_ | refine Sim.seq ?_ | refine Sim.region ?_ | refine Sim.block ?_ | refine Sim.skip ?_ | refine Sim.inBlock ?_ | refine Sim.exit rfl ?_ | refine Sim.condT rfl ?_ | refine Sim.condF rfl ?_)
  refine RL.cu hu1 (alive7_any w1) fun w2 hu h12 => ?_
  have ha3 := (hb3.up h12).at
  clear hb3 h12 hu1
  repeat (first | refine RL.vv ?_ | refine RL.p ?_ | refine RL.nil ?_ | refine Sim.seq ?_ | refine Sim.region ?_ | refine Sim.block ?_ | refine Sim.skip ?_ | refine Sim.inBlock ?_ | refine Sim.exit rfl ?_ | refine Sim.condT rfl ?_ | refine Sim.condF rfl ?_)
  refine RL.cx (Run_any q w2 (hl.up hu) hok (hps.up hu)) ?_
  rintro _ w3 ⟨v, rv, rfl, h23, hs, hr⟩
  refine ⟨_, rfl, ?_⟩
  have hu3 := hu.trans h23
  obtain ⟨va, vc, rfl, _⟩ := id hs
  obtain ⟨ra, rc, rfl, hrnc, hrcm, _⟩ := id hr
  unfold maxLen at hrcm
  have hfrom := run_from (m := m + 1) (l := l) (a := q)
  generalize runM (m + 1) l q = R at *
  clear hs ha3
  by_cases h0 : R.2.2 = 0
  rotate_left
  · repeat (first | refine RL.vv ?_ | refine RL.p ?_ | refine RL.nil ?_ | refine Sim.seq ?_ | refine Sim.region ?_ | refine Sim.block ?_ | refine Sim.skip ?_ | refine Sim.inBlock ?_ | refine Sim.exit rfl ?_ | refine Sim.condT rfl ?_ | refine Sim.condF rfl ?_)
    exact Sim.ret1 Try.func7 rfl rfl ⟨rfl, hu3⟩
  obtain ⟨hall, hfrom⟩ := hfrom h0
  have hl3 := hl.up hu3
  repeat (first | refine RL.vv ?_ | refine RL.p ?_ | refine RL.nil ?_ | refine Sim.seq ?_ | refine Sim.region ?_ | refine Sim.block ?_ | refine Sim.skip ?_ | refine Sim.inBlock ?_ | refine Sim.exit rfl ?_ | refine Sim.condT rfl ?_ | refine Sim.condF rfl ?_)
  refine Sim.loop (σ := Nat) (fun i => [(0, .slice la l.length lc), (30, .slice ra R.2.1.length rc), (31, .int .i64 (R.2.1.length : Int)), (32, .int .i64 (i : Int))]) (fun i w' => i ≤ R.2.1.length ∧ Up w3 w') (fun i => R.2.1.length - i) 0 sb ⟨Nat.zero_le _, .refl _⟩ ?_
  rintro i w4 ⟨hi, h34⟩ next
  by_cases hlt : i < R.2.1.length
  rotate_left
  · repeat (first | refine RL.vv ?_ | refine RL.p ?_ | refine RL.nil ?_ | refine Sim.seq ?_ | refine Sim.region ?_ | refine Sim.block ?_ | refine Sim.skip ?_ | refine Sim.inBlock ?_ | refine Sim.exit rfl ?_ | refine Sim.condT rfl ?_ | refine Sim.condF rfl ?_)
    exact Sim.ret1 Try.func7 rfl rfl ⟨rfl, hu3.trans h34⟩
  have hx : R.2.1[i]? = some R.2.1[i] := List.getElem?_eq_getElem hlt
  obtain ⟨rb, ro, cs, rfl, _, hrat, ⟨v1, v2, rfl, hv1, hv2⟩, _⟩ := (hr.up h34).at hx
  have hrat : At w4 rb (ro + i * 4) _ := hrat
  have hfr := hfrom R.2.1[i] (List.getElem_mem hlt)
  generalize R.2.1[i] = r at *
  obtain ⟨si, s, sn, t, hsi, hls, hrs, hsn, hown, _, _, _, hff⟩ := request_of hall hfr
  obtain ⟨svb, so, cs, rfl, _, hsat, ⟨t1, t2, t3, rfl, ht1, ht2, _⟩, hsil⟩ := hl3.at hls
  have hsat : At w3 svb (so + si * 3) _ := hsat
  obtain ⟨a1, c1, rfl, _⟩ := id hv1
  obtain ⟨a2, c2, rfl, hn2, hm2, _⟩ := id hv2
  obtain ⟨a3, c3, rfl, _⟩ := id ht1
  obtain ⟨a4, c4, rfl, _⟩ := id ht2
  unfold maxLen at hm2
  repeat (first | refine RL.vv ?_ | refine RL.p ?_ | refine RL.nil ?_ | refine Sim.seq ?_ | refine Sim.region ?_ | refine Sim.block ?_ | refine Sim.skip ?_ | refine Sim.inBlock ?_ | refine Sim.exit rfl ?_ | refine Sim.condT rfl ?_ | refine Sim.condF rfl ?_)
  refine RL.al h34 fun b9 w5 he9 hle9 h35 h45 hb9 => ?_
  repeat (first | refine RL.vv ?_ | refine RL.p ?_ | refine RL.nil ?_ | refine Sim.seq ?_ | refine Sim.region ?_ | refine Sim.block ?_ | refine Sim.skip ?_ | refine Sim.inBlock ?_ | refine Sim.exit rfl ?_ | refine Sim.condT rfl ?_ | refine Sim.condF rfl ?_)
  refine RL.st h35 hb9 hle9 fun w6 h36 hbt hb9 => ?_
  have hb9 : Box w6 b9 _ [.int .i64 r.service, .string r.type, .slice a1 r.keys.length c1, .slice a2 r.fields.length c2] := hb9
  rw [hsi] at hb9
  have ha9 := hb9.at
  have h46 : Up w4 w6 := Up.but h45 hbt (Nat.le_of_eq he9.symm)
  have hv2 := hv2.up h46
  have hsat := hsat.up h36
  clear hrat hbt h35 h45
  repeat (first | refine RL.vv ?_ | refine RL.p ?_ | refine RL.nil ?_ | refine Sim.seq ?_ | refine Sim.region ?_ | refine Sim.block ?_ | refine Sim.skip ?_ | refine Sim.inBlock ?_ | refine Sim.exit rfl ?_ | refine Sim.condT rfl ?_ | refine Sim.condF rfl ?_)
  refine Sim.cutX (σ := Option Addr × Nat × Nat) (fun st => [(0, .slice (some ⟨svb, so, none⟩) l.length lc), (30, .slice (some ⟨rb, ro, none⟩) R.2.1.length rc), (31, .int .i64 (R.2.1.length : Int)), (32, .int .i64 (i : Int)), (9, .pointer (some ⟨b9, 0, none⟩)), (10, .slice st.1 (seeM s.types s.changes).1.length st.2.1), (11, .pointer (some ⟨st.2.2, 0, none⟩))])
    (fun st w' => Up w6 w' ∧ Box w' st.2.2 35 [.int .i64 (seeM s.types s.changes).2.err, .int .i64 (seeM s.types s.changes).2.at_] ∧ SliceOf snLay (fun _ => True) w' (.slice st.1 (seeM s.types s.changes).1.length st.2.1) (seeM s.types s.changes).1) (fun k' next3 => ?_) ?_
  · have h0 := Up.drew w6
    refine Sim.ord (Up w6) ?_
    refine RO.tk 0 ?_
    refine RO.tk 1 ?_
    refine RO.tk 2 ?_ (hy := fun wq hq => y_loadF rfl (ha9.up hq) rfl)
    refine RO.tk 3 ?_ (hy := fun wq hq => y_indexAddr (i := si) (k := 3) rfl rfl hsil)
    refine RO.tk 4 ?_
    refine RO.tk 5 ?_ (hy := fun wq hq => y_loadF rfl (hsat.up hq) rfl)
    refine RO.tk 6 ?_
    refine RO.tk 7 ?_
    refine RO.tk 8 ?_ (hy := fun wq hq => y_loadF rfl (ha9.up hq) rfl)
    refine RO.tk 9 ?_ (hy := fun wq hq => y_indexAddr (i := si) (k := 3) rfl rfl hsil)
    refine RO.tk 10 ?_
    refine RO.tk 11 ?_ (hy := fun wq hq => y_loadF rfl (hsat.up hq) rfl)
    refine RO.two 12 16 ?_ ?_
    · refine RL.cx (See_any _ (ht1.up (h36.trans h0)) (ht2.up (h36.trans h0))) ?_
      rintro _ _ ⟨sv, rfl, h, shds, slab, hsv2⟩
      refine ⟨_, rfl, ?_⟩
      unfold fltV
      have h0 := h0.trans h
      have hse := hsv2.seen
      obtain ⟨sa, sc, rfl, _⟩ := id hse
      try have hl11 := hb11.lt
      try have hb11 := hb11.up h
      refine RL.ord h0 ?_
      clear h hsv2
      refine RO.tk 13 ?_
      refine RO.tk 14 ?_
      refine RO.tk 15 ?_
      refine RO.one 16 ?_
      refine RL.al h0 fun b11 _ he11 hle11 h0 h hb11 => ?_
      try have hse := hse.up h
      refine RL.ord h0 ?_
      clear h
      refine RO.tk 17 ?_
      refine RO.one 18 ?_
      refine RL.st h0 hb11 hle11 fun _ h0 hbt hb11 => ?_
      have hse := (hse.bt hbt (fun k hk => by have := hk.1; have := hk.2; omega)).mono (S' := fun _ => True) fun _ _ => trivial
      refine RL.ord h0 ?_
      refine RO.done (RL.nil ?_)
      exact next3 (sa, sc, b11) _ _ ⟨h0, hb11, hse⟩ sb
    · refine RL.al h0 fun b11 _ he11 hle11 h0 h hb11 => ?_
      try have hse := hse.up h
      refine RL.ord h0 ?_
      clear h
      refine RO.one 12 ?_
      refine RL.cx (See_any _ (ht1.up (h36.trans h0)) (ht2.up (h36.trans h0))) ?_
      rintro _ _ ⟨sv, rfl, h, shds, slab, hsv2⟩
      refine ⟨_, rfl, ?_⟩
      unfold fltV
      have h0 := h0.trans h
      have hse := hsv2.seen
      obtain ⟨sa, sc, rfl, _⟩ := id hse
      try have hl11 := hb11.lt
      try have hb11 := hb11.up h
      refine RL.ord h0 ?_
      clear h hsv2
      refine RO.tk 13 ?_
      refine RO.tk 14 ?_
      refine RO.tk 15 ?_
      refine RO.tk 17 ?_
      refine RO.one 18 ?_
      refine RL.st h0 hb11 hle11 fun _ h0 hbt hb11 => ?_
      have hse := (hse.bt hbt (fun k hk => by have := hk.1; have := hk.2; omega)).mono (S' := fun _ => True) fun _ _ => trivial
      refine RL.ord h0 ?_
      refine RO.done (RL.nil ?_)
      exact next3 (sa, sc, b11) _ _ ⟨h0, hb11, hse⟩ sb
  clear ha9 hsat
  rintro ⟨sa, sc, b11⟩ w7 ⟨h67, hb11, hse⟩
  simp only at hb11 hse ⊢
  have hsee := hrs.see
  have ha11 := hb11.at
  have hv2 := hv2.up h67
  have hb9 := hb9.up h67
  have h37 := h36.trans h67
  have ha9 := hb9.at
  have hmemS := hsn.mem
  generalize (seeM s.types s.changes).1 = sns at *
  obtain ⟨sa', sc', heq, hsnc, hscm, _⟩ := id hse
  cases heq
  unfold maxLen at hscm
  repeat (first | refine RL.vv ?_ | refine RL.p ?_ | refine RL.nil ?_ | refine Sim.seq ?_ | refine Sim.region ?_ | refine Sim.block ?_ | refine Sim.skip ?_ | refine Sim.inBlock ?_ | refine Sim.exit rfl ?_ | refine Sim.condT rfl ?_ | refine Sim.condF rfl ?_)
  refine Sim.loop (σ := Nat) (fun n => [(0, .slice (some ⟨svb, so, none⟩) l.length lc), (30, .slice (some ⟨rb, ro, none⟩) R.2.1.length rc), (31, .int .i64 (R.2.1.length : Int)), (32, .int .i64 (i : Int)), (9, .pointer (some ⟨b9, 0, none⟩)), (10, .slice sa sns.length sc), (56, .slice a2 r.fields.length c2), (57, .int .i64 (r.fields.length : Int)), (58, .int .i64 (n : Int))]) (fun n w' => n ≤ r.fields.length ∧ Up w7 w') (fun n => r.fields.length - n) 0 sb ⟨Nat.zero_le _, .refl _⟩ ?_
  clear ha9 ha11 hb11
  rintro n w8 ⟨hn, h78⟩ next2
  by_cases hnl : n < r.fields.length
  rotate_left
  · repeat (first | refine RL.vv ?_ | refine RL.p ?_ | refine RL.nil ?_ | refine Sim.seq ?_ | refine Sim.region ?_ | refine Sim.block ?_ | refine Sim.skip ?_ | refine Sim.inBlock ?_ | refine Sim.exit rfl ?_ | refine Sim.condT rfl ?_ | refine Sim.condF rfl ?_)
    exact next (i + 1) _ _ ⟨by omega, (h34.trans h46).trans (h67.trans h78)⟩ (by omega) sb
  have hfx : r.fields[n]? = some r.fields[n] := List.getElem?_eq_getElem hnl
  obtain ⟨fb, fo, cs, rfl, _, hfat, rfl, _⟩ := (hv2.up h78).at hfx
  have hfat : At w8 fb (fo + n * 1) _ := hfat
  have hfin := hff _ (List.getElem_mem hnl)
  generalize r.fields[n] = f at *
  repeat (first | refine RL.vv ?_ | refine RL.p ?_ | refine RL.nil ?_ | refine Sim.seq ?_ | refine Sim.region ?_ | refine Sim.block ?_ | refine Sim.skip ?_ | refine Sim.inBlock ?_ | refine Sim.exit rfl ?_ | refine Sim.condT rfl ?_ | refine Sim.condF rfl ?_)
  refine Sim.loop (σ := Nat × Bool) (fun st => [(0, .slice (some ⟨svb, so, none⟩) l.length lc), (30, .slice (some ⟨rb, ro, none⟩) R.2.1.length rc), (31, .int .i64 (R.2.1.length : Int)), (32, .int .i64 (i : Int)), (9, .pointer (some ⟨b9, 0, none⟩)), (10, .slice sa sns.length sc), (56, .slice (some ⟨fb, fo, none⟩) r.fields.length c2), (57, .int .i64 (r.fields.length : Int)), (58, .int .i64 (n : Int)), (13, .string f), (14, .bool st.2), (62, .slice sa sns.length sc), (63, .int .i64 (sns.length : Int)), (64, .int .i64 (st.1 : Int))])
    (fun st w' => st.1 ≤ sns.length ∧ Up w8 w' ∧ (sn ∈ sns.take st.1 → st.2 = true)) (fun st => sns.length - st.1) (0, false) sb ⟨Nat.zero_le _, .refl _, fun h => by simp at h⟩ ?_
  clear hfat
  rintro ⟨k, acc⟩ w9 ⟨hk, h89, hacc⟩ next3
  simp only at hk hacc next3 ⊢
  by_cases hkl : k < sns.length
  rotate_left
  · have : k = sns.length := by omega
    subst this
    rw [List.take_length] at hacc
    have hacc := hacc hmemS
    subst hacc
    repeat (first | refine RL.vv ?_ | refine RL.p ?_ | refine RL.nil ?_ | refine Sim.seq ?_ | refine Sim.region ?_ | refine Sim.block ?_ | refine Sim.skip ?_ | refine Sim.inBlock ?_ | refine Sim.exit rfl ?_ | refine Sim.condT rfl ?_ | refine Sim.condF rfl ?_)
    exact next2 (n + 1) _ _ ⟨by omega, h78.trans h89⟩ (by omega) sb
  have hsx : sns[k]? = some sns[k] := List.getElem?_eq_getElem hkl
  have h79 := h78.trans h89
  obtain ⟨ub, uo, cs, rfl, _, huat, ⟨u1, u2, rfl, hu1, hu2⟩, _⟩ := (hse.up h79).at hsx
  have huat : At w9 ub (uo + k * 4) _ := huat
  have htk := List.take_succ_eq_append_getElem hkl
  generalize sns[k] = x at *
  obtain ⟨x1, y1, rfl, _⟩ := id hu1
  obtain ⟨x2, y2, rfl, hnx, hmx, _⟩ := id hu2
  unfold maxLen at hmx
  repeat (first | refine RL.vv ?_ | refine RL.p ?_ | refine RL.nil ?_ | refine Sim.seq ?_ | refine Sim.region ?_ | refine Sim.block ?_ | refine Sim.skip ?_ | refine Sim.inBlock ?_ | refine Sim.exit rfl ?_ | refine Sim.condT rfl ?_ | refine Sim.condF rfl ?_)
  refine RL.al h89 fun b16 w10 he16 hle16 h810 h910 hb16 => ?_
  repeat (first | refine RL.vv ?_ | refine RL.p ?_ | refine RL.nil ?_ | refine Sim.seq ?_ | refine Sim.region ?_ | refine Sim.block ?_ | refine Sim.skip ?_ | refine Sim.inBlock ?_ | refine Sim.exit rfl ?_ | refine Sim.condT rfl ?_ | refine Sim.condF rfl ?_)
  refine RL.st h810 hb16 hle16 fun w11 h811 hbt hb16 => ?_
  have hb16 : Box w11 b16 _ [.string x.type.name, .slice x1 x.type.fields.length y1, .string x.own, .slice x2 x.fields.length y2] := hb16
  have h911 : Up w9 w11 := Up.but h910 hbt (Nat.le_of_eq he16.symm)
  have ha16 := hb16.at
  have hu2 := hu2.up h911
  clear huat hbt h810 h910
  repeat (first | refine RL.vv ?_ | refine RL.p ?_ | refine RL.nil ?_ | refine Sim.seq ?_ | refine Sim.region ?_ | refine Sim.block ?_ | refine Sim.skip ?_ | refine Sim.inBlock ?_ | refine Sim.exit rfl ?_ | refine Sim.condT rfl ?_ | refine Sim.condF rfl ?_)
  refine Sim.loop (σ := Nat × Bool) (fun st => [(0, .slice (some ⟨svb, so, none⟩) l.length lc), (30, .slice (some ⟨rb, ro, none⟩) R.2.1.length rc), (31, .int .i64 (R.2.1.length : Int)), (32, .int .i64 (i : Int)), (9, .pointer (some ⟨b9, 0, none⟩)), (10, .slice (some ⟨ub, uo, none⟩) sns.length sc), (56, .slice (some ⟨fb, fo, none⟩) r.fields.length c2), (57, .int .i64 (r.fields.length : Int)), (58, .int .i64 (n : Int)), (13, .string f), (14, .bool st.2), (62, .slice (some ⟨ub, uo, none⟩) sns.length sc), (63, .int .i64 (sns.length : Int)), (64, .int .i64 (k : Int)), (16, .pointer (some ⟨b16, 0, none⟩)), (69, .slice x2 x.fields.length y2), (70, .int .i64 (x.fields.length : Int)), (71, .int .i64 (st.1 : Int))])
    (fun st w' => st.1 ≤ x.fields.length ∧ Up w11 w' ∧ (acc = true → st.2 = true) ∧ (x.own = r.type → f ∈ x.fields.take st.1 → st.2 = true)) (fun st => x.fields.length - st.1) (0, acc) sb ⟨Nat.zero_le _, .refl _, fun h => h, fun _ h => by simp at h⟩ ?_
  clear ha16
  rintro ⟨j, c⟩ w12 ⟨hj, h1112, hc1, hc2⟩ next4
  simp only at hj hc1 hc2 next4 ⊢
  by_cases hjl : j < x.fields.length
  rotate_left
  · have : j = x.fields.length := by omega
    subst this
    rw [List.take_length] at hc2
    repeat (first | refine RL.vv ?_ | refine RL.p ?_ | refine RL.nil ?_ | refine Sim.seq ?_ | refine Sim.region ?_ | refine Sim.block ?_ | refine Sim.skip ?_ | refine Sim.inBlock ?_ | refine Sim.exit rfl ?_ | refine Sim.condT rfl ?_ | refine Sim.condF rfl ?_)
    refine next3 (k + 1, c) _ _ ⟨by first | omega | (simp only; omega), (h811.trans h1112), fun hm => ?_⟩ (by first | omega | (simp only; omega)) sb
    simp only at hm ⊢
    rw [htk, List.mem_append] at hm
    rcases hm with hm | hm
    · exact hc1 (hacc hm)
    · simp only [List.mem_singleton] at hm
      subst hm
      exact hc2 hown hfin
  have hyx : x.fields[j]? = some x.fields[j] := List.getElem?_eq_getElem hjl
  obtain ⟨yb, yo, cs, rfl, _, hyat, rfl, _⟩ := (hu2.up h1112).at hyx
  have hyat : At w12 yb (yo + j * 1) _ := hyat
  have htj := List.take_succ_eq_append_getElem hjl
  generalize x.fields[j] = y at *
  have ha16 := (hb16.up h1112).at
  have ha9 := (hb9.up (h79.trans (h911.trans h1112))).at
  have hfin2 : ∀ d : Bool, (c = true → d = true) → (x.own = r.type → y = f → d = true) → (acc = true → d = true) ∧ (x.own = r.type → f ∈ x.fields.take (j + 1) → d = true) := fun d h1 h2 => ⟨fun h => h1 (hc1 h), fun ho hm => by
    rw [htj, List.mem_append] at hm
    rcases hm with hm | hm
    · exact h1 (hc2 ho hm)
    · simp only [List.mem_singleton] at hm
      exact h2 ho hm.symm⟩
  cases c with
  | true =>
    repeat (first | refine RL.vv ?_ | refine RL.p ?_ | refine RL.nil ?_ | refine Sim.seq ?_ | refine Sim.region ?_ | refine Sim.block ?_ | refine Sim.skip ?_ | refine Sim.inBlock ?_ | refine Sim.exit rfl ?_ | refine Sim.condT rfl ?_ | refine Sim.condF rfl ?_)
    exact next4 (j + 1, true) _ _ ⟨by first | omega | (simp only; omega), h1112, hfin2 true (fun _ => rfl) fun _ _ => rfl⟩ (by first | omega | (simp only; omega)) sb
  | false =>
    by_cases e1 : x.own = r.type
    · by_cases e2 : y = f
      · repeat (first | refine RL.vv ?_ | refine RL.p ?_ | refine RL.nil ?_ | refine Sim.seq ?_ | refine Sim.region ?_ | refine Sim.block ?_ | refine Sim.skip ?_ | refine Sim.inBlock ?_ | refine Sim.exit rfl ?_ | refine Sim.condT rfl ?_ | refine Sim.condF rfl ?_)
        exact next4 (j + 1, true) _ _ ⟨by first | omega | (simp only; omega), h1112, hfin2 true (fun _ => rfl) fun _ _ => rfl⟩ (by first | omega | (simp only; omega)) sb
      · repeat (first | refine RL.vv ?_ | refine RL.p ?_ | refine RL.nil ?_ | refine Sim.seq ?_ | refine Sim.region ?_ | refine Sim.block ?_ | refine Sim.skip ?_ | refine Sim.inBlock ?_ | refine Sim.exit rfl ?_ | refine Sim.condT rfl ?_ | refine Sim.condF rfl ?_)
        exact next4 (j + 1, false) _ _ ⟨by first | omega | (simp only; omega), h1112, hfin2 false (fun h => h) fun _ h => absurd h e2⟩ (by first | omega | (simp only; omega)) sb
    · repeat (first | refine RL.vv ?_ | refine RL.p ?_ | refine RL.nil ?_ | refine Sim.seq ?_ | refine Sim.region ?_ | refine Sim.block ?_ | refine Sim.skip ?_ | refine Sim.inBlock ?_ | refine Sim.exit rfl ?_ | refine Sim.condT rfl ?_ | refine Sim.condF rfl ?_)
      exact next4 (j + 1, false) _ _ ⟨by first | omega | (simp only; omega), h1112, hfin2 false (fun h => h) fun h _ => absurd h e1⟩ (by first | omega | (simp only; omega)) sb
end Go.Proofs.Ytgckpmcdlciibac
