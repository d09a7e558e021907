/- Contracts of chapter 5: a service's answer (the reference's). -/
import Derived.Test.YtgckpmcdlciibaaC23
import Derived.Test.YtgckpmcdlciibaaC24
import Derived.Test.YtgckpmcdlciibaaEngD
namespace Go.Proofs.Ytgckpmcdlciibaa
open Go.RowKit
theorem new_ne {w : World} {v v' : Value} (hv : ∀ g, v'.ownBlock = some g → v.ownBlock = some g ∨ g = w.heap.size) (k : Nat) (h1 : k < w.heap.size) (h2 : some k ≠ v.ownBlock) : some k ≠ v'.ownBlock := fun h3 => by
  rcases hv k h3.symm with h4 | h4
  · exact h2 h4.symm
  · omega
set_option maxHeartbeats 8000000 in
theorem RAnswer_any {S S2 S3 : Nat → Prop} {lv kv fv : Value} {l : List Svc} (q : Rq) (w : World) (hl : SliceOf svcLay S w lv l) (hk : SliceOf strLay S2 w kv q.keys) (hf : SliceOf strLay S3 w fv q.fields) (hok : ∀ s ∈ l, okSvc s) (hqk : q.keys.length * 16 ≤ 140737488351232) :
    Calls Try.prog 16 #[lv, .agg #[.int .i64 q.service, .string q.type, kv, fv]] w fun en w' => ∃ a b, en = .returned (.tuple #[.agg #[a, b], .int .i64 (answerM l q).2]) ∧ Up w w' ∧ ReplyAt w.heap.size w.heap.size w' a b (answerM l q).1 := by
  refine calls_of_sim Try.func16 rfl (Nat.le_of_ble_eq_true rfl) ?_
  obtain ⟨svc, ty, ks, fs⟩ := q
  simp only at hk hf hqk ⊢
  obtain ⟨la, lc, rfl, hlnc, hlcm, _⟩ := id hl
  obtain ⟨ka, kc, rfl, hknc, hkcm, _⟩ := id hk
  obtain ⟨fa, fc, rfl, hfnc, hfcm, _⟩ := id hf
  unfold maxLen at hlcm hkcm hfcm
  repeat (first | refine RL.vv ?_ | refine RL.p ?_ | refine RL.nil ?_ | refine Sim.seq ?_ | refine Sim.region ?_ | refine Sim.block ?_ | refine Sim.skip ?_ | refine Sim.inBlock ?_ | refine Sim.exit rfl ?_ | refine Sim.condT rfl ?_ | refine Sim.condF rfl ?_)
  refine RL.bx (.refl w) fun b3 w1 _ hle3 hu1 _ hb3 => ?_
  refine RL.al hu1 fun b4 w2 _ hle4 hu hu12 hb4 => ?_
  have hb3 := hb3.up hu12
  have ha3 := hb3.at
  repeat (first | refine RL.vv ?_ | refine RL.p ?_ | refine RL.nil ?_ | refine Sim.seq ?_ | refine Sim.region ?_ | refine Sim.block ?_ | refine Sim.skip ?_ | refine Sim.inBlock ?_ | refine Sim.exit rfl ?_ | refine Sim.condT rfl ?_ | refine Sim.condF rfl ?_)
  refine RL.cu hu (RWrongRequest_any ⟨svc, ty, ks, fs⟩ w2 (hl.up hu) (hk.up hu) (hf.up hu)) fun w3 hu hu3 => ?_
  have hb3 := hb3.up hu3
  have hb4 := hb4.up hu3
  clear hu1 hu12 ha3 hu3
  by_cases he : wrongRq l ⟨svc, ty, ks, fs⟩ = 0
  rotate_left
  · have hans : answerM l ⟨svc, ty, ks, fs⟩ = (⟨[], []⟩, wrongRq l ⟨svc, ty, ks, fs⟩) := by
      unfold answerM
      rw [if_neg he]
    rw [hans]
    repeat (first | refine RL.vv ?_ | refine RL.p ?_ | refine RL.nil ?_ | refine Sim.seq ?_ | refine Sim.region ?_ | refine Sim.block ?_ | refine Sim.skip ?_ | refine Sim.inBlock ?_ | refine Sim.exit rfl ?_ | refine Sim.condT rfl ?_ | refine Sim.condF rfl ?_)
    refine RL.val trivial rfl (y_build (v := .agg #[.slice none 0 0, .slice none 0 0]) rfl (fun w => by kernel_rfl)) ?_
    repeat (first | refine RL.vv ?_ | refine RL.p ?_ | refine RL.nil ?_ | refine Sim.seq ?_ | refine Sim.region ?_ | refine Sim.block ?_ | refine Sim.skip ?_ | refine Sim.inBlock ?_ | refine Sim.exit rfl ?_ | refine Sim.condT rfl ?_ | refine Sim.condF rfl ?_)
    refine RL.st hu hb4 hle4 fun w4 hu _ hb4 => ?_
    repeat (first | refine RL.vv ?_ | refine RL.p ?_ | refine RL.nil ?_ | refine Sim.seq ?_ | refine Sim.region ?_ | refine Sim.block ?_ | refine Sim.skip ?_ | refine Sim.inBlock ?_ | refine Sim.exit rfl ?_ | refine Sim.condT rfl ?_ | refine Sim.condF rfl ?_)
    refine Sim.retCT (cs := [.slice none 0 0, .slice none 0 0]) Try.func16 rfl rfl rfl hb4.at rfl ⟨_, _, rfl, hu, ReplyAt.nil _ _ _⟩
  obtain ⟨s, t, h0, hs, _, _, htail⟩ := wrongRq_zero he
  obtain ⟨n, rfl⟩ := Int.eq_ofNat_of_zero_le h0
  have hs : l[n]? = some s := hs
  have hnd := rqTail_nodup htail
  obtain ⟨vb, so, cs, rfl, _, hsat, ⟨tv, cv, xv, rfl, _, _, hxv⟩, hnl⟩ := hl.at hs
  have hsat : At w vb (so + n * 3) _ := hsat
  obtain ⟨xa, xc, rfl, _⟩ := id hxv
  have hosv := (hok s (List.mem_of_getElem? hs)).2.2
  have hans : answerM l ⟨n, ty, ks, fs⟩ = (⟨ks.map fun k => (ansKey s ⟨n, ty, ks, fs⟩ k).1, ks.map fun k => (ansKey s ⟨n, ty, ks, fs⟩ k).2⟩, 0) := by
    unfold answerM
    rw [if_pos he]
    simp only [Int.toNat_natCast, hs]
  rw [hans]
  simp only
  repeat (first | refine RL.vv ?_ | refine RL.p ?_ | refine RL.nil ?_ | refine Sim.seq ?_ | refine Sim.region ?_ | refine Sim.block ?_ | refine Sim.skip ?_ | refine Sim.inBlock ?_ | refine Sim.exit rfl ?_ | refine Sim.condT rfl ?_ | refine Sim.condF rfl ?_)
  refine RL.al hu fun b7 w4 he7 hle7 hu hu34 hb7 => ?_
  have hl37 : b3 < b7 := by have := hb3.lt; omega
  have hl47 : b4 < b7 := by have := hb4.lt; omega
  clear he7
  have hb3 := hb3.up hu34
  have hb4 := hb4.up hu34
  have ha3 := hb3.at
  have hlt3 := hb3.lt
  have hlt4 := hb4.lt
  have hlt7 := hb7.lt
  repeat (first | refine RL.vv ?_ | refine RL.p ?_ | refine RL.nil ?_ | refine Sim.seq ?_ | refine Sim.region ?_ | refine Sim.block ?_ | refine Sim.skip ?_ | refine Sim.inBlock ?_ | refine Sim.exit rfl ?_ | refine Sim.condT rfl ?_ | refine Sim.condF rfl ?_)
  refine Sim.loop (σ := Nat) (fun i => [(0, .slice (some ⟨vb, so, none⟩) l.length lc), (3, .pointer (some ⟨b3, 0, none⟩)), (4, .pointer (some ⟨b4, 0, none⟩)), (7, .pointer (some ⟨b7, 0, none⟩)), (24, .slice ka ks.length kc), (25, .int .i64 (ks.length : Int)), (26, .int .i64 (i : Int))])
    (fun i w' => i ≤ ks.length ∧ Up w w' ∧ w4.heap.size ≤ w'.heap.size ∧ Box w' b3 _ _ ∧ Box w' b4 _ _ ∧ ∃ a b, Box w' b7 29 [a, b] ∧ ReplyAt w.heap.size w4.heap.size w' a b ⟨(ks.take i).map fun k => (ansKey s ⟨n, ty, ks, fs⟩ k).1, (ks.take i).map fun k => (ansKey s ⟨n, ty, ks, fs⟩ k).2⟩) (fun i => ks.length - i) 0 sb
    ⟨Nat.zero_le _, hu, Nat.le_refl _, hb3, hb4, _, _, hb7, ReplyAt.nil _ _ _⟩ ?_
  have hw4 := hu.size
  clear hu hu34 hb3 hb4 hb7 ha3
  generalize w4.heap.size = B at *
  rintro i w5 ⟨hi, hu, hB5, hb3, hb4, av, bv, hb7, hrep⟩ next
  obtain ⟨aa, an, ac, hae⟩ := hrep.1.sh
  obtain ⟨ba, bn, bc, hbe⟩ := hrep.2.1.sh
  have ha3 := hb3.at
  by_cases hlt : i < ks.length
  rotate_left
  · subst hae hbe
    repeat (first | refine RL.vv ?_ | refine RL.p ?_ | refine RL.nil ?_ | refine Sim.seq ?_ | refine Sim.region ?_ | refine Sim.block ?_ | refine Sim.skip ?_ | refine Sim.inBlock ?_ | refine Sim.exit rfl ?_ | refine Sim.condT rfl ?_ | refine Sim.condF rfl ?_)
    refine RL.vv ?_ (hy := y_loadA rfl hb7.at rfl)
    refine RL.st hu hb4 hle4 fun w6 hu hbt hb4 => ?_
    repeat (first | refine RL.vv ?_ | refine RL.p ?_ | refine RL.nil ?_ | refine Sim.seq ?_ | refine Sim.region ?_ | refine Sim.block ?_ | refine Sim.skip ?_ | refine Sim.inBlock ?_ | refine Sim.exit rfl ?_ | refine Sim.condT rfl ?_ | refine Sim.condF rfl ?_)
    refine Sim.retCT Try.func16 rfl rfl rfl hb4.at rfl ⟨_, _, rfl, hu, ?_⟩
    have hii : i = ks.length := by omega
    subst hii
    rw [List.take_length] at hrep
    exact (hrep.but hbt hle4 hlt4).base hw4
  have hx : ks[i]? = some ks[i] := List.getElem?_eq_getElem hlt
  obtain ⟨kb, ko, cs, rfl, _, hkat, rfl, _⟩ := hk.at hx
  have hkat : At w kb (ko + i * 1) _ := hkat
  have hkt : ks.take (i + 1) = ks.take i ++ [ks[i]] := List.take_succ_eq_append_getElem hlt
  generalize ks[i] = key at *
  obtain ⟨pa, hpa, hps⟩ : ∃ pa, ptrAt (.slice xa s.things.length xc) 3 (thingAt s.things ty key) = .pointer pa ∧ pa.isSome = (thingM s.things ty key).isSome := by
    by_cases hn : thingAt s.things ty key < 0
    · exact ⟨none, by rw [thingAt_neg' hn, ptrAt_neg], by rw [thingM_none hn]; rfl⟩
    · obtain ⟨j, x, h1, h2, h3⟩ := thingM_at hn
      obtain ⟨xb, xo, _, rfl, _⟩ := hxv.at h2
      exact ⟨_, by rw [h1, ptrAt_nat], by rw [h3]; rfl⟩
  repeat (first | refine RL.vv ?_ | refine RL.p ?_ | refine RL.nil ?_ | refine Sim.seq ?_ | refine Sim.region ?_ | refine Sim.block ?_ | refine Sim.skip ?_ | refine Sim.inBlock ?_ | refine Sim.exit rfl ?_ | refine Sim.condT rfl ?_ | refine Sim.condF rfl ?_)
  refine Sim.q ?_
  repeat (first | refine RQ.vv ?_ | refine RQ.p ?_)
  refine RQ.cu (fun wq hq => q_same (c_val (RThing_any ty key wq (hxv.up (hu.trans hq))) hpa) hq) ?_
  repeat (first | refine RQ.vv ?_ | refine RQ.p ?_)
  refine RQ.nil fun w9 hq => ?_
  have hb3 := hb3.up hq
  have hb4 := hb4.up hq
  have hb7 := hb7.up hq
  have hrep := hrep.up hq
  have hB6 := hq.size
  have h6 := hu.trans hq
  clear hq ha3 hu
  ((repeat refine Sim.seq ?_); refine Sim.region ?_; (repeat (first | refine RL.vv ?_ | refine RL.p ?_)); refine RL.nil ?_)
  refine Sim.seq ?_
  have hkk : B ≤ w9.heap.size := by omega
  refine Sim.cutX (fun v11 => [(0, .slice (some ⟨vb, so, none⟩) l.length lc), (3, .pointer (some ⟨b3, 0, none⟩)), (4, .pointer (some ⟨b4, 0, none⟩)), (7, .pointer (some ⟨b7, 0, none⟩)), (24, .slice (some ⟨kb, ko, none⟩) ks.length kc), (25, .int .i64 (ks.length : Int)), (26, .int .i64 (i : Int)), (10, .pointer pa), (11, v11)])
    (fun v11 w' => Up w9 w' ∧ Own valLay 105 w9.heap.size (fun k => k < w.heap.size ∨ w9.heap.size ≤ k) w' v11 (valsM fs (thingM s.things ty key))) (fun k' next2 => ?_) ?_
  · by_cases hn : thingAt s.things ty key < 0
    · have hpn : pa = none := by
        rw [thingAt_neg' hn, ptrAt_neg] at hpa
        simp only [Value.pointer.injEq] at hpa
        exact hpa.symm
      subst hpn
      rw [thingM_none hn] at next2
      have ha3 := hb3.at
      repeat (first | refine RL.vv ?_ | refine RL.p ?_ | refine RL.nil ?_ | refine Sim.seq ?_ | refine Sim.region ?_ | refine Sim.block ?_ | refine Sim.skip ?_ | refine Sim.inBlock ?_ | refine Sim.exit rfl ?_ | refine Sim.condT rfl ?_ | refine Sim.condF rfl ?_)
      refine Sim.loop (σ := Unit) (fun _ => [(0, .slice (some ⟨vb, so, none⟩) l.length lc), (3, .pointer (some ⟨b3, 0, none⟩)), (4, .pointer (some ⟨b4, 0, none⟩)), (7, .pointer (some ⟨b7, 0, none⟩)), (24, .slice (some ⟨kb, ko, none⟩) ks.length kc), (25, .int .i64 (ks.length : Int)), (26, .int .i64 (i : Int)), (10, .pointer none), (41, .slice fa fs.length fc), (42, .int .i64 (fs.length : Int)), (43, .int .i64 ((0 : Nat) : Int)), (11, .slice none 0 0)]) (fun _ w' => w' = w9) (fun _ => 0) () sb rfl ?_
      rintro _ _ rfl _
      by_cases hfl : 0 < fs.length
      · have hf0 : fs[0]? = some fs[0] := List.getElem?_eq_getElem hfl
        obtain ⟨fb, fo, cs, rfl, _, hfat, rfl, _⟩ := hf.at hf0
        have hfat : At w fb (fo + 0 * 1) _ := hfat
        have hu := h6
        repeat (first | refine RL.vv ?_ | refine RL.p ?_ | refine RL.nil ?_ | refine Sim.seq ?_ | refine Sim.region ?_ | refine Sim.block ?_ | refine Sim.skip ?_ | refine Sim.inBlock ?_ | refine Sim.exit rfl ?_ | refine Sim.condT rfl ?_ | refine Sim.condF rfl ?_)
        exact next2 _ _ _ ⟨.refl _, Own.nil _ _ _ _ _⟩ sb
      · repeat (first | refine RL.vv ?_ | refine RL.p ?_ | refine RL.nil ?_ | refine Sim.seq ?_ | refine Sim.region ?_ | refine Sim.block ?_ | refine Sim.skip ?_ | refine Sim.inBlock ?_ | refine Sim.exit rfl ?_ | refine Sim.condT rfl ?_ | refine Sim.condF rfl ?_)
        exact next2 _ _ _ ⟨.refl _, Own.nil _ _ _ _ _⟩ sb
    obtain ⟨j0, x, hj0, hx0, hth⟩ := thingM_at hn
    obtain ⟨xb, xo, cs, rfl, _, hxat, ⟨vsv, rfl, hvs⟩, hj0l⟩ := hxv.at hx0
    have hxat : At w xb (xo + j0 * 3) _ := hxat
    rw [hj0, ptrAt_nat] at hpa
    simp only [Value.pointer.injEq] at hpa
    subst hpa
    rw [hth] at next2
    obtain ⟨va, vc, rfl, hvnc, hvcm, _⟩ := id hvs
    unfold maxLen at hvcm
    have ha3 := hb3.at
    have hu := h6
    have hox := (hosv.2 x (List.mem_of_getElem? hx0)).2.2
    repeat (first | refine RL.vv ?_ | refine RL.p ?_ | refine RL.nil ?_ | refine Sim.seq ?_ | refine Sim.region ?_ | refine Sim.block ?_ | refine Sim.skip ?_ | refine Sim.inBlock ?_ | refine Sim.exit rfl ?_ | refine Sim.condT rfl ?_ | refine Sim.condF rfl ?_)
    refine Sim.loop (σ := Nat × Value) (fun st => [(0, .slice (some ⟨vb, so, none⟩) l.length lc), (3, .pointer (some ⟨b3, 0, none⟩)), (4, .pointer (some ⟨b4, 0, none⟩)), (7, .pointer (some ⟨b7, 0, none⟩)), (24, .slice (some ⟨kb, ko, none⟩) ks.length kc), (25, .int .i64 (ks.length : Int)), (26, .int .i64 (i : Int)), (10, .pointer (some ⟨xb, xo + j0 * 3, none⟩)), (41, .slice fa fs.length fc), (42, .int .i64 (fs.length : Int)), (43, .int .i64 (st.1 : Int)), (11, st.2)])
      (fun st w' => st.1 ≤ fs.length ∧ Up w9 w' ∧ Own valLay 105 w9.heap.size (fun k => k < w.heap.size ∨ w9.heap.size ≤ k) w' st.2 (valsM (fs.take st.1) (some x))) (fun st => fs.length - st.1) (0, .slice none 0 0) sb ⟨Nat.zero_le _, .refl _, Own.nil _ _ _ _ _⟩ ?_
    clear hu ha3
    rintro ⟨j, v11⟩ w10 ⟨hj, hu9, ho⟩ next3
    have hu := h6.trans hu9
    have ha3 := (hb3.up hu9).at
    simp only at hj ho next3 ⊢
    by_cases hjl : j < fs.length
    · have hf0 : fs[j]? = some fs[j] := List.getElem?_eq_getElem hjl
      obtain ⟨fb, fo, cs, rfl, _, hfat, rfl, _⟩ := hf.at hf0
      have hfat : At w fb (fo + j * 1) _ := hfat
      have hpl := part_le hnd hjl x.vals
      have hsucc : valsM (fs.take (j + 1)) (some x) = valsM (fs.take j) (some x) ++ x.vals.filter fun v => decide (v.field = fs[j]) := by
        simp only [valsM]
        rw [List.take_succ_eq_append_getElem hjl, List.flatMap_append]
        simp
      generalize fs[j] = f at *
      repeat (first | refine RL.vv ?_ | refine RL.p ?_ | refine RL.nil ?_ | refine Sim.seq ?_ | refine Sim.region ?_ | refine Sim.block ?_ | refine Sim.skip ?_ | refine Sim.inBlock ?_ | refine Sim.exit rfl ?_ | refine Sim.condT rfl ?_ | refine Sim.condF rfl ?_)
      refine Sim.loop (σ := Nat × Value) (fun st => [(0, .slice (some ⟨vb, so, none⟩) l.length lc), (3, .pointer (some ⟨b3, 0, none⟩)), (4, .pointer (some ⟨b4, 0, none⟩)), (7, .pointer (some ⟨b7, 0, none⟩)), (24, .slice (some ⟨kb, ko, none⟩) ks.length kc), (25, .int .i64 (ks.length : Int)), (26, .int .i64 (i : Int)), (10, .pointer (some ⟨xb, xo + j0 * 3, none⟩)), (41, .slice (some ⟨fb, fo, none⟩) fs.length fc), (42, .int .i64 (fs.length : Int)), (43, .int .i64 (j : Int)), (13, .string f), (52, .slice va x.vals.length vc), (53, .int .i64 (x.vals.length : Int)), (54, .int .i64 (st.1 : Int)), (11, st.2)])
        (fun st w' => st.1 ≤ x.vals.length ∧ Up w9 w' ∧ Own valLay 105 w9.heap.size (fun k => k < w.heap.size ∨ w9.heap.size ≤ k) w' st.2 (valsM (fs.take j) (some x) ++ (x.vals.take st.1).filter fun v => decide (v.field = f))) (fun st => x.vals.length - st.1) (0, v11) sb ⟨Nat.zero_le _, hu9, by simpa using ho⟩ ?_
      clear hu hu9 ho ha3
      rintro ⟨m, v12⟩ w11 ⟨hm, hu9, ho⟩ next4
      have hu := h6.trans hu9
      simp only at hm ho next4 ⊢
      by_cases hml : m < x.vals.length
      · have hv0 : x.vals[m]? = some x.vals[m] := List.getElem?_eq_getElem hml
        obtain ⟨vvb, vo, cs, rfl, _, hvat, ⟨kv2, rfl, hkv2⟩, _⟩ := hvs.at hv0
        have hvat : At w vvb (vo + m * 3) _ := hvat
        have hokv := hox.2 _ (List.mem_of_getElem? hv0)
        have hms : ((x.vals.take (m + 1)).filter fun v => decide (v.field = f)) = ((x.vals.take m).filter fun v => decide (v.field = f)) ++ if x.vals[m].field = f then [x.vals[m]] else [] := by
          rw [List.take_succ_eq_append_getElem hml, List.filter_append]
          by_cases hc : x.vals[m].field = f <;> simp [hc]
        have hplm := hpl (m + 1)
        rw [hms] at hplm
        generalize x.vals[m] = vl at *
        obtain ⟨ka2, kc2, rfl, _, _, _⟩ := id hkv2
        repeat (first | refine RL.vv ?_ | refine RL.p ?_ | refine RL.nil ?_ | refine Sim.seq ?_ | refine Sim.region ?_ | refine Sim.block ?_ | refine Sim.skip ?_ | refine Sim.inBlock ?_ | refine Sim.exit rfl ?_ | refine Sim.condT rfl ?_ | refine Sim.condF rfl ?_)
        refine RL.al (.refl w11) fun b15 w12 he15 hle15 _ h12 hb15 => ?_
        refine RL.st h12 hb15 hle15 fun w13 h13 _ hb15 => ?_
        have hu := hu.trans h13
        have hu9 := hu9.trans h13
        have hn15 : some b15 ≠ v12.ownBlock := ho.ne hle15
        have ho := ho.up h13
        clear he15 hle15 h12 h13
        have ha15 := hb15.at
        by_cases hc : vl.field = f
        · rw [if_pos hc] at hms hplm
          have hplm : (valsM (List.take j fs) (some x) ++ List.filter (fun v => decide (v.field = f)) (List.take m x.vals)).length + 1 ≤ x.vals.length := by
            simp only [List.length_append, List.length_cons, List.length_nil] at hplm ⊢
            simp only [valsM]
            omega
          repeat (first | refine RL.vv ?_ | refine RL.p ?_ | refine RL.nil ?_ | refine Sim.seq ?_ | refine Sim.region ?_ | refine Sim.block ?_ | refine Sim.skip ?_ | refine Sim.inBlock ?_ | refine Sim.exit rfl ?_ | refine Sim.condT rfl ?_ | refine Sim.condF rfl ?_)
          repeat (first | refine RL.vv ?_ | refine RL.p ?_ | refine RL.nil ?_ | refine Sim.seq ?_ | refine Sim.region ?_ | refine Sim.block ?_ | refine Sim.skip ?_ | refine Sim.inBlock ?_ | refine Sim.exit rfl ?_ | refine Sim.condT rfl ?_ | refine Sim.condF rfl ?_)
          refine RL.bu (el := 105) [.string vl.field, .string vl.text, .slice ka2 vl.keys.length kc2] (.refl w13) fun b16 w15 he16 _ _ hu15 hb16 => ?_
          have hs13 := hu9.size
          have hw9 := h6.size
          have hne : ∀ k, w13.heap.size ≤ k → some k ≠ v12.ownBlock := fun k hk => ho.ne hk
          have hno : ∀ k, k < w.heap.size → some k ≠ v12.ownBlock := fun k hk => ho.ne' (by omega)
          refine RL.app (L := valLay) (el := 105) (S := fun k => k < w.heap.size ∨ w9.heap.size ≤ k) (ys := [vl]) (hu9.trans hu15) (ho.up hu15) (SliceOf.one hb16 ⟨.inr (by omega), hne _ (by omega)⟩ ⟨_, rfl, (hkv2.old.up (hu.trans hu15)).mono fun k hk => ⟨.inl hk.2, hno _ hk.2⟩⟩) (by simp only [List.length_cons, List.length_nil]; have := hox.1; omega) (Nat.le_refl _) (by have := hu15.size; omega) fun v13 w16 hu16 ho2 hg hv => ?_
          repeat (first | refine RL.vv ?_ | refine RL.p ?_ | refine RL.nil ?_ | refine Sim.seq ?_ | refine Sim.region ?_ | refine Sim.block ?_ | refine Sim.skip ?_ | refine Sim.inBlock ?_ | refine Sim.exit rfl ?_ | refine Sim.condT rfl ?_ | refine Sim.condF rfl ?_)
          refine next4 (m + 1, v13) _ _ ⟨by simp only; omega, hu16, ?_⟩ (by simp only; omega) sb
          simp only
          rw [hms, ← List.append_assoc]
          exact ho2
        · rw [if_neg hc, List.append_nil] at hms
          repeat (first | refine RL.vv ?_ | refine RL.p ?_ | refine RL.nil ?_ | refine Sim.seq ?_ | refine Sim.region ?_ | refine Sim.block ?_ | refine Sim.skip ?_ | refine Sim.inBlock ?_ | refine Sim.exit rfl ?_ | refine Sim.condT rfl ?_ | refine Sim.condF rfl ?_)
          refine next4 (m + 1, v12) _ _ ⟨by simp only; omega, hu9, ?_⟩ (by simp only; omega) sb
          simp only
          rw [hms]
          exact ho
      · have hmm : m = x.vals.length := by omega
        subst hmm
        rw [List.take_length, ← hsucc] at ho
        repeat (first | refine RL.vv ?_ | refine RL.p ?_ | refine RL.nil ?_ | refine Sim.seq ?_ | refine Sim.region ?_ | refine Sim.block ?_ | refine Sim.skip ?_ | refine Sim.inBlock ?_ | refine Sim.exit rfl ?_ | refine Sim.condT rfl ?_ | refine Sim.condF rfl ?_)
        exact next3 (j + 1, v12) _ _ ⟨by simp only; omega, hu9, ho⟩ (by simp only; omega) sb
    · have hjj : j = fs.length := by omega
      subst hjj
      rw [List.take_length] at ho
      repeat (first | refine RL.vv ?_ | refine RL.p ?_ | refine RL.nil ?_ | refine Sim.seq ?_ | refine Sim.region ?_ | refine Sim.block ?_ | refine Sim.skip ?_ | refine Sim.inBlock ?_ | refine Sim.exit rfl ?_ | refine Sim.condT rfl ?_ | refine Sim.condF rfl ?_)
      exact next2 v11 _ _ ⟨hu9, ho⟩ sb
  · rintro v11 w10 ⟨hu9, ho⟩
    have hu := h6.trans hu9
    have hnk : ∀ k, (k < w.heap.size ∨ w9.heap.size ≤ k) → (k < w.heap.size ∨ B ≤ k) := fun k hk => by omega
    have hna : ∀ k, (k < w.heap.size ∨ w9.heap.size ≤ k) → some k ≠ av.ownBlock := fun k hk => by
      rcases hk with hk | hk
      · exact hrep.1.ne' (by omega)
      · exact hrep.1.ne hk
    have hnb : ∀ k, (k < w.heap.size ∨ w9.heap.size ≤ k) → some k ≠ bv.ownBlock := fun k hk => by
      rcases hk with hk | hk
      · exact hrep.2.1.ne' (by omega)
      · exact hrep.2.1.ne hk
    have hrep := hrep.up hu9
    have hb3 := hb3.up hu9
    have hb4 := hb4.up hu9
    have hb7 := hb7.up hu9
    have hkk : B ≤ w10.heap.size := by have := hu9.size; omega
    obtain ⟨ca, cn, cc, rfl⟩ := ho.sh
    have ha7 := hb7.at
    have hS0 : Up w w10.drew := hu.trans (Up.drew _)
    have hS1 := ha7.up (Up.drew w10)
    refine Sim.ordD [12, 14] (fun wq => At wq b7 0 [av, bv]) (Up w) ?_ mixed
    refine RD.tk 0 ?_
    refine RD.tk 1 ?_ (hy := fun wq hq => y_loadF rfl hq rfl)
    refine RD.tk 2 ?_
    refine RD.tk 3 ?_ (hy := fun wq hq => y_neqNil (el := 103) rfl)
    refine RD.tk 6 ?_
    refine RD.tk 7 ?_ (hy := fun wq hq => y_loadF rfl hq rfl)
    refine RD.tm 8 ?_
    rw [hps]
    have hu := hS0
    have hrep := hrep.up (Up.drew w10)
    have hb3 := hb3.up (Up.drew w10)
    have hb4 := hb4.up (Up.drew w10)
    have hb7 := hb7.up (Up.drew w10)
    have ho := ho.up (Up.drew w10)
    have hkk := Nat.le_trans hkk (Up.drew w10).size
    refine RD.two 4 9 ?_ ?_
    · refine RL.bu (el := 4) [.bool (thingM s.things ty key).isSome] (.refl _) fun b72 _ he72 _ _ h hb72 => ?_
      have hn72 : some b72 ≠ av.ownBlock := hrep.1.ne (Nat.le_of_eq he72.symm)
      have hu := hu.trans h
      have hrep := hrep.up h
      have hb3 := hb3.up h
      have hb4 := hb4.up h
      have hb7 := hb7.up h
      have ho := ho.up h
      have hkk := Nat.le_trans hkk h.size
      try have hb77 := hb77.up h
      clear h he72
      refine RL.od hu hb7.at ?_
      refine RD.two 5 9 ?_ ?_
      · refine RL.app (L := boolLay) (el := 4) (S := All) (B := B) (ys := [(thingM s.things ty key).isSome]) hu hrep.1.no (SliceOf.one hb72 ⟨trivial, hn72⟩ rfl) (by simp; omega) hw4 hkk fun av1 _ hu ho1 hg hv => ?_
        have hnw := new_ne hv
        try have hb77o := hb77
        try have hb77 := hb77.grown hg ha77
        try have ha77 := hnw b77 hb77o.lt ha77
        have hlo := ho.lt
        have ho := (ho.shift (S' := fun k => (k < w.heap.size ∨ w9.heap.size ≤ k) ∧ some k ≠ av1.ownBlock) fun k h1 h2 _ => ⟨h1, hnw k h2 (hna k h1)⟩).grown hg (fun k hk => hna k hk.1) (fun g hg' => hna g (.inr (ho.lt g hg').1))
        have hva : ∀ g, Value.ownBlock (.slice ca cn cc) = some g → some g ≠ av1.ownBlock := fun g hg' => hnw g (hlo g hg').2 (hna g (.inr (hlo g hg').1))
        have hb3 := hb3.grown hg (hrep.1.ne' hlt3)
        have hb4 := hb4.grown hg (hrep.1.ne' hlt4)
        have hb7 := hb7.grown hg (hrep.1.ne' hlt7)
        have hrep := hrep.found hg ho1.no hv
        have hkk := Nat.le_trans hkk hg.size
        obtain ⟨a1, n1, c1, rfl⟩ := ho1.sh
        clear ho1 hg hv hnw hlo
        refine RL.od hu hb7.at ?_
        have h7 := hb7.at
        refine RD.tm 11 ?_
        clear h7
        refine RD.one 9 ?_
        refine RL.bu (el := 101) [.slice ca cn cc] (.refl _) fun b77 _ he77 _ _ h hb77 => ?_
        have hn77 : some b77 ≠ bv.ownBlock := hrep.2.1.ne (Nat.le_of_eq he77.symm)
        have ha77 := hrep.1.ne (Nat.le_of_eq he77.symm)
        have hB77 := Nat.le_trans hkk (Nat.le_of_eq he77.symm)
        have hu := hu.trans h
        have hrep := hrep.up h
        have hb3 := hb3.up h
        have hb4 := hb4.up h
        have hb7 := hb7.up h
        have ho := ho.up h
        have hkk := Nat.le_trans hkk h.size
        try have hb72 := hb72.up h
        clear h he77
        refine RL.od hu hb7.at ?_
        refine RD.one 10 ?_
        refine RL.app (L := valLay.slice) (el := 101) (S := fun k => (k < w.heap.size ∨ B ≤ k) ∧ some k ≠ Value.ownBlock (.slice a1 n1 c1)) (B := B) (ys := [valsM fs (thingM s.things ty key)]) hu hrep.2.1 (SliceOf.one hb77 ⟨⟨.inr hB77, ha77⟩, hn77⟩ ⟨_, rfl, ho.sl (fun k hk _ _ => ⟨⟨hnk k hk.1, hk.2⟩, hnb k hk.1⟩) fun g hg => ⟨⟨hnk g (.inr (ho.lt g hg).1), hva g hg⟩, hnb g (.inr (ho.lt g hg).1)⟩⟩) (by simp only [List.length_cons, List.length_nil, List.length_map, List.length_take]; omega) hw4 hkk fun bv1 _ hu ho2 hg hv => ?_
        have hb3 := hb3.grown hg (hrep.2.1.ne' hlt3)
        have hb4 := hb4.grown hg (hrep.2.1.ne' hlt4)
        have hb7 := hb7.grown hg (hrep.2.1.ne' hlt7)
        have hrep := hrep.vals hg ho2 hv
        have hkk := Nat.le_trans hkk hg.size
        obtain ⟨b1, m1, d1, rfl⟩ := ho2.sh
        clear ho2 hg hv ho hva
        refine RL.od hu hb7.at ?_
        refine RD.one 12 ?_
        refine RL.st hu hb7 hle7 fun _ hu hbt hb7 => ?_
        have hrep := hrep.but hbt hle7 hlt7
        have hb3 := hb3.but hbt (by omega)
        have hb4 := hb4.but hbt (by omega)
        have hkk := Nat.le_trans hkk hbt.size
        clear hbt
        refine RL.ox hu ?_
        refine RD.on 13 hu ?_
        refine RD.one 14 ?_
        refine RL.st hu hb7 hle7 fun _ hu hbt hb7 => ?_
        have hrep := hrep.but hbt hle7 hlt7
        have hb3 := hb3.but hbt (by omega)
        have hb4 := hb4.but hbt (by omega)
        have hkk := Nat.le_trans hkk hbt.size
        refine RL.ox hu ?_
        refine RD.done (RL.nil ?_)
        repeat (first | refine RL.vv ?_ | refine RL.p ?_ | refine RL.nil ?_ | refine Sim.seq ?_ | refine Sim.region ?_ | refine Sim.block ?_ | refine Sim.skip ?_ | refine Sim.inBlock ?_ | refine Sim.exit rfl ?_ | refine Sim.condT rfl ?_ | refine Sim.condF rfl ?_)
        refine next (i + 1) _ _ ⟨by omega, hu, hkk, hb3, hb4, _, _, hb7, ?_⟩ (by omega) sb
        rw [hkt, List.map_append, List.map_append]
        exact hrep
      · refine RL.bu (el := 101) [.slice ca cn cc] (.refl _) fun b77 _ he77 _ _ h hb77 => ?_
        have hn77 : some b77 ≠ bv.ownBlock := hrep.2.1.ne (Nat.le_of_eq he77.symm)
        have ha77 := hrep.1.ne (Nat.le_of_eq he77.symm)
        have hB77 := Nat.le_trans hkk (Nat.le_of_eq he77.symm)
        have hu := hu.trans h
        have hrep := hrep.up h
        have hb3 := hb3.up h
        have hb4 := hb4.up h
        have hb7 := hb7.up h
        have ho := ho.up h
        have hkk := Nat.le_trans hkk h.size
        try have hb72 := hb72.up h
        clear h he77
        refine RL.od hu hb7.at ?_
        refine RD.one 5 ?_
        refine RL.app (L := boolLay) (el := 4) (S := All) (B := B) (ys := [(thingM s.things ty key).isSome]) hu hrep.1.no (SliceOf.one hb72 ⟨trivial, hn72⟩ rfl) (by simp; omega) hw4 hkk fun av1 _ hu ho1 hg hv => ?_
        have hnw := new_ne hv
        try have hb77o := hb77
        try have hb77 := hb77.grown hg ha77
        try have ha77 := hnw b77 hb77o.lt ha77
        have hlo := ho.lt
        have ho := (ho.shift (S' := fun k => (k < w.heap.size ∨ w9.heap.size ≤ k) ∧ some k ≠ av1.ownBlock) fun k h1 h2 _ => ⟨h1, hnw k h2 (hna k h1)⟩).grown hg (fun k hk => hna k hk.1) (fun g hg' => hna g (.inr (ho.lt g hg').1))
        have hva : ∀ g, Value.ownBlock (.slice ca cn cc) = some g → some g ≠ av1.ownBlock := fun g hg' => hnw g (hlo g hg').2 (hna g (.inr (hlo g hg').1))
        have hb3 := hb3.grown hg (hrep.1.ne' hlt3)
        have hb4 := hb4.grown hg (hrep.1.ne' hlt4)
        have hb7 := hb7.grown hg (hrep.1.ne' hlt7)
        have hrep := hrep.found hg ho1.no hv
        have hkk := Nat.le_trans hkk hg.size
        obtain ⟨a1, n1, c1, rfl⟩ := ho1.sh
        clear ho1 hg hv hnw hlo
        refine RL.od hu hb7.at ?_
        have h7 := hb7.at
        refine RD.tm 11 ?_
        clear h7
        refine RD.one 10 ?_
        refine RL.app (L := valLay.slice) (el := 101) (S := fun k => (k < w.heap.size ∨ B ≤ k) ∧ some k ≠ Value.ownBlock (.slice a1 n1 c1)) (B := B) (ys := [valsM fs (thingM s.things ty key)]) hu hrep.2.1 (SliceOf.one hb77 ⟨⟨.inr hB77, ha77⟩, hn77⟩ ⟨_, rfl, ho.sl (fun k hk _ _ => ⟨⟨hnk k hk.1, hk.2⟩, hnb k hk.1⟩) fun g hg => ⟨⟨hnk g (.inr (ho.lt g hg).1), hva g hg⟩, hnb g (.inr (ho.lt g hg).1)⟩⟩) (by simp only [List.length_cons, List.length_nil, List.length_map, List.length_take]; omega) hw4 hkk fun bv1 _ hu ho2 hg hv => ?_
        have hb3 := hb3.grown hg (hrep.2.1.ne' hlt3)
        have hb4 := hb4.grown hg (hrep.2.1.ne' hlt4)
        have hb7 := hb7.grown hg (hrep.2.1.ne' hlt7)
        have hrep := hrep.vals hg ho2 hv
        have hkk := Nat.le_trans hkk hg.size
        obtain ⟨b1, m1, d1, rfl⟩ := ho2.sh
        clear ho2 hg hv ho hva
        refine RL.od hu hb7.at ?_
        refine RD.one 12 ?_
        refine RL.st hu hb7 hle7 fun _ hu hbt hb7 => ?_
        have hrep := hrep.but hbt hle7 hlt7
        have hb3 := hb3.but hbt (by omega)
        have hb4 := hb4.but hbt (by omega)
        have hkk := Nat.le_trans hkk hbt.size
        clear hbt
        refine RL.ox hu ?_
        refine RD.on 13 hu ?_
        refine RD.one 14 ?_
        refine RL.st hu hb7 hle7 fun _ hu hbt hb7 => ?_
        have hrep := hrep.but hbt hle7 hlt7
        have hb3 := hb3.but hbt (by omega)
        have hb4 := hb4.but hbt (by omega)
        have hkk := Nat.le_trans hkk hbt.size
        refine RL.ox hu ?_
        refine RD.done (RL.nil ?_)
        repeat (first | refine RL.vv ?_ | refine RL.p ?_ | refine RL.nil ?_ | refine Sim.seq ?_ | refine Sim.region ?_ | refine Sim.block ?_ | refine Sim.skip ?_ | refine Sim.inBlock ?_ | refine Sim.exit rfl ?_ | refine Sim.condT rfl ?_ | refine Sim.condF rfl ?_)
        refine next (i + 1) _ _ ⟨by omega, hu, hkk, hb3, hb4, _, _, hb7, ?_⟩ (by omega) sb
        rw [hkt, List.map_append, List.map_append]
        exact hrep
    · refine RL.bu (el := 101) [.slice ca cn cc] (.refl _) fun b77 _ he77 _ _ h hb77 => ?_
      have hn77 : some b77 ≠ bv.ownBlock := hrep.2.1.ne (Nat.le_of_eq he77.symm)
      have ha77 := hrep.1.ne (Nat.le_of_eq he77.symm)
      have hB77 := Nat.le_trans hkk (Nat.le_of_eq he77.symm)
      have hu := hu.trans h
      have hrep := hrep.up h
      have hb3 := hb3.up h
      have hb4 := hb4.up h
      have hb7 := hb7.up h
      have ho := ho.up h
      have hkk := Nat.le_trans hkk h.size
      try have hb72 := hb72.up h
      clear h he77
      refine RL.od hu hb7.at ?_
      refine RD.one 4 ?_
      refine RL.bu (el := 4) [.bool (thingM s.things ty key).isSome] (.refl _) fun b72 _ he72 _ _ h hb72 => ?_
      have hn72 : some b72 ≠ av.ownBlock := hrep.1.ne (Nat.le_of_eq he72.symm)
      have hu := hu.trans h
      have hrep := hrep.up h
      have hb3 := hb3.up h
      have hb4 := hb4.up h
      have hb7 := hb7.up h
      have ho := ho.up h
      have hkk := Nat.le_trans hkk h.size
      try have hb77 := hb77.up h
      clear h he72
      refine RL.od hu hb7.at ?_
      refine RD.one 5 ?_
      refine RL.app (L := boolLay) (el := 4) (S := All) (B := B) (ys := [(thingM s.things ty key).isSome]) hu hrep.1.no (SliceOf.one hb72 ⟨trivial, hn72⟩ rfl) (by simp; omega) hw4 hkk fun av1 _ hu ho1 hg hv => ?_
      have hnw := new_ne hv
      try have hb77o := hb77
      try have hb77 := hb77.grown hg ha77
      try have ha77 := hnw b77 hb77o.lt ha77
      have hlo := ho.lt
      have ho := (ho.shift (S' := fun k => (k < w.heap.size ∨ w9.heap.size ≤ k) ∧ some k ≠ av1.ownBlock) fun k h1 h2 _ => ⟨h1, hnw k h2 (hna k h1)⟩).grown hg (fun k hk => hna k hk.1) (fun g hg' => hna g (.inr (ho.lt g hg').1))
      have hva : ∀ g, Value.ownBlock (.slice ca cn cc) = some g → some g ≠ av1.ownBlock := fun g hg' => hnw g (hlo g hg').2 (hna g (.inr (hlo g hg').1))
      have hb3 := hb3.grown hg (hrep.1.ne' hlt3)
      have hb4 := hb4.grown hg (hrep.1.ne' hlt4)
      have hb7 := hb7.grown hg (hrep.1.ne' hlt7)
      have hrep := hrep.found hg ho1.no hv
      have hkk := Nat.le_trans hkk hg.size
      obtain ⟨a1, n1, c1, rfl⟩ := ho1.sh
      clear ho1 hg hv hnw hlo
      refine RL.od hu hb7.at ?_
      have h7 := hb7.at
      refine RD.tm 11 ?_
      clear h7
      refine RD.one 10 ?_
      refine RL.app (L := valLay.slice) (el := 101) (S := fun k => (k < w.heap.size ∨ B ≤ k) ∧ some k ≠ Value.ownBlock (.slice a1 n1 c1)) (B := B) (ys := [valsM fs (thingM s.things ty key)]) hu hrep.2.1 (SliceOf.one hb77 ⟨⟨.inr hB77, ha77⟩, hn77⟩ ⟨_, rfl, ho.sl (fun k hk _ _ => ⟨⟨hnk k hk.1, hk.2⟩, hnb k hk.1⟩) fun g hg => ⟨⟨hnk g (.inr (ho.lt g hg).1), hva g hg⟩, hnb g (.inr (ho.lt g hg).1)⟩⟩) (by simp only [List.length_cons, List.length_nil, List.length_map, List.length_take]; omega) hw4 hkk fun bv1 _ hu ho2 hg hv => ?_
      have hb3 := hb3.grown hg (hrep.2.1.ne' hlt3)
      have hb4 := hb4.grown hg (hrep.2.1.ne' hlt4)
      have hb7 := hb7.grown hg (hrep.2.1.ne' hlt7)
      have hrep := hrep.vals hg ho2 hv
      have hkk := Nat.le_trans hkk hg.size
      obtain ⟨b1, m1, d1, rfl⟩ := ho2.sh
      clear ho2 hg hv ho hva
      refine RL.od hu hb7.at ?_
      refine RD.one 12 ?_
      refine RL.st hu hb7 hle7 fun _ hu hbt hb7 => ?_
      have hrep := hrep.but hbt hle7 hlt7
      have hb3 := hb3.but hbt (by omega)
      have hb4 := hb4.but hbt (by omega)
      have hkk := Nat.le_trans hkk hbt.size
      clear hbt
      refine RL.ox hu ?_
      refine RD.on 13 hu ?_
      refine RD.one 14 ?_
      refine RL.st hu hb7 hle7 fun _ hu hbt hb7 => ?_
      have hrep := hrep.but hbt hle7 hlt7
      have hb3 := hb3.but hbt (by omega)
      have hb4 := hb4.but hbt (by omega)
      have hkk := Nat.le_trans hkk hbt.size
      refine RL.ox hu ?_
      refine RD.done (RL.nil ?_)
      repeat (first | refine RL.vv ?_ | refine RL.p ?_ | refine RL.nil ?_ | refine Sim.seq ?_ | refine Sim.region ?_ | refine Sim.block ?_ | refine Sim.skip ?_ | refine Sim.inBlock ?_ | refine Sim.exit rfl ?_ | refine Sim.condT rfl ?_ | refine Sim.condF rfl ?_)
      refine next (i + 1) _ _ ⟨by omega, hu, hkk, hb3, hb4, _, _, hb7, ?_⟩ (by omega) sb
      rw [hkt, List.map_append, List.map_append]
      exact hrep
end Go.Proofs.Ytgckpmcdlciibaa
