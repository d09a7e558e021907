/- The walk of GateMoved. -/
import Derived.Test.YtgckpmcdlciibacYL34
import Derived.Test.YtgckpmcdlciibacZB
import Derived.Test.YtgckpmcdlciibacZY
import Derived.Test.YtgckpmcdlciibacYRev
import Derived.Test.YtgckpmcdlciibacYEngV
import Derived.Test.YtgckpmcdlciibacYEngU
import Derived.Test.YtgckpmcdlciibacYEngE
namespace Go.Proofs.Ytgckpmcdlciibac
open Go.RowKit
theorem half_take {α : Type} (k : Nat) (l : List α) : l.take (if k ≤ l.length then k else l.length) = half true k l := by
  show _ = l.take k
  split
  · rfl
  · rw [List.take_length, List.take_of_length_le (by omega)]
theorem half_drop {α : Type} (k : Nat) (l : List α) : l.drop (if k ≤ l.length then k else l.length) = half false k l := by
  show _ = l.drop k
  split
  · rfl
  · rw [List.drop_length, List.drop_eq_nil_of_le (by omega)]
theorem ok_half_x {b : Bool} {k : Nat} {x : Thg} (h : okWX x) : okWX (halfX b k x) := by
  obtain ⟨h1, h2, h3, h4⟩ := h
  refine ⟨h1, h2, ?_, fun v hv => h4 v ((half_sub _).subset hv)⟩
  have := (half_sub (b := b) (k := k) x.vals).length_le
  simp only [halfX]
  omega
theorem ok_half_t {b : Bool} {k : Nat} {x : Typ} (h : okWT x) : okWT (halfT b k x) := by
  obtain ⟨h1, h3, h4⟩ := h
  refine ⟨h1, ?_, fun v hv => h4 v ((half_sub _).subset hv)⟩
  have := (half_sub (b := b) (k := k) x.fields).length_le
  simp only [halfT]
  omega
theorem ok_halfS {b : Bool} {k : Nat} {s : Svc} (h : okSvc s) : okSvc (halfS b k s) := by
  obtain ⟨⟨h1, h2⟩, _, h5, h6⟩ := h
  refine ⟨⟨by simpa [halfS] using h1, fun y hy => ?_⟩, ⟨by simp [halfS], fun y hy => by simp [halfS] at hy⟩, by simpa [halfS] using h5, fun y hy => ?_⟩
  · obtain ⟨t, ht, rfl⟩ := List.mem_map.1 hy
    exact ok_half_t (h2 t ht)
  · obtain ⟨t, ht, rfl⟩ := List.mem_map.1 hy
    exact ok_half_x (h6 t ht)
set_option maxHeartbeats 4000000 in
theorem GateMoved_walk {m : Nat} {S S3 : Nat → Prop} {lv kv : Value} {l : List Svc} (q : Ak) (x2 x3 : Int) (w : World) (hl : SliceOf svcLay S w lv l) (hok : ∀ s ∈ l, okSvc s) (hps : SliceOf (pckLay (m + 1)) S3 w kv q.picks) :
    Calls Try.prog 9 #[lv, .agg #[.string q.type, .string q.key, kv], .int .i64 x2, .int .i64 x3] w fun en w' => en = .returned (.bool true) ∧ Up w w' := by
  refine calls_of_sim Try.func9 rfl (Nat.le_of_ble_eq_true rfl) ?_
  obtain ⟨la, lc, rfl, hlnc, hlcm, _⟩ := id hl
  obtain ⟨ka, kc, rfl, _⟩ := id hps
  unfold maxLen at hlcm
  repeat (first | refine RL.vv ?_ | refine RL.p ?_ | refine RL.nil ?_ | refine Sim.seq ?_ | refine Sim.region ?_ | refine Sim.block ?_ | refine Sim.skip ?_ | refine Sim.inBlock ?_ | refine Sim.exit rfl ?_ | refine Sim.condT rfl ?_ | refine Sim.condF rfl ?_)
  refine RL.bx (.refl w) fun b5 w1 he5 hle5 hu1 _ hb5 => ?_
  have hb5 : Box w1 b5 _ [.string q.type, .string q.key, .slice ka q.picks.length kc] := hb5
  repeat (first | refine RL.vv ?_ | refine RL.p ?_ | refine RL.nil ?_ | refine Sim.seq ?_ | refine Sim.region ?_ | refine Sim.block ?_ | refine Sim.skip ?_ | refine Sim.inBlock ?_ | refine Sim.exit rfl ?_ | refine Sim.condT rfl ?_ | refine Sim.condF rfl ?_)
  refine RL.cu hu1 (alive7_any w1) fun w2 hu h12 => ?_
  have hb5 := hb5.up h12
  clear h12 hu1
  by_cases hneg : x2 < 0
  · repeat (first | refine RL.vv ?_ | refine RL.p ?_ | refine RL.nil ?_ | refine Sim.seq ?_ | refine Sim.region ?_ | refine Sim.block ?_ | refine Sim.skip ?_ | refine Sim.inBlock ?_ | refine Sim.exit rfl ?_ | refine Sim.condT rfl ?_ | refine Sim.condF rfl ?_)
    exact Sim.ret1 Try.func9 rfl rfl ⟨rfl, hu⟩
  obtain ⟨n, rfl⟩ := Int.eq_ofNat_of_zero_le (show 0 ≤ x2 by omega)
  by_cases hge : (l.length : Int) ≤ (n : Int)
  · repeat (first | refine RL.vv ?_ | refine RL.p ?_ | refine RL.nil ?_ | refine Sim.seq ?_ | refine Sim.region ?_ | refine Sim.block ?_ | refine Sim.skip ?_ | refine Sim.inBlock ?_ | refine Sim.exit rfl ?_ | refine Sim.condT rfl ?_ | refine Sim.condF rfl ?_)
    exact Sim.ret1 Try.func9 rfl rfl ⟨rfl, hu⟩
  by_cases h5 : (5 : Int) ≤ (l.length : Int)
  · repeat (first | refine RL.vv ?_ | refine RL.p ?_ | refine RL.nil ?_ | refine Sim.seq ?_ | refine Sim.region ?_ | refine Sim.block ?_ | refine Sim.skip ?_ | refine Sim.inBlock ?_ | refine Sim.exit rfl ?_ | refine Sim.condT rfl ?_ | refine Sim.condF rfl ?_)
    exact Sim.ret1 Try.func9 rfl rfl ⟨rfl, hu⟩
  have hnl : n < l.length := by omega
  have hx : l[n]? = some l[n] := List.getElem?_eq_getElem hnl
  obtain ⟨svb, so, cs, rfl, _, hsat, ⟨t1, t2, t3, rfl, ht1, ht2, ht3⟩, hnl'⟩ := (hl.up hu).at hx
  have hsat : At w2 svb (so + n * 3) _ := hsat
  have hlsplit : l = l.take n ++ l[n] :: l.drop (n + 1) := by rw [← List.drop_eq_getElem_cons hnl, List.take_append_drop]
  have hsm := List.getElem_mem hnl
  generalize hs : l[n] = s at *
  obtain ⟨a1, c1, rfl, _⟩ := id ht1
  obtain ⟨a2, c2, rfl, _⟩ := id ht2
  obtain ⟨a3, c3, rfl, _⟩ := id ht3
  by_cases hch : (0 : Int) < (s.changes.length : Int)
  · repeat (first | refine RL.vv ?_ | refine RL.p ?_ | refine RL.nil ?_ | refine Sim.seq ?_ | refine Sim.region ?_ | refine Sim.block ?_ | refine Sim.skip ?_ | refine Sim.inBlock ?_ | refine Sim.exit rfl ?_ | refine Sim.condT rfl ?_ | refine Sim.condF rfl ?_)
    exact Sim.ret1 Try.func9 rfl rfl ⟨rfl, hu⟩
  have hch0 : s.changes = [] := List.eq_nil_of_length_eq_zero (by omega)
  repeat (first | refine RL.vv ?_ | refine RL.p ?_ | refine RL.nil ?_ | refine Sim.seq ?_ | refine Sim.region ?_ | refine Sim.block ?_ | refine Sim.skip ?_ | refine Sim.inBlock ?_ | refine Sim.exit rfl ?_ | refine Sim.condT rfl ?_ | refine Sim.condF rfl ?_)
  refine RL.cx (MAll_any w2 (hl.up hu)) ?_
  rintro _ w3 ⟨pv, rfl, h23, hds, lab, hp⟩
  refine ⟨_, rfl, ?_⟩
  unfold fltV
  have hu3 := hu.trans h23
  have hsat := hsat.up h23
  have hb5 := hb5.up h23
  have hpv := hp.parts
  obtain ⟨pa, pc, rfl, _⟩ := id hpv
  clear hp hpv
  repeat (first | refine RL.vv ?_ | refine RL.p ?_ | refine RL.nil ?_ | refine Sim.seq ?_ | refine Sim.region ?_ | refine Sim.block ?_ | refine Sim.skip ?_ | refine Sim.inBlock ?_ | refine Sim.exit rfl ?_ | refine Sim.condT rfl ?_ | refine Sim.condF rfl ?_)
  refine RL.al hu3 fun b10 w4 he10 hle10 hu4 h34 hb10 => ?_
  have hn5 : b5 ≠ b10 := by have := hb5.lt; omega
  have hb5 := hb5.up h34
  repeat (first | refine RL.vv ?_ | refine RL.p ?_ | refine RL.nil ?_ | refine Sim.seq ?_ | refine Sim.region ?_ | refine Sim.block ?_ | refine Sim.skip ?_ | refine Sim.inBlock ?_ | refine Sim.exit rfl ?_ | refine Sim.condT rfl ?_ | refine Sim.condF rfl ?_)
  refine RL.st hu4 hb10 hle10 fun w5 hu5 hbt hb10 => ?_
  have hb10 : Box w5 b10 _ [.int .i64 (allM l).2.err, .int .i64 (allM l).2.at_] := hb10
  have h35 : Up w3 w5 := Up.but h34 hbt (Nat.le_of_eq he10.symm)
  have hb5 := hb5.but hbt hn5
  have hsat := hsat.up h35
  have ha10 := hb10.at
  clear hbt h34 hu4
  by_cases he : (allM l).2.err = 0
  rotate_left
  · repeat (first | refine RL.vv ?_ | refine RL.p ?_ | refine RL.nil ?_ | refine Sim.seq ?_ | refine Sim.region ?_ | refine Sim.block ?_ | refine Sim.skip ?_ | refine Sim.inBlock ?_ | refine Sim.exit rfl ?_ | refine Sim.condT rfl ?_ | refine Sim.condF rfl ?_)
    exact Sim.ret1 Try.func9 rfl rfl ⟨rfl, hu5⟩
  by_cases hk0 : x3 < 0
  · repeat (first | refine RL.vv ?_ | refine RL.p ?_ | refine RL.nil ?_ | refine Sim.seq ?_ | refine Sim.region ?_ | refine Sim.block ?_ | refine Sim.skip ?_ | refine Sim.inBlock ?_ | refine Sim.exit rfl ?_ | refine Sim.condT rfl ?_ | refine Sim.condF rfl ?_)
    exact Sim.ret1 Try.func9 rfl rfl ⟨rfl, hu5⟩
  by_cases hk10 : (10 : Int) < x3
  · repeat (first | refine RL.vv ?_ | refine RL.p ?_ | refine RL.nil ?_ | refine Sim.seq ?_ | refine Sim.region ?_ | refine Sim.block ?_ | refine Sim.skip ?_ | refine Sim.inBlock ?_ | refine Sim.exit rfl ?_ | refine Sim.condT rfl ?_ | refine Sim.condF rfl ?_)
    exact Sim.ret1 Try.func9 rfl rfl ⟨rfl, hu5⟩
  obtain ⟨k, rfl⟩ := Int.eq_ofNat_of_zero_le (show 0 ≤ x3 by omega)
  have h25 := h23.trans h35
  repeat (first | refine RL.vv ?_ | refine RL.p ?_ | refine RL.nil ?_ | refine Sim.seq ?_ | refine Sim.region ?_ | refine Sim.block ?_ | refine Sim.skip ?_ | refine Sim.inBlock ?_ | refine Sim.exit rfl ?_ | refine Sim.condT rfl ?_ | refine Sim.condF rfl ?_)
  refine RL.al (.refl w5) fun b11 w6 he11 hle11 h56 _ hb11 => ?_
  repeat (first | refine RL.vv ?_ | refine RL.p ?_ | refine RL.nil ?_ | refine Sim.seq ?_ | refine Sim.region ?_ | refine Sim.block ?_ | refine Sim.skip ?_ | refine Sim.inBlock ?_ | refine Sim.exit rfl ?_ | refine Sim.condT rfl ?_ | refine Sim.condF rfl ?_)
  refine RL.st h56 hb11 hle11 fun w7 h57 _ hb11 => ?_
  have hb11 : Box w7 b11 _ [.slice a1 s.types.length c1, .slice a2 s.changes.length c2, .slice a3 s.things.length c3] := hb11
  clear h56
  repeat (first | refine RL.vv ?_ | refine RL.p ?_ | refine RL.nil ?_ | refine Sim.seq ?_ | refine Sim.region ?_ | refine Sim.block ?_ | refine Sim.skip ?_ | refine Sim.inBlock ?_ | refine Sim.exit rfl ?_ | refine Sim.condT rfl ?_ | refine Sim.condF rfl ?_)
  refine RL.al h57 fun b12 w8 he12 hle12 h58 h78 hb12 => ?_
  have hn1112 : b11 ≠ b12 := by have := hb11.lt; omega
  have hb11 := hb11.up h78
  have hl12 := hb12.lt
  clear h57 h78
  refine RL.al h58 fun b13 w9 he13 hle13 h59 h89 hb13 => ?_
  have hn1113 : b11 ≠ b13 := by have := hb11.lt; omega
  have hb11 := hb11.up h89
  have hb12 := hb12.up h89
  have ha11 := hb11.at
  clear h58 h89
  repeat (first | refine RL.vv ?_ | refine RL.p ?_ | refine RL.nil ?_ | refine Sim.seq ?_ | refine Sim.region ?_ | refine Sim.block ?_ | refine Sim.skip ?_ | refine Sim.inBlock ?_ | refine Sim.exit rfl ?_ | refine Sim.condT rfl ?_ | refine Sim.condF rfl ?_)
  have q11 := hb11.lt
  have q12 := hb12.lt
  have q13 := hb13.lt
  refine RL.mmap (κ := Str) h59 fun b14 w10 he14 _ h510 h910 hm0 => ?_
  have hb11 := hb11.up h910
  have hb12 := hb12.up h910
  have hb13 := hb13.up h910
  have ha11 := hb11.at
  have hrs := (wrongS_iff.1 (allM_canon he).2.1).2 s hsm
  have hs510 := h510.size
  have ht8 := hrs.types.len
  have hx60 := hrs.len
  have h2w := (h25.trans h510)
  have hp0 : Pair typLay 57 w5.heap.size w10.heap.size w10 (.slice none 0 0) (.slice none 0 0) [] [] := Pair.nil hs510
  have hl12' := hb12.lt
  have hl13' := hb13.lt
  have hl14 := hm0.lt
  have hn1213 : b12 ≠ b13 := by omega
  repeat (first | refine RL.vv ?_ | refine RL.p ?_ | refine RL.nil ?_ | refine Sim.seq ?_ | refine Sim.region ?_ | refine Sim.block ?_ | refine Sim.skip ?_ | refine Sim.inBlock ?_ | refine Sim.exit rfl ?_ | refine Sim.condT rfl ?_ | refine Sim.condF rfl ?_)
  refine Sim.loop (σ := Nat × Value × Value × List (Str × Value)) (fun st => [(0, .slice (some ⟨svb, so, none⟩) l.length lc), (2, .int .i64 (n : Int)), (3, .int .i64 (k : Int)), (5, .pointer (some ⟨b5, 0, none⟩)), (11, .pointer (some ⟨b11, 0, none⟩)), (12, .pointer (some ⟨b12, 0, none⟩)), (13, .pointer (some ⟨b13, 0, none⟩)), (14, .map (some b14)), (74, .slice a1 s.types.length c1), (75, .int .i64 (s.types.length : Int)), (76, .int .i64 (st.1 : Int))])
    (fun st w' => st.1 ≤ s.types.length ∧ Up w5 w' ∧ w10.heap.size ≤ w'.heap.size ∧ Box w' b11 31 [.slice a1 s.types.length c1, .slice a2 s.changes.length c2, .slice a3 s.things.length c3] ∧ Box w' b12 31 [st.2.1, .slice none 0 0, .slice none 0 0] ∧ Box w' b13 31 [st.2.2.1, .slice none 0 0, .slice none 0 0] ∧
      Pair typLay 57 w5.heap.size w10.heap.size w' st.2.1 st.2.2.1 ((s.types.take st.1).map (halfT true k)) ((s.types.take st.1).map (halfT false k)) ∧ MapAt w' b14 st.2.2.2 ∧ ∀ (j : Nat) t, j < st.1 → s.types[j]? = some t → mget st.2.2.2 t.name = some (.int .i64 ((if k ≤ t.fields.length then k else t.fields.length : Nat) : Int))) (fun st => s.types.length - st.1) (0, .slice none 0 0, .slice none 0 0, []) sb
    ⟨Nat.zero_le _, h510, Nat.le_refl _, hb11, hb12, hb13, hp0, hm0, fun j t hj => absurd hj (Nat.not_lt_zero _)⟩ ?_
  clear hb11 hb12 hb13 hp0 hm0 ha11
  rintro ⟨i, v1, v2, es⟩ w11 ⟨hi, h511, hs11, hb11, hb12, hb13, hpr, hm, hmt⟩ next
  simp only at hi hb12 hb13 hpr hm hmt next ⊢
  by_cases hlt : i < s.types.length
  · have htx : s.types[i]? = some s.types[i] := List.getElem?_eq_getElem hlt
    obtain ⟨tb, to, cs, rfl, _, htat, ⟨fv, rfl, hfv⟩, _⟩ := ((ht1.old.up h25).up h511).at htx
    have htat : At w11 tb (to + i * 2) _ := htat
    have htk := List.take_succ_eq_append_getElem hlt
    have hnd := hrs.types.nodup
    have hmt' : ∀ (j : Nat) t, j < i → s.types[j]? = some t → t.name ≠ s.types[i].name := fun j t hj ht e => by
      have e1 : (s.types.map (·.name))[j]? = (s.types.map (·.name))[i]? := by rw [List.getElem?_map, List.getElem?_map, ht, htx]; exact congrArg some e
      have hlen : j < (s.types.map (·.name)).length := by rw [List.length_map]; omega
      have := (List.getElem?_inj hlen hnd).1 e1
      omega
    have hf8 : (s.types.take i).length ≤ 8 := by have := hrs.types.len; rw [List.length_take]; omega
    generalize s.types[i] = t at *
    obtain ⟨fa, fc, rfl, hfnc, hfcm, _⟩ := id hfv
    unfold maxLen at hfcm
    repeat (first | refine RL.vv ?_ | refine RL.p ?_ | refine RL.nil ?_ | refine Sim.seq ?_ | refine Sim.region ?_ | refine Sim.block ?_ | refine Sim.skip ?_ | refine Sim.inBlock ?_ | refine Sim.exit rfl ?_ | refine Sim.condT rfl ?_ | refine Sim.condF rfl ?_)
    refine RL.al h511 fun b16 w12 he16 hle16 h512 h1112 hb16 => ?_
    have hq16 := And.intro (hpr.fst.ne (Nat.le_of_eq he16.symm)) (hpr.snd.ne (Nat.le_of_eq he16.symm))
    repeat (first | refine RL.vv ?_ | refine RL.p ?_ | refine RL.nil ?_ | refine Sim.seq ?_ | refine Sim.region ?_ | refine Sim.block ?_ | refine Sim.skip ?_ | refine Sim.inBlock ?_ | refine Sim.exit rfl ?_ | refine Sim.condT rfl ?_ | refine Sim.condF rfl ?_)
    refine RL.st h512 hb16 hle16 fun w13 h513 hbt hb16 => ?_
    have hb16 : Box w13 b16 _ [.string t.name, .slice fa t.fields.length fc] := hb16
    have h1113 : Up w11 w13 := Up.but h1112 hbt (Nat.le_of_eq he16.symm)
    have ha16 := hb16.at
    clear htat hbt h1112 h512
    generalize hcut : (if k ≤ t.fields.length then k else t.fields.length) = cut at *
    repeat (first | refine RL.vv ?_ | refine RL.p ?_ | refine RL.nil ?_ | refine Sim.seq ?_ | refine Sim.region ?_ | refine Sim.block ?_ | refine Sim.skip ?_ | refine Sim.inBlock ?_ | refine Sim.exit rfl ?_ | refine Sim.condT rfl ?_ | refine Sim.condF rfl ?_)
    refine RL.vv ?_ (hy := y_min rfl rfl hcut.symm)
    repeat (first | refine RL.vv ?_ | refine RL.p ?_ | refine RL.nil ?_ | refine Sim.seq ?_ | refine Sim.region ?_ | refine Sim.block ?_ | refine Sim.skip ?_ | refine Sim.inBlock ?_ | refine Sim.exit rfl ?_ | refine Sim.condT rfl ?_ | refine Sim.condF rfl ?_)
    have hbase : w5.heap.size ≤ b14 := by omega
    have hb11 := hb11.up h1113
    have hb12 := hb12.up h1113
    have hb13 := hb13.up h1113
    have hpr := hpr.up h1113
    refine RL.mset (el := 3) (k := t.name) (v := .int .i64 (cut : Int)) Try.underlying9 h513 (hm.up h1113) hbase fun w14 h514 hbt hm14 => ?_
    have hb16l := hb16.lt
    have hs1113 := h1113.size
    have hs14 : w11.heap.size ≤ w14.heap.size := Nat.le_trans hs1113 hbt.size
    have hb11 := hb11.but hbt (by omega)
    have hb12 := hb12.but hbt (by omega)
    have hb13 := hb13.but hbt (by omega)
    have hb16 := hb16.but hbt (by omega)
    have hpr := hpr.but hbt hbase hl14
    have hmn : ∀ (j : Nat) u, j < i + 1 → s.types[j]? = some u → mget (mput es t.name (.int .i64 (cut : Int))) u.name = some (.int .i64 ((if k ≤ u.fields.length then k else u.fields.length : Nat) : Int)) := fun j u hj hu => by
      by_cases hji : j = i
      · subst hji
        rw [htx] at hu
        cases hu
        rw [mget_mput, if_pos rfl, hcut]
      · rw [mget_mput, if_neg (fun e => hmt' j u (by omega) hu e.symm)]
        exact hmt j u (by omega) hu
    have hfv14 : SliceOf fldLay (fun b => b < w5.heap.size) w14 (.slice fa t.fields.length fc) t.fields := (((hfv.up h1113).old.keep (w' := w14) fun b hb hlt => hbt.block b hlt (by have := h25.size; have := hb.1.2; omega))).mono fun b hb => by have := h25.size; have := hb.1.2; omega
    have hcl : cut ≤ t.fields.length := by rw [← hcut]; split <;> omega
    clear ha16 hm hfv hbt
    obtain ⟨p1, pn1, pc1, rfl⟩ := hpr.fst.sh
    obtain ⟨p2, pn2, pc2, rfl⟩ := hpr.snd.sh
    repeat (first | refine RL.vv ?_ | refine RL.p ?_ | refine RL.nil ?_ | refine Sim.seq ?_ | refine Sim.region ?_ | refine Sim.block ?_ | refine Sim.skip ?_ | refine Sim.inBlock ?_ | refine Sim.exit rfl ?_ | refine Sim.condT rfl ?_ | refine Sim.condF rfl ?_)
    have hd := h514.trans (Up.drew w14)
    have h1 : Up w5 w14.drew ∧ At w14.drew b12 0 [.slice p1 pn1 pc1, .slice none 0 0, .slice none 0 0] ∧ At w14.drew b16 0 [.string t.name, .slice fa t.fields.length fc] := ⟨hd, hb12.at.up (Up.drew _), hb16.at.up (Up.drew _)⟩
    have h2 : Up w5 w14.drew := hd
    refine Sim.ordD [12] (fun wq => Up w5 wq ∧ At wq b12 0 [.slice p1 pn1 pc1, .slice none 0 0, .slice none 0 0] ∧ At wq b16 0 [.string t.name, .slice fa t.fields.length fc]) (Up w5) ?_ mixed
    refine RD.tk 0 ?_
    refine RD.tk 1 ?_ (hy := fun wq hq => y_load0 rfl hq.2.1 rfl)
    refine RD.tk 2 ?_
    refine RD.tk 3 ?_ (hy := fun wq hq => y_load0 rfl hq.2.2 rfl)
    refine RD.tk 4 ?_
    refine RD.tk 5 ?_ (hy := fun wq hq => y_loadF rfl hq.2.2 rfl)
    refine RD.tk 6 ?_
    refine RD.tk 7 ?_ (hy := fun wq hq => y_sliceHi (i := cut) rfl rfl (by omega))
    refine RD.tk 8 ?_ (hy := fun wq hq => y_build (v := .agg #[.string t.name, .slice fa cut fc]) rfl (fun w => by kernel_rfl))
    have hb11 := hb11.up (Up.drew w14)
    have hb12 := hb12.up (Up.drew w14)
    have hb13 := hb13.up (Up.drew w14)
    have hb16 := hb16.up (Up.drew w14)
    have hpr := hpr.up (Up.drew w14)
    have hfvd := hfv14.up (Up.drew w14)
    have hl14' := hb16.lt
    refine RD.one 9 ?_
    have hprd := hpr
    refine RL.bu (el := 57) [.string t.name, .slice fa cut fc] hd fun b98 w15 he98 _ h515 h1415 hb98 => ?_
    have hb12 := hb12.up h1415
    refine RL.od h515 ⟨h515, hb12.at, (hb16.up h1415).at⟩ ?_
    refine RD.one 10 ?_
    have hpr := hpr.up h1415
    have hs15 : w14.heap.size ≤ w15.heap.size := h1415.size
    have hel : typLay.is (fun b => (b < w5.heap.size ∨ (w10.heap.size ≤ b ∧ some b ≠ Value.ownBlock (.slice p2 pn2 pc2))) ∧ some b ≠ Value.ownBlock (.slice p1 pn1 pc1)) w15 [.string t.name, .slice fa cut fc] (halfT true k t) := ⟨_, rfl, by
      have := ((hfvd.up h1415).take hcl).mono (S' := fun b => (b < w5.heap.size ∨ (w10.heap.size ≤ b ∧ some b ≠ Value.ownBlock (.slice p2 pn2 pc2))) ∧ some b ≠ Value.ownBlock (.slice p1 pn1 pc1)) fun b hb => ⟨.inl hb, hpr.fst.ne' (by omega)⟩
      rw [← hcut, half_take] at this
      rw [hcut] at this
      exact this⟩
    have hn98 : ∀ b, w14.drew.heap.size ≤ b → some b ≠ Value.ownBlock (.slice p1 pn1 pc1) ∧ some b ≠ Value.ownBlock (.slice p2 pn2 pc2) := fun b hb => ⟨hprd.fst.ne hb, hprd.snd.ne hb⟩
    refine RL.app (L := typLay) (el := 57) (S := fun b => b < w5.heap.size ∨ (w10.heap.size ≤ b ∧ some b ≠ Value.ownBlock (.slice p2 pn2 pc2))) (B := w10.heap.size) (ys := [halfT true k t]) h515 hpr.fst (SliceOf.one hb98 ⟨.inr ⟨by have := (Up.drew w14).size; omega, (hn98 b98 (by omega)).2⟩, (hn98 b98 (by omega)).1⟩ hel) (by simp only [List.length_map, List.length_cons, List.length_nil]; omega) hs510 (by have := (Up.drew w14).size; omega) fun v1' w16 h516 ho1 hg hv => ?_
    have hb11 := (hb11.up h1415).grown hg (hpr.fst.ne' (by omega))
    have hb12 := hb12.grown hg (hpr.fst.ne' (by omega))
    have hb13 := (hb13.up h1415).grown hg (hpr.fst.ne' (by omega))
    have hb16 := (hb16.up h1415).grown hg hq16.1
    have hm14 := ((hm14.up (Up.drew w14)).up h1415).grown hg (hpr.fst.ne' (by omega))
    have hs16 := hg.size
    refine RL.od h516 ⟨h516, hb12.at, hb16.at⟩ ?_
    refine RD.tk 11 ?_ (h1 := ⟨h516, hb12.at, hb16.at⟩)
    refine RD.one 12 ?_
    obtain ⟨r1, rn1, rc1, rfl⟩ := ho1.sh
    have hpr := hpr.step hg ho1 hv
    refine RL.st h516 hb12 (by omega) fun w17 h517 hbt hb12 => ?_
    have hb12 : Box w17 b12 _ [.slice r1 rn1 rc1, .slice none 0 0, .slice none 0 0] := hb12
    refine RL.ox h517 ?_
    refine RD.done (RL.nil ?_)
    have hb11 := hb11.but hbt hn1112
    have hm14 := hm14.but hbt (by omega)
    have hb13 := hb13.but hbt hn1213.symm
    have hb16 := hb16.but hbt (by omega)
    have hpr := hpr.but hbt (by omega) (by omega)
    clear h1 h2 hd
    obtain ⟨da, hda⟩ : ∃ da, dropV fa t.fields.length fc cut 3 = .slice da (t.fields.length - cut) (fc - cut) := ⟨_, rfl⟩
    have hdd : t.fields.drop cut = half false k t.fields := by rw [← hcut]; exact half_drop k t.fields
    have hs17 := hbt.size
    have hfv17 : SliceOf fldLay (fun b => b < w5.heap.size) w17 (.slice fa t.fields.length fc) t.fields := (hfvd.up h1415).keep fun b hb hlt => (hbt.block b (by omega) (by omega)).trans (hg.block b hlt (hprd.fst.ne' (by omega)))
    have hq16' : w14.drew.heap.size ≤ w15.heap.size := h1415.size
    have hs1414 : w14.heap.size ≤ w14.drew.heap.size := (Up.drew w14).size
    have hl16 := hb16.lt
    clear hel hg hbt hb98 ho1 hprd hfvd hfv14
    repeat (first | refine RL.vv ?_ | refine RL.p ?_ | refine RL.nil ?_ | refine Sim.seq ?_ | refine Sim.region ?_ | refine Sim.block ?_ | refine Sim.skip ?_ | refine Sim.inBlock ?_ | refine Sim.exit rfl ?_ | refine Sim.condT rfl ?_ | refine Sim.condF rfl ?_)
    have hd := h517.trans (Up.drew w17)
    have h1 : Up w5 w17.drew ∧ At w17.drew b13 0 [.slice p2 pn2 pc2, .slice none 0 0, .slice none 0 0] ∧ At w17.drew b16 0 [.string t.name, .slice fa t.fields.length fc] := ⟨hd, hb13.at.up (Up.drew _), hb16.at.up (Up.drew _)⟩
    have h2 : Up w5 w17.drew := hd
    refine Sim.ordD [12] (fun wq => Up w5 wq ∧ At wq b13 0 [.slice p2 pn2 pc2, .slice none 0 0, .slice none 0 0] ∧ At wq b16 0 [.string t.name, .slice fa t.fields.length fc]) (Up w5) ?_ mixed
    refine RD.tk 0 ?_
    refine RD.tk 1 ?_ (hy := fun wq hq => y_load0 rfl hq.2.1 rfl)
    refine RD.tk 2 ?_
    refine RD.tk 3 ?_ (hy := fun wq hq => y_load0 rfl hq.2.2 rfl)
    refine RD.tk 4 ?_
    refine RD.tk 5 ?_ (hy := fun wq hq => y_loadF rfl hq.2.2 rfl)
    refine RD.tk 6 ?_
    refine RD.tk 7 ?_ (v := .slice da (t.fields.length - cut) (fc - cut)) (hy := fun wq hq => by rw [← hda]; exact y_sliceLo (i := cut) (k := 3) rfl rfl hcl hfnc)
    refine RD.tk 8 ?_ (hy := fun wq hq => y_build (v := .agg #[.string t.name, .slice da (t.fields.length - cut) (fc - cut)]) rfl (fun w => by kernel_rfl))
    have hb11 := hb11.up (Up.drew w17)
    have hb12 := hb12.up (Up.drew w17)
    have hb13 := hb13.up (Up.drew w17)
    have hb16 := hb16.up (Up.drew w17)
    have hpr := hpr.up (Up.drew w17)
    have hfvd := hfv17.up (Up.drew w17)
    have hsd : w17.heap.size ≤ w17.drew.heap.size := (Up.drew w17).size
    have hprd := hpr
    refine RD.one 9 ?_
    refine RL.bu (el := 57) [.string t.name, .slice da (t.fields.length - cut) (fc - cut)] hd fun b110 w18 he110 _ h518 h1718 hb110 => ?_
    have hb13 := hb13.up h1718
    refine RL.od h518 ⟨h518, hb13.at, (hb16.up h1718).at⟩ ?_
    refine RD.one 10 ?_
    have hpr := hpr.up h1718
    have hs18 : w17.drew.heap.size ≤ w18.heap.size := h1718.size
    have hel : typLay.is (fun b => (b < w5.heap.size ∨ (w10.heap.size ≤ b ∧ some b ≠ Value.ownBlock (.slice r1 rn1 rc1))) ∧ some b ≠ Value.ownBlock (.slice p2 pn2 pc2)) w18 [.string t.name, .slice da (t.fields.length - cut) (fc - cut)] (halfT false k t) := ⟨_, rfl, by
      have := ((hfvd.up h1718).drop hcl).mono (S' := fun b => (b < w5.heap.size ∨ (w10.heap.size ≤ b ∧ some b ≠ Value.ownBlock (.slice r1 rn1 rc1))) ∧ some b ≠ Value.ownBlock (.slice p2 pn2 pc2)) fun b hb => ⟨.inl hb, hpr.snd.ne' (by omega)⟩
      rw [hdd] at this
      rw [← hda]
      exact this⟩
    have hn110 : ∀ b, w17.drew.heap.size ≤ b → some b ≠ Value.ownBlock (.slice r1 rn1 rc1) ∧ some b ≠ Value.ownBlock (.slice p2 pn2 pc2) := fun b hb => ⟨hprd.fst.ne hb, hprd.snd.ne hb⟩
    refine RL.app (L := typLay) (el := 57) (S := fun b => b < w5.heap.size ∨ (w10.heap.size ≤ b ∧ some b ≠ Value.ownBlock (.slice r1 rn1 rc1))) (B := w10.heap.size) (ys := [halfT false k t]) h518 hpr.snd (SliceOf.one hb110 ⟨.inr ⟨by omega, (hn110 b110 (by omega)).1⟩, (hn110 b110 (by omega)).2⟩ hel) (by simp only [List.length_map, List.length_cons, List.length_nil]; omega) hs510 (by omega) fun v2' w19 h519 ho2 hg hv => ?_
    have hb11 := (hb11.up h1718).grown hg (hpr.snd.ne' (by omega))
    have hb12 := (hb12.up h1718).grown hg (hpr.snd.ne' (by omega))
    have hb13 := hb13.grown hg (hpr.snd.ne' (by omega))
    have hb16 := (hb16.up h1718).grown hg hq16.2
    have hm14 := ((hm14.up (Up.drew w17)).up h1718).grown hg (hpr.snd.ne' (by omega))
    have hs19 := hg.size
    refine RL.od h519 ⟨h519, hb13.at, hb16.at⟩ ?_
    refine RD.tk 11 ?_ (h1 := ⟨h519, hb13.at, hb16.at⟩)
    refine RD.one 12 ?_
    obtain ⟨r2, rn2, rc2, rfl⟩ := ho2.sh
    have hpr := (hpr.symm.step hg ho2 hv).symm
    refine RL.st h519 hb13 (by omega) fun w20 h520 hbt hb13 => ?_
    have hb13 : Box w20 b13 _ [.slice r2 rn2 rc2, .slice none 0 0, .slice none 0 0] := hb13
    refine RL.ox h520 ?_
    refine RD.done (RL.nil ?_)
    have hb11 := hb11.but hbt hn1113
    have hm14 := hm14.but hbt (by omega)
    have hb12 := hb12.but hbt hn1213
    have hpr := hpr.but hbt (by omega) (by omega)
    have hs20 := hbt.size
    clear h1 h2 hd
    repeat (first | refine RL.vv ?_ | refine RL.p ?_ | refine RL.nil ?_ | refine Sim.seq ?_ | refine Sim.region ?_ | refine Sim.block ?_ | refine Sim.skip ?_ | refine Sim.inBlock ?_ | refine Sim.exit rfl ?_ | refine Sim.condT rfl ?_ | refine Sim.condF rfl ?_)
    exact next (i + 1, .slice r1 rn1 rc1, .slice r2 rn2 rc2, mput es t.name (.int .i64 (cut : Int))) _ _ ⟨by first | omega | (simp only; omega), h520, by first | omega | (simp only; omega), hb11, hb12, hb13, by simp only; rw [htk, List.map_append, List.map_append]; exact hpr, hm14, hmn⟩ (by first | omega | (simp only; omega)) sb
  obtain rfl : i = s.types.length := by omega
  clear next
  rw [List.take_length] at hpr
  obtain ⟨p1, pn1, pc1, rfl⟩ := hpr.fst.sh
  obtain ⟨p2, pn2, pc2, rfl⟩ := hpr.snd.sh
  have ha11 := hb11.at
  have hty1 : SliceOf typLay (fun b => b < w11.heap.size ∧ b ≠ b12 ∧ b ≠ b13) w11 (.slice p1 pn1 pc1) (s.types.map (halfT true k)) := hpr.fst.sl (fun b hb hlt _ => ⟨hlt, by rcases hb with hb | hb <;> omega, by rcases hb with hb | hb <;> omega⟩) fun g hg => by have := hpr.fst.lt g hg; omega
  have hty2 : SliceOf typLay (fun b => b < w11.heap.size ∧ b ≠ b12 ∧ b ≠ b13) w11 (.slice p2 pn2 pc2) (s.types.map (halfT false k)) := hpr.snd.sl (fun b hb hlt _ => ⟨hlt, by rcases hb with hb | hb <;> omega, by rcases hb with hb | hb <;> omega⟩) fun g hg => by have := hpr.snd.lt g hg; omega
  clear hpr
  repeat (first | refine RL.vv ?_ | refine RL.p ?_ | refine RL.nil ?_ | refine Sim.seq ?_ | refine Sim.region ?_ | refine Sim.block ?_ | refine Sim.skip ?_ | refine Sim.inBlock ?_ | refine Sim.exit rfl ?_ | refine Sim.condT rfl ?_ | refine Sim.condF rfl ?_)
  have hp0 : Pair thgLay 64 w5.heap.size w11.heap.size w11 (.slice none 0 0) (.slice none 0 0) [] [] := Pair.nil (by omega)
  refine Sim.loop (σ := Nat × Value × Value) (fun st => [(0, .slice (some ⟨svb, so, none⟩) l.length lc), (2, .int .i64 (n : Int)), (5, .pointer (some ⟨b5, 0, none⟩)), (12, .pointer (some ⟨b12, 0, none⟩)), (13, .pointer (some ⟨b13, 0, none⟩)), (14, .map (some b14)), (115, .slice a3 s.things.length c3), (116, .int .i64 (s.things.length : Int)), (117, .int .i64 (st.1 : Int))])
    (fun st w' => st.1 ≤ s.things.length ∧ Up w5 w' ∧ Els (fun b => b = b12 ∨ b = b13 ∨ w11.heap.size ≤ b) w11 w' ∧ Box w' b12 31 [.slice p1 pn1 pc1, .slice none 0 0, st.2.1] ∧ Box w' b13 31 [.slice p2 pn2 pc2, .slice none 0 0, st.2.2] ∧
      Pair thgLay 64 w5.heap.size w11.heap.size w' st.2.1 st.2.2 ((s.things.take st.1).map (halfX true k)) ((s.things.take st.1).map (halfX false k))) (fun st => s.things.length - st.1) (0, .slice none 0 0, .slice none 0 0) sb
    ⟨Nat.zero_le _, h511, Els.refl _ _, hb12, hb13, hp0⟩ ?_
  clear hb12 hb13 hp0 ha11
  rintro ⟨i, u1, u2⟩ w12 ⟨hi, h512, hels, hb12, hb13, hpr⟩ next
  simp only at hi hb12 hb13 hpr next ⊢
  have hs12 := hels.size
  have hm12 : MapAt w12 b14 es := hm.keep hels.keep (by omega)
  obtain ⟨p3, pn3, pc3, rfl⟩ := hpr.fst.sh
  obtain ⟨p4, pn4, pc4, rfl⟩ := hpr.snd.sh
  by_cases hlt : i < s.things.length
  · have htx : s.things[i]? = some s.things[i] := List.getElem?_eq_getElem hlt
    obtain ⟨tb, to, cs, rfl, _, htat, ⟨fv, rfl, hfv⟩, _⟩ := ((ht3.old.up h25).up h512).at htx
    have htat : At w12 tb (to + i * 3) _ := htat
    have htk := List.take_succ_eq_append_getElem hlt
    have hi60 : (s.things.take i).length ≤ 60 := by rw [List.length_take]; omega
    obtain ⟨_, jj, tt, _, htt, htn, hvo⟩ := hrs.things s.things[i] (List.getElem_mem hlt)
    have hmg := hmt jj tt (List.getElem?_eq_some_iff.1 htt).1 htt
    rw [htn, ← hvo.len] at hmg
    generalize s.things[i] = t at *
    obtain ⟨fa, fc, rfl, hfnc, hfcm, _⟩ := id hfv
    unfold maxLen at hfcm
    repeat (first | refine RL.vv ?_ | refine RL.p ?_ | refine RL.nil ?_ | refine Sim.seq ?_ | refine Sim.region ?_ | refine Sim.block ?_ | refine Sim.skip ?_ | refine Sim.inBlock ?_ | refine Sim.exit rfl ?_ | refine Sim.condT rfl ?_ | refine Sim.condF rfl ?_)
    refine RL.al h512 fun b19 w13 he19 hle19 h513 h1213 hb19 => ?_
    have hq19 := And.intro (hpr.fst.ne (Nat.le_of_eq he19.symm)) (hpr.snd.ne (Nat.le_of_eq he19.symm))
    repeat (first | refine RL.vv ?_ | refine RL.p ?_ | refine RL.nil ?_ | refine Sim.seq ?_ | refine Sim.region ?_ | refine Sim.block ?_ | refine Sim.skip ?_ | refine Sim.inBlock ?_ | refine Sim.exit rfl ?_ | refine Sim.condT rfl ?_ | refine Sim.condF rfl ?_)
    refine RL.st h513 hb19 hle19 fun w14 h514 hbt hb19 => ?_
    have hb19 : Box w14 b19 _ [.string t.type, .string t.key, .slice fa t.vals.length fc] := hb19
    have h1214 : Up w12 w14 := Up.but h1213 hbt (Nat.le_of_eq he19.symm)
    have ha19 := hb19.at
    clear htat hbt h1213 h513
    generalize hcut : (if k ≤ t.vals.length then k else t.vals.length) = cut at *
    have hcl : cut ≤ t.vals.length := by rw [← hcut]; split <;> omega
    repeat (first | refine RL.vv ?_ | refine RL.p ?_ | refine RL.nil ?_ | refine Sim.seq ?_ | refine Sim.region ?_ | refine Sim.block ?_ | refine Sim.skip ?_ | refine Sim.inBlock ?_ | refine Sim.exit rfl ?_ | refine Sim.condT rfl ?_ | refine Sim.condF rfl ?_)
    refine RL.vv ?_ (v := .int .i64 (cut : Int)) (hy := y_lookupV (k := t.type) Try.underlying9 (hm12.up h1214) rfl rfl (by rw [hmg]; rfl))
    repeat (first | refine RL.vv ?_ | refine RL.p ?_ | refine RL.nil ?_ | refine Sim.seq ?_ | refine Sim.region ?_ | refine Sim.block ?_ | refine Sim.skip ?_ | refine Sim.inBlock ?_ | refine Sim.exit rfl ?_ | refine Sim.condT rfl ?_ | refine Sim.condF rfl ?_)
    have hb12 := hb12.up h1214
    have hb13 := hb13.up h1214
    have hpr := hpr.up h1214
    have hels := hels.trans (Els.of_up h1214)
    have hs14 := h1214.size
    have hfv14 : SliceOf valLay (fun b => b < w5.heap.size) w14 (.slice fa t.vals.length fc) t.vals := (hfv.up h1214).mono fun b hb => by have := h25.size; have := hb.2; omega
    clear hfv ha19
    have hd := h514.trans (Up.drew w14)
    have h1 : Up w5 w14.drew ∧ At w14.drew b12 0 [.slice p1 pn1 pc1, .slice none 0 0, .slice p3 pn3 pc3] ∧ At w14.drew b19 0 [.string t.type, .string t.key, .slice fa t.vals.length fc] := ⟨hd, hb12.at.up (Up.drew _), hb19.at.up (Up.drew _)⟩
    have h2 : Up w5 w14.drew := hd
    refine Sim.ordD [14] (fun wq => Up w5 wq ∧ At wq b12 0 [.slice p1 pn1 pc1, .slice none 0 0, .slice p3 pn3 pc3] ∧ At wq b19 0 [.string t.type, .string t.key, .slice fa t.vals.length fc]) (Up w5) ?_ mixed
    refine RD.tk 0 ?_
    refine RD.tk 1 ?_ (hy := fun wq hq => y_loadF rfl hq.2.1 rfl)
    refine RD.tk 2 ?_
    refine RD.tk 3 ?_ (hy := fun wq hq => y_load0 rfl hq.2.2 rfl)
    refine RD.tk 4 ?_
    refine RD.tk 5 ?_ (hy := fun wq hq => y_loadF rfl hq.2.2 rfl)
    refine RD.tk 6 ?_
    refine RD.tk 7 ?_ (hy := fun wq hq => y_loadF rfl hq.2.2 rfl)
    refine RD.tk 8 ?_
    refine RD.tk 9 ?_ (hy := fun wq hq => y_sliceHi (i := cut) rfl rfl (by omega))
    refine RD.tk 10 ?_ (hy := fun wq hq => y_build (v := .agg #[.string t.type, .string t.key, .slice fa cut fc]) rfl (fun w => by kernel_rfl))
    have hb12 := hb12.up (Up.drew w14)
    have hb13 := hb13.up (Up.drew w14)
    have hb19 := hb19.up (Up.drew w14)
    have hpr := hpr.up (Up.drew w14)
    have hfvd := hfv14.up (Up.drew w14)
    have hels := hels.trans (Els.of_up (Up.drew w14))
    have hsd14 : w14.heap.size ≤ w14.drew.heap.size := (Up.drew w14).size
    have hl19 := hb19.lt
    have hprd := hpr
    refine RD.one 11 ?_
    refine RL.bu (el := 64) [.string t.type, .string t.key, .slice fa cut fc] hd fun b136 w15 he136 _ h515 h1415 hb136 => ?_
    have hb12 := hb12.up h1415
    refine RL.od h515 ⟨h515, hb12.at, (hb19.up h1415).at⟩ ?_
    refine RD.one 12 ?_
    have hpr := hpr.up h1415
    have hels := hels.trans (Els.of_up h1415)
    have hs15 : w14.drew.heap.size ≤ w15.heap.size := h1415.size
    have hel : thgLay.is (fun b => (b < w5.heap.size ∨ (w11.heap.size ≤ b ∧ some b ≠ Value.ownBlock (.slice p4 pn4 pc4))) ∧ some b ≠ Value.ownBlock (.slice p3 pn3 pc3)) w15 [.string t.type, .string t.key, .slice fa cut fc] (halfX true k t) := ⟨_, rfl, by
      have := ((hfvd.up h1415).take hcl).mono (S' := fun b => (b < w5.heap.size ∨ (w11.heap.size ≤ b ∧ some b ≠ Value.ownBlock (.slice p4 pn4 pc4))) ∧ some b ≠ Value.ownBlock (.slice p3 pn3 pc3)) fun b hb => ⟨.inl hb, hpr.fst.ne' (by omega)⟩
      rw [← hcut, half_take] at this
      rw [hcut] at this
      exact this⟩
    have hn136 : ∀ b, w14.drew.heap.size ≤ b → some b ≠ Value.ownBlock (.slice p3 pn3 pc3) ∧ some b ≠ Value.ownBlock (.slice p4 pn4 pc4) := fun b hb => ⟨hprd.fst.ne hb, hprd.snd.ne hb⟩
    refine RL.app (L := thgLay) (el := 64) (S := fun b => b < w5.heap.size ∨ (w11.heap.size ≤ b ∧ some b ≠ Value.ownBlock (.slice p4 pn4 pc4))) (B := w11.heap.size) (ys := [halfX true k t]) h515 hpr.fst (SliceOf.one hb136 ⟨.inr ⟨by omega, (hn136 b136 (by omega)).2⟩, (hn136 b136 (by omega)).1⟩ hel) (by simp only [List.length_map, List.length_cons, List.length_nil]; omega) (by omega) (by omega) fun v1' w16 h516 ho1 hg hv => ?_
    have hb12 := hb12.grown hg (hpr.fst.ne' (by omega))
    have hb13 := (hb13.up h1415).grown hg (hpr.fst.ne' (by omega))
    have hb19 := (hb19.up h1415).grown hg hq19.1
    have hels := hels.trans (Els.of_grown hg fun g hg' => .inr (.inr (hpr.fst.lt g hg').1))
    have hs16 := hg.size
    refine RL.od h516 ⟨h516, hb12.at, hb19.at⟩ ?_
    refine RD.tk 13 ?_ (h1 := ⟨h516, hb12.at, hb19.at⟩)
    refine RD.one 14 ?_
    obtain ⟨r1, rn1, rc1, rfl⟩ := ho1.sh
    have hpr := hpr.step hg ho1 hv
    refine RL.st h516 hb12 (by omega) fun w17 h517 hbt hb12 => ?_
    have hb12 : Box w17 b12 _ [.slice p1 pn1 pc1, .slice none 0 0, .slice r1 rn1 rc1] := hb12
    refine RL.ox h517 ?_
    refine RD.done (RL.nil ?_)
    have hels := hels.trans (Els.of_but hbt (.inl rfl))
    have hb13 := hb13.but hbt hn1213.symm
    have hb19 := hb19.but hbt (by omega)
    have hpr := hpr.but hbt (by omega) (by omega)
    clear h1 h2 hd
    obtain ⟨da, hda⟩ : ∃ da, dropV fa t.vals.length fc cut 3 = .slice da (t.vals.length - cut) (fc - cut) := ⟨_, rfl⟩
    have hdd : t.vals.drop cut = half false k t.vals := by rw [← hcut]; exact half_drop k t.vals
    have hs17 := hbt.size
    have hfv17 : SliceOf valLay (fun b => b < w5.heap.size) w17 (.slice fa t.vals.length fc) t.vals := (hfvd.up h1415).keep fun b hb hlt => (hbt.block b (by omega) (by omega)).trans (hg.block b hlt (hprd.fst.ne' (by omega)))
    have hl19' := hb19.lt
    clear hel hg hbt hb136 ho1 hprd hfvd hfv14
    repeat (first | refine RL.vv ?_ | refine RL.p ?_ | refine RL.nil ?_ | refine Sim.seq ?_ | refine Sim.region ?_ | refine Sim.block ?_ | refine Sim.skip ?_ | refine Sim.inBlock ?_ | refine Sim.exit rfl ?_ | refine Sim.condT rfl ?_ | refine Sim.condF rfl ?_)
    have hd := h517.trans (Up.drew w17)
    have h1 : Up w5 w17.drew ∧ At w17.drew b13 0 [.slice p2 pn2 pc2, .slice none 0 0, .slice p4 pn4 pc4] ∧ At w17.drew b19 0 [.string t.type, .string t.key, .slice fa t.vals.length fc] := ⟨hd, hb13.at.up (Up.drew _), hb19.at.up (Up.drew _)⟩
    have h2 : Up w5 w17.drew := hd
    refine Sim.ordD [14] (fun wq => Up w5 wq ∧ At wq b13 0 [.slice p2 pn2 pc2, .slice none 0 0, .slice p4 pn4 pc4] ∧ At wq b19 0 [.string t.type, .string t.key, .slice fa t.vals.length fc]) (Up w5) ?_ mixed
    refine RD.tk 0 ?_
    refine RD.tk 1 ?_ (hy := fun wq hq => y_loadF rfl hq.2.1 rfl)
    refine RD.tk 2 ?_
    refine RD.tk 3 ?_ (hy := fun wq hq => y_load0 rfl hq.2.2 rfl)
    refine RD.tk 4 ?_
    refine RD.tk 5 ?_ (hy := fun wq hq => y_loadF rfl hq.2.2 rfl)
    refine RD.tk 6 ?_
    refine RD.tk 7 ?_ (hy := fun wq hq => y_loadF rfl hq.2.2 rfl)
    refine RD.tk 8 ?_
    refine RD.tk 9 ?_ (v := .slice da (t.vals.length - cut) (fc - cut)) (hy := fun wq hq => by rw [← hda]; exact y_sliceLo (i := cut) (k := 3) rfl rfl hcl hfnc)
    refine RD.tk 10 ?_ (hy := fun wq hq => y_build (v := .agg #[.string t.type, .string t.key, .slice da (t.vals.length - cut) (fc - cut)]) rfl (fun w => by kernel_rfl))
    have hb12 := hb12.up (Up.drew w17)
    have hb13 := hb13.up (Up.drew w17)
    have hb19 := hb19.up (Up.drew w17)
    have hpr := hpr.up (Up.drew w17)
    have hfvd := hfv17.up (Up.drew w17)
    have hels := hels.trans (Els.of_up (Up.drew w17))
    have hsd : w17.heap.size ≤ w17.drew.heap.size := (Up.drew w17).size
    have hprd := hpr
    refine RD.one 11 ?_
    refine RL.bu (el := 64) [.string t.type, .string t.key, .slice da (t.vals.length - cut) (fc - cut)] hd fun b150 w18 he150 _ h518 h1718 hb150 => ?_
    have hb13 := hb13.up h1718
    refine RL.od h518 ⟨h518, hb13.at, (hb19.up h1718).at⟩ ?_
    refine RD.one 12 ?_
    have hpr := hpr.up h1718
    have hels := hels.trans (Els.of_up h1718)
    have hs18 : w17.drew.heap.size ≤ w18.heap.size := h1718.size
    have hel : thgLay.is (fun b => (b < w5.heap.size ∨ (w11.heap.size ≤ b ∧ some b ≠ Value.ownBlock (.slice r1 rn1 rc1))) ∧ some b ≠ Value.ownBlock (.slice p4 pn4 pc4)) w18 [.string t.type, .string t.key, .slice da (t.vals.length - cut) (fc - cut)] (halfX false k t) := ⟨_, rfl, by
      have := ((hfvd.up h1718).drop hcl).mono (S' := fun b => (b < w5.heap.size ∨ (w11.heap.size ≤ b ∧ some b ≠ Value.ownBlock (.slice r1 rn1 rc1))) ∧ some b ≠ Value.ownBlock (.slice p4 pn4 pc4)) fun b hb => ⟨.inl hb, hpr.snd.ne' (by omega)⟩
      rw [hdd] at this
      rw [← hda]
      exact this⟩
    have hn150 : ∀ b, w17.drew.heap.size ≤ b → some b ≠ Value.ownBlock (.slice r1 rn1 rc1) ∧ some b ≠ Value.ownBlock (.slice p4 pn4 pc4) := fun b hb => ⟨hprd.fst.ne hb, hprd.snd.ne hb⟩
    refine RL.app (L := thgLay) (el := 64) (S := fun b => b < w5.heap.size ∨ (w11.heap.size ≤ b ∧ some b ≠ Value.ownBlock (.slice r1 rn1 rc1))) (B := w11.heap.size) (ys := [halfX false k t]) h518 hpr.snd (SliceOf.one hb150 ⟨.inr ⟨by omega, (hn150 b150 (by omega)).1⟩, (hn150 b150 (by omega)).2⟩ hel) (by simp only [List.length_map, List.length_cons, List.length_nil]; omega) (by omega) (by omega) fun v2' w19 h519 ho2 hg hv => ?_
    have hb12 := (hb12.up h1718).grown hg (hpr.snd.ne' (by omega))
    have hb13 := hb13.grown hg (hpr.snd.ne' (by omega))
    have hb19 := (hb19.up h1718).grown hg hq19.2
    have hels := hels.trans (Els.of_grown hg fun g hg' => .inr (.inr (hpr.snd.lt g hg').1))
    have hs19 := hg.size
    refine RL.od h519 ⟨h519, hb13.at, hb19.at⟩ ?_
    refine RD.tk 13 ?_ (h1 := ⟨h519, hb13.at, hb19.at⟩)
    refine RD.one 14 ?_
    obtain ⟨r2, rn2, rc2, rfl⟩ := ho2.sh
    have hpr := (hpr.symm.step hg ho2 hv).symm
    refine RL.st h519 hb13 (by omega) fun w20 h520 hbt hb13 => ?_
    have hb13 : Box w20 b13 _ [.slice p2 pn2 pc2, .slice none 0 0, .slice r2 rn2 rc2] := hb13
    refine RL.ox h520 ?_
    refine RD.done (RL.nil ?_)
    have hb12 := hb12.but hbt hn1213
    have hels := hels.trans (Els.of_but hbt (.inr (.inl rfl)))
    have hpr := hpr.but hbt (by omega) (by omega)
    clear h1 h2 hd
    repeat (first | refine RL.vv ?_ | refine RL.p ?_ | refine RL.nil ?_ | refine Sim.seq ?_ | refine Sim.region ?_ | refine Sim.block ?_ | refine Sim.skip ?_ | refine Sim.inBlock ?_ | refine Sim.exit rfl ?_ | refine Sim.condT rfl ?_ | refine Sim.condF rfl ?_)
    exact next (i + 1, .slice r1 rn1 rc1, .slice r2 rn2 rc2) _ _ ⟨by first | omega | (simp only; omega), h520, hels, hb12, hb13, by simp only; rw [htk, List.map_append, List.map_append]; exact hpr⟩ (by first | omega | (simp only; omega)) sb
  obtain rfl : i = s.things.length := by omega
  clear next
  rw [List.take_length] at hpr
  have hel1 : svcLay.is (fun b => b ≠ b12 ∧ b ≠ b13 ∧ b < w12.heap.size) w12 [.slice p1 pn1 pc1, .slice none 0 0, .slice p3 pn3 pc3] (halfS true k s) := ⟨_, _, _, rfl,
    (hty1.keep (hels.keepS fun b hb _ => by have h1 := hb.1; have h2 := hb.2; omega)).mono fun b hb => ⟨hb.2.1, hb.2.2, by have := hb.1; omega⟩, SliceOf.nil _ _ _,
    hpr.fst.sl (fun b hb hlt _ => ⟨by rcases hb with hb | hb <;> omega, by rcases hb with hb | hb <;> omega, hlt⟩) fun g hg => by have := hpr.fst.lt g hg; omega⟩
  have hel2 : svcLay.is (fun b => b ≠ b12 ∧ b ≠ b13 ∧ b < w12.heap.size) w12 [.slice p2 pn2 pc2, .slice none 0 0, .slice p4 pn4 pc4] (halfS false k s) := ⟨_, _, _, rfl,
    (hty2.keep (hels.keepS fun b hb _ => by have h1 := hb.1; have h2 := hb.2; omega)).mono fun b hb => ⟨hb.2.1, hb.2.2, by have := hb.1; omega⟩, SliceOf.nil _ _ _,
    hpr.snd.sl (fun b hb hlt _ => ⟨by rcases hb with hb | hb <;> omega, by rcases hb with hb | hb <;> omega, hlt⟩) fun g hg => by have := hpr.snd.lt g hg; omega⟩
  have hl12w := hb12.lt
  have hl13w := hb13.lt
  have hs512 := h512.size
  clear hty1 hty2 hels hpr hm hm12 hmt
  repeat (first | refine RL.vv ?_ | refine RL.p ?_ | refine RL.nil ?_ | refine Sim.seq ?_ | refine Sim.region ?_ | refine Sim.block ?_ | refine Sim.skip ?_ | refine Sim.inBlock ?_ | refine Sim.exit rfl ?_ | refine Sim.condT rfl ?_ | refine Sim.condF rfl ?_)
  refine RL.bu (el := 31) [] h512 fun b154 w13 he154 hle154 h513 h1213 hb154 => ?_
  refine RL.vv ?_
  have hn154 : ∀ b, b < w12.heap.size → some b ≠ Value.ownBlock (.slice (some ⟨b154, 0, none⟩) 0 0) := fun b hb e => by simp [Value.ownBlock] at e; omega
  have hll : SliceOf svcLay (fun b => b < w12.heap.size) w13 (.slice (some ⟨svb, so, none⟩) l.length lc) l := ((hl.old.up (hu.trans (h25.trans h513)))).mono fun b hb => by have := hu.size; have := h25.size; have := hb.2; omega
  refine RL.app (L := svcLay) (el := 31) (S := fun b => b < w12.heap.size) (B := w12.heap.size) (xs := []) (ys := l) h513 (Own.empty svcLay hb154 (Nat.le_of_eq he154.symm)) (hll.mono fun b hb => ⟨hb, hn154 b hb⟩) (by simp only [List.length_nil, Nat.zero_add]; omega) hs512 h1213.size fun mv w14 h514 ho hg hv => ?_
  rw [List.nil_append] at ho
  obtain ⟨pg, pc, rfl⟩ := ho.pos (by omega)
  have hb12 := (hb12.up h1213).grown hg (hn154 b12 hl12w)
  have hb13 := (hb13.up h1213).grown hg (hn154 b13 hl13w)
  have hs1213 := h1213.size
  have hs1314 := hg.size
  have hk14 : Keep (fun b => b ≠ b12 ∧ b ≠ b13 ∧ b < w12.heap.size) w12 w14 := fun b hb hlt => (hg.block b (by omega) (hn154 b hb.2.2)).trans (h1213.block hlt)
  have hel1 := svcLay.keep hel1 hk14
  have hel2 := svcLay.keep hel2 hk14
  have ha12 := hb12.at
  have hpg := ho.lt pg rfl
  clear hll hg hv hk14 hb154
  repeat (first | refine RL.vv ?_ | refine RL.p ?_ | refine RL.nil ?_ | refine Sim.seq ?_ | refine Sim.region ?_ | refine Sim.block ?_ | refine Sim.skip ?_ | refine Sim.inBlock ?_ | refine Sim.exit rfl ?_ | refine Sim.condT rfl ?_ | refine Sim.condF rfl ?_)
  refine RL.putE (L := svcLay) (el := 31) (i := n) (k := 3) (x' := halfS true k s) (news := [.slice p1 pn1 pc1, .slice none 0 0, .slice p3 pn3 pc3]) h514 ho hs512 hnl (svcLay.mono hel1 fun b hb => ⟨hb.2.2, ho.ne' hb.2.2⟩) fun w15 h515 hbt ho => ?_
  have hb13 := hb13.but hbt (by omega)
  have hel2 := svcLay.keep hel2 (fun b hb hlt => hbt.block b hlt (by have := hb.2.2; omega))
  have ha13 := hb13.at
  have hs15 := hbt.size
  clear ha12 hb12
  repeat (first | refine RL.vv ?_ | refine RL.p ?_ | refine RL.nil ?_ | refine Sim.seq ?_ | refine Sim.region ?_ | refine Sim.block ?_ | refine Sim.skip ?_ | refine Sim.inBlock ?_ | refine Sim.exit rfl ?_ | refine Sim.condT rfl ?_ | refine Sim.condF rfl ?_)
  refine RL.bu (el := 31) [.slice p2 pn2 pc2, .slice none 0 0, .slice p4 pn4 pc4] h515 fun b163 w16 he163 hle163 h516 h1516 hb163 => ?_
  have ho16 := ho.up h1516
  have hs1516 := h1516.size
  have hlset : (l.set n (halfS true k s)).length = l.length := List.length_set
  refine RL.app (L := svcLay) (el := 31) (S := fun b => b < w12.heap.size ∨ b = b163) (B := w12.heap.size) (ys := [halfS false k s]) h516 (ho16.shift fun b hb _ _ => .inl hb) (SliceOf.one hb163 ⟨.inr rfl, ho.ne (by omega)⟩ (svcLay.mono (svcLay.keep hel2 (.of_up h1516)) fun b hb => ⟨.inl hb.2.2, ho16.ne' hb.2.2⟩)) (by rw [hlset]; simp only [List.length_cons, List.length_nil]; omega) hs512 (by omega) fun mv2 w17 h517 ho2 hg hv => ?_
  have hml : l.set n (halfS true k s) ++ [halfS false k s] = l.take n ++ halfS true k s :: l.drop (n + 1) ++ [halfS false k s] := by
    rw [List.set_eq_take_append_cons_drop, if_pos hnl]
  have hm2 := ho2.sl (S' := fun _ => True) (fun _ _ _ _ => trivial) fun _ _ => trivial
  rw [hml] at hm2
  have hu17 := hu.trans (h25.trans h517)
  have hb5 := hb5.up h517
  have ha5 := hb5.at
  have hokm : ∀ x ∈ l.take n ++ halfS true k s :: l.drop (n + 1) ++ [halfS false k s], okSvc x := fun x hx => by
    simp only [List.mem_append, List.mem_cons, List.not_mem_nil, or_false] at hx
    rcases hx with (hx | rfl | hx) | rfl
    · exact hok x (List.mem_of_mem_take hx)
    · exact ok_halfS (hok s hsm)
    · exact hok x (List.mem_of_mem_drop hx)
    · exact ok_halfS (hok s hsm)
  obtain ⟨ma, mc, rfl, _⟩ := id hm2
  have hmean : meanM (m + 1) (l.take n ++ halfS true k s :: l.drop (n + 1) ++ [halfS false k s]) q = meanM (m + 1) l q := by
    have he' : (allM (l.take n ++ s :: l.drop (n + 1))).2.err = 0 := by rw [← hlsplit]; exact he
    have := moved_mean (k := k) he' hch0 (by rw [← hlsplit]; omega) (m + 1) q
    rw [← hlsplit] at this
    exact this
  generalize l.take n ++ halfS true k s :: l.drop (n + 1) ++ [halfS false k s] = l2 at *
  clear hel1 hel2 ho ho16 ho2 hg hv hbt hb13 ha13 hb163 hb5 hml hlset
  repeat (first | refine RL.vv ?_ | refine RL.p ?_ | refine RL.nil ?_ | refine Sim.seq ?_ | refine Sim.region ?_ | refine Sim.block ?_ | refine Sim.skip ?_ | refine Sim.inBlock ?_ | refine Sim.exit rfl ?_ | refine Sim.condT rfl ?_ | refine Sim.condF rfl ?_)
  refine RL.cx (Run_any q w17 (hl.up hu17) hok (hps.up hu17)) ?_
  rintro _ w18 ⟨v, rv, rfl, h1718, hsg, hrg⟩
  refine ⟨_, rfl, ?_⟩
  have ha5 := ha5.up h1718
  have hu18 := hu17.trans h1718
  obtain ⟨xa, xc, rfl, _⟩ := id hsg
  obtain ⟨ra, rc, rfl, _⟩ := id hrg
  clear hrg
  repeat (first | refine RL.vv ?_ | refine RL.p ?_ | refine RL.nil ?_ | refine Sim.seq ?_ | refine Sim.region ?_ | refine Sim.block ?_ | refine Sim.skip ?_ | refine Sim.inBlock ?_ | refine Sim.exit rfl ?_ | refine Sim.condT rfl ?_ | refine Sim.condF rfl ?_)
  refine RL.cx (Run_any q w18 (hm2.up h1718) hokm (hps.up hu18)) ?_
  rintro _ w19 ⟨v', rv', rfl, h1819, hsg2, hrg2⟩
  refine ⟨_, rfl, ?_⟩
  have hu19 := hu18.trans h1819
  have hsg := hsg.up h1819
  have hsg2 := hsg2.mono (S' := fun _ => True) fun _ _ => trivial
  obtain ⟨m1, m2, _⟩ := run_means m l q
  obtain ⟨m3, m4, _⟩ := run_means m l2 q
  rw [hmean] at m3 m4
  rw [m2] at hsg
  rw [m4] at hsg2
  rw [m1, m2, m3]
  obtain ⟨xa', xc', rfl, _⟩ := id hsg2
  obtain ⟨ra', rc', rfl, _⟩ := id hrg2
  clear hrg2 m1 m2 m3 m4
  have e0 : (meanM (m + 1) l q).2 = (meanM (m + 1) l q).2 := rfl
  repeat (first | refine RL.vv ?_ | refine RL.p ?_ | refine RL.nil ?_ | refine Sim.seq ?_ | refine Sim.region ?_ | refine Sim.block ?_ | refine Sim.skip ?_ | refine Sim.inBlock ?_ | refine Sim.exit rfl ?_ | refine Sim.condT rfl ?_ | refine Sim.condF rfl ?_)
  refine RL.cu hu19 (SameGot_any (m + 2) w19 hsg hsg2) fun w20 hu20 _ => ?_
  repeat (first | refine RL.vv ?_ | refine RL.p ?_ | refine RL.nil ?_ | refine Sim.seq ?_ | refine Sim.region ?_ | refine Sim.block ?_ | refine Sim.skip ?_ | refine Sim.inBlock ?_ | refine Sim.exit rfl ?_ | refine Sim.condT rfl ?_ | refine Sim.condF rfl ?_)
  exact Sim.ret1 Try.func9 rfl rfl ⟨rfl, hu20⟩
end Go.Proofs.Ytgckpmcdlciibac
