/- The walk of MergeRight. -/
import Derived.Test.YtgckpmcdlciibabZS
import Derived.Test.YtgckpmcdlciibabZR
import Derived.Test.YtgckpmcdlciibabZJ
namespace Go.Proofs.Ytgckpmcdlciibab
open Go.RowKit
theorem y_geqS {P : Program} {e : Env} {w : World} {ty t u : TypeId} {x y : Operand} {a b : ByteArray} (hx : e.ev x = some (.string a)) (hy : e.ev y = some (.string b)) : Yld P (.binOp .geq t x y u) ty e w (.bool (!strLt a b)) := Yld.mk fun ρ hρ => by
  have h2 : Op.bytesLess a.toList b.toList = strLt a b := by rw [ByteArray.toList_eq, ByteArray.toList_eq]; rfl
  simp [xop, execOp, hρ x _ hx, hρ y _ hy, eqGuard, binOp, Op.stringOp, h2]
theorem y_geqSF {P : Program} {e : Env} {w : World} {ty t u : TypeId} {x y : Operand} {a b : ByteArray} (h : strLt a b = true) (hx : e.ev x = some (.string a)) (hy : e.ev y = some (.string b)) : Yld P (.binOp .geq t x y u) ty e w (.bool false) := by
  have := y_geqS (P := P) (w := w) (ty := ty) (t := t) (u := u) hx hy
  rwa [h] at this
set_option maxHeartbeats 4000000 in
theorem MergeRight_walk {S : Nat → Prop} {lv : Value} {l : List Svc} (w : World) (hl : SliceOf svcLay S w lv l) :
    Calls Try.prog 9 #[lv] w fun en w' => en = .returned (.bool true) ∧ Up w w' := by
  refine calls_of_sim Try.func9 rfl (Nat.le_of_ble_eq_true rfl) ?_
  obtain ⟨la, lc, rfl, hlnc, hlcm, _⟩ := id hl
  unfold maxLen at hlcm
  repeat (first | refine RL.vv ?_ | refine RL.p ?_ | refine RL.nil ?_ | refine Sim.seq ?_ | refine Sim.region ?_ | refine Sim.block ?_ | refine Sim.skip ?_ | refine Sim.inBlock ?_ | refine Sim.exit rfl ?_ | refine Sim.condT rfl ?_ | refine Sim.condF rfl ?_)
  refine RL.cu (.refl w) (alive3_any w) fun w1 hu _ => ?_
  repeat (first | refine RL.vv ?_ | refine RL.p ?_ | refine RL.nil ?_ | refine Sim.seq ?_ | refine Sim.region ?_ | refine Sim.block ?_ | refine Sim.skip ?_ | refine Sim.inBlock ?_ | refine Sim.exit rfl ?_ | refine Sim.condT rfl ?_ | refine Sim.condF rfl ?_)
  refine RL.cx (MAll_any w1 (hl.up hu)) ?_
  rintro _ w2 ⟨pv, rfl, h12, hds, lab, hp⟩
  refine ⟨_, rfl, ?_⟩
  have hu := hu.trans h12
  unfold fltV
  have hs := hp.parts.mono (S' := fun k => k < w2.heap.size) fun _ h => h.2
  obtain ⟨pa, pc, rfl, hpnc, hpcm, _⟩ := id hs
  unfold maxLen at hpcm
  repeat (first | refine RL.vv ?_ | refine RL.p ?_ | refine RL.nil ?_ | refine Sim.seq ?_ | refine Sim.region ?_ | refine Sim.block ?_ | refine Sim.skip ?_ | refine Sim.inBlock ?_ | refine Sim.exit rfl ?_ | refine Sim.condT rfl ?_ | refine Sim.condF rfl ?_)
  refine RL.al (.refl w2) fun b4 w3 _ hle4 h23 _ hb4 => ?_
  repeat (first | refine RL.vv ?_ | refine RL.p ?_ | refine RL.nil ?_ | refine Sim.seq ?_ | refine Sim.region ?_ | refine Sim.block ?_ | refine Sim.skip ?_ | refine Sim.inBlock ?_ | refine Sim.exit rfl ?_ | refine Sim.condT rfl ?_ | refine Sim.condF rfl ?_)
  refine RL.st h23 hb4 hle4 fun w4 h24 _ hb4 => ?_
  have hb4 : Box w4 b4 _ [.int .i64 (allM l).2.err, .int .i64 (allM l).2.at_] := hb4
  have hu := hu.trans h24
  have hs := hs.up h24
  have ha4 := hb4.at
  clear h12 h23 h24 hp
  by_cases he : (allM l).2.err = 0
  rotate_left
  · have hz : ((allM l).1.length : Int) = 0 := by rw [allM_err he]; rfl
    repeat (first | refine RL.vv ?_ | refine RL.p ?_ | refine RL.nil ?_ | refine Sim.seq ?_ | refine Sim.region ?_ | refine Sim.block ?_ | refine Sim.skip ?_ | refine Sim.inBlock ?_ | refine Sim.exit rfl ?_ | refine Sim.condT rfl ?_ | refine Sim.condF rfl ?_)
    exact Sim.ret1 Try.func9 rfl rfl ⟨rfl, hu⟩
  have hcanon := (allM_canon he).1
  have hpf := fun p hp k f => part_field (l := l) he (p := p) hp (k := k) (f := f)
  have hpl := fun p hp => prt_len (l := l) he (p := p) hp
  have hph := fun p hp => part_homes (l := l) he (p := p) hp
  have hpn := fun p hp => part_nodup (l := l) he (p := p) hp
  have hpt := fun p hp k f => part_type (l := l) he (p := p) hp (k := k) (f := f)
  generalize hps : (allM l).1 = ps at *
  repeat (first | refine RL.vv ?_ | refine RL.p ?_ | refine RL.nil ?_ | refine Sim.seq ?_ | refine Sim.region ?_ | refine Sim.block ?_ | refine Sim.skip ?_ | refine Sim.inBlock ?_ | refine Sim.exit rfl ?_ | refine Sim.condT rfl ?_ | refine Sim.condF rfl ?_)
  refine Sim.loop (σ := Nat) (fun i => [(0, .slice la l.length lc), (3, .slice pa ps.length pc), (29, .slice pa ps.length pc), (30, .int .i64 (ps.length : Int)), (31, .int .i64 (i : Int))]) (fun i w' => i ≤ ps.length ∧ Up w4 w') (fun i => ps.length - i) 0 sb ⟨Nat.zero_le _, .refl _⟩ ?_
  clear hb4 ha4
  rintro i w5 ⟨hi, h45⟩ next
  by_cases hlt : i < ps.length
  rotate_left
  · repeat (first | refine RL.vv ?_ | refine RL.p ?_ | refine RL.nil ?_ | refine Sim.seq ?_ | refine Sim.region ?_ | refine Sim.block ?_ | refine Sim.skip ?_ | refine Sim.inBlock ?_ | refine Sim.exit rfl ?_ | refine Sim.condT rfl ?_ | refine Sim.condF rfl ?_)
    exact Sim.ret1 Try.func9 rfl rfl ⟨rfl, hu.trans h45⟩
  have hx : ps[i]? = some ps[i] := List.getElem?_eq_getElem hlt
  have hrise : ∀ q, ps[i - 1]? = some q → 0 < i → strLt q.type.name ps[i].type.name = true := fun q hq h0 => hcanon.sorted.lt (by omega) hq hx
  have hmem := List.mem_of_getElem? hx
  have hs5 := hs.up h45
  obtain ⟨pb, po, cs, rfl, _, hat, ⟨fv, ov, hv, rfl, hfv, hov, hhv⟩, _⟩ := hs5.at hx
  have hat : At w5 pb (po + i * 4) _ := hat
  have hprev : 0 < i → ∃ q, ps[i - 1]? = some q ∧ ∃ v1 v2 v3, At w5 pb (po + (i - 1) * 4) [.string q.type.name, v1, v2, v3] := fun h0 => by
    have hq : ps[i - 1]? = some (ps[i - 1]'(by omega)) := List.getElem?_eq_getElem (by omega)
    obtain ⟨pb', po', cs, hee, _, hat', ⟨fv', ov', hv', rfl, _⟩, _⟩ := hs5.at hq
    simp only [Option.some.injEq, Addr.mk.injEq, and_true] at hee
    obtain ⟨rfl, rfl⟩ := hee
    exact ⟨_, hq, _, _, _, hat'⟩
  generalize ps[i] = p at *
  have hpl := hpl p hmem
  have hph := hph p hmem
  have hpn := hpn p hmem
  have hpf := hpf p hmem
  have hpt := hpt p hmem
  have hhl : 0 < p.homes.length := List.length_pos_iff.2 hph
  obtain ⟨fa, fc, rfl, hfnc, hfcm, _⟩ := id hfv
  obtain ⟨oa, oc, rfl, _⟩ := id hov
  obtain ⟨ha, hc, rfl, _⟩ := id hhv
  unfold maxLen at hfcm
  repeat (first | refine RL.vv ?_ | refine RL.p ?_ | refine RL.nil ?_ | refine Sim.seq ?_ | refine Sim.region ?_ | refine Sim.block ?_ | refine Sim.skip ?_ | refine Sim.inBlock ?_ | refine Sim.exit rfl ?_ | refine Sim.condT rfl ?_ | refine Sim.condF rfl ?_)
  refine RL.al (.refl w5) fun b6 w6 _ hle6 h56 _ hb6 => ?_
  repeat (first | refine RL.vv ?_ | refine RL.p ?_ | refine RL.nil ?_ | refine Sim.seq ?_ | refine Sim.region ?_ | refine Sim.block ?_ | refine Sim.skip ?_ | refine Sim.inBlock ?_ | refine Sim.exit rfl ?_ | refine Sim.condT rfl ?_ | refine Sim.condF rfl ?_)
  refine RL.st h56 hb6 hle6 fun w7 h57 _ hb6 => ?_
  have hb6 : Box w7 b6 _ [.string p.type.name, .slice fa p.type.fields.length fc, .slice oa p.owners.length oc, .slice ha p.homes.length hc] := hb6
  have ha6 := hb6.at
  clear h56
  repeat (first | refine RL.vv ?_ | refine RL.p ?_ | refine RL.nil ?_ | refine Sim.seq ?_ | refine Sim.region ?_ | refine Sim.block ?_ | refine Sim.skip ?_ | refine Sim.inBlock ?_ | refine Sim.exit rfl ?_ | refine Sim.condT rfl ?_ | refine Sim.condF rfl ?_)
  have hol : (p.owners.length : Int) = p.type.fields.length := by omega
  have hhz : ¬ (p.homes.length : Int) = 0 := by omega
  refine Sim.cutX (σ := Unit) (fun _ => [(0, .slice la l.length lc), (3, .slice (some ⟨pb, po, none⟩) ps.length pc), (29, .slice (some ⟨pb, po, none⟩) ps.length pc), (30, .int .i64 (ps.length : Int)), (31, .int .i64 (i : Int)), (6, .pointer (some ⟨b6, 0, none⟩)), (66, .bool false)]) (fun _ w' => Up w7 w') (fun k' next2 => ?_) ?_
  · by_cases h0 : 0 < i
    · obtain ⟨q, hq, v1, v2, v3, hpat⟩ := hprev h0
      have hst := hrise q hq h0
      have hpat := hpat.up h57
      have h0i : (0 : Int) < (i : Int) := by omega
      refine Sim.q ?_
      repeat (first | refine RQ.vv ?_ | refine RQ.p ?_)
      refine RQ.vv ?_ (hy := fun wq hq => y_sub (a := (i : Int)) (b := 1) (d := ((i - 1 : Nat) : Int)) rfl rfl (by omega) (by omega) (by omega))
      repeat (first | refine RQ.vv ?_ | refine RQ.p ?_)
      refine RQ.vv ?_ (hy := fun wq hq => y_geqSF hst rfl rfl)
      repeat (first | refine RQ.vv ?_ | refine RQ.p ?_)
      refine RQ.nil fun w8 hq => ?_
      exact next2 () _ _ hq sb
    · have h0i : ¬ (0 : Int) < (i : Int) := by omega
      refine Sim.q ?_
      repeat (first | refine RQ.vv ?_ | refine RQ.p ?_)
      refine RQ.nil fun w8 hq => ?_
      exact next2 () _ _ hq sb
  rintro ⟨⟩ w8 h78
  have hu8 := (hu.trans h45).trans (h57.trans h78)
  have h48 := h45.trans (h57.trans h78)
  have ha6 := ha6.up h78
  have hfv := (hfv.up h57).up h78
  have hov := (hov.up h57).up h78
  clear hprev hat hhv hb6 hrise
  repeat (first | refine RL.vv ?_ | refine RL.p ?_ | refine RL.nil ?_ | refine Sim.seq ?_ | refine Sim.region ?_ | refine Sim.block ?_ | refine Sim.skip ?_ | refine Sim.inBlock ?_ | refine Sim.exit rfl ?_ | refine Sim.condT rfl ?_ | refine Sim.condF rfl ?_)
  refine Sim.loop (σ := Nat) (fun k => [(0, .slice la l.length lc), (3, .slice (some ⟨pb, po, none⟩) ps.length pc), (29, .slice (some ⟨pb, po, none⟩) ps.length pc), (30, .int .i64 (ps.length : Int)), (31, .int .i64 (i : Int)), (6, .pointer (some ⟨b6, 0, none⟩)), (69, .slice fa p.type.fields.length fc), (70, .int .i64 (p.type.fields.length : Int)), (71, .int .i64 (k : Int))]) (fun k w' => k ≤ p.type.fields.length ∧ Up w8 w') (fun k => p.type.fields.length - k) 0 sb ⟨Nat.zero_le _, .refl _⟩ ?_
  rintro k w9 ⟨hk, h89⟩ next2
  by_cases hkl : k < p.type.fields.length
  rotate_left
  · repeat (first | refine RL.vv ?_ | refine RL.p ?_ | refine RL.nil ?_ | refine Sim.seq ?_ | refine Sim.region ?_ | refine Sim.block ?_ | refine Sim.skip ?_ | refine Sim.inBlock ?_ | refine Sim.exit rfl ?_ | refine Sim.condT rfl ?_ | refine Sim.condF rfl ?_)
    exact next (i + 1) _ _ ⟨by omega, h48.trans h89⟩ (by omega) sb
  have hfk : p.type.fields[k]? = some p.type.fields[k] := List.getElem?_eq_getElem hkl
  have hu9 := hu8.trans h89
  have ha6 := ha6.up h89
  have hfv9 := hfv.up h89
  obtain ⟨fb, fo, cs, rfl, _, hfat, rfl, _⟩ := hfv9.at hfk
  have hfat : At w9 fb (fo + k * 3) _ := hfat
  have hfat0 := fieldF_at hpn hfk
  obtain ⟨o, si, s, q, t, m, hok, hob⟩ := hpf k _ hfk
  have hty := hpt k _ hfk
  obtain ⟨ob, oo, cs, rfl, _, hoat, rfl, _⟩ := (hov.up h89).at hok
  have hoat : At w9 ob (oo + k * 3) _ := hoat
  have hkol : k < p.owners.length := (List.getElem?_eq_some_iff.1 hok).1
  generalize p.type.fields[k] = f at *
  repeat (first | refine RL.vv ?_ | refine RL.p ?_ | refine RL.nil ?_ | refine Sim.seq ?_ | refine Sim.region ?_ | refine Sim.block ?_ | refine Sim.skip ?_ | refine Sim.inBlock ?_ | refine Sim.exit rfl ?_ | refine Sim.condT rfl ?_ | refine Sim.condF rfl ?_)
  refine RL.al (.refl w9) fun b8 w10 _ hle8 h910 _ hb8 => ?_
  repeat (first | refine RL.vv ?_ | refine RL.p ?_ | refine RL.nil ?_ | refine Sim.seq ?_ | refine Sim.region ?_ | refine Sim.block ?_ | refine Sim.skip ?_ | refine Sim.inBlock ?_ | refine Sim.exit rfl ?_ | refine Sim.condT rfl ?_ | refine Sim.condF rfl ?_)
  refine RL.st h910 hb8 hle8 fun w11 h911 _ hb8 => ?_
  have hb8 : Box w11 b8 _ [.string f.name, .int .i64 f.kind, .string f.type] := hb8
  have hu11 := hu9.trans h911
  have ha6 := ha6.up h911
  have ha8 := hb8.at
  have hoat := hoat.up h911
  have hfv11 := hfv9.up h911
  have hs11 := hs.up ((h48.trans h89).trans h911)
  clear h910 hfat hb8
  have hneq : ¬ ¬ (k : Int) = (k : Int) := fun h => h rfl
  have hpt1 := hty.2.2.2
  refine RL.nil ?_
  repeat refine Sim.seq ?_
  refine Sim.cutX (σ := Unit) (fun _ => [(0, .slice la l.length lc), (3, .slice (some ⟨pb, po, none⟩) ps.length pc), (29, .slice (some ⟨pb, po, none⟩) ps.length pc), (30, .int .i64 (ps.length : Int)), (31, .int .i64 (i : Int)), (6, .pointer (some ⟨b6, 0, none⟩)), (69, .slice (some ⟨fb, fo, none⟩) p.type.fields.length fc), (70, .int .i64 (p.type.fields.length : Int)), (71, .int .i64 (k : Int)), (7, .int .i64 (k : Int)), (8, .pointer (some ⟨b8, 0, none⟩)), (95, .bool false)]) (fun _ w' => Up w11 w') (fun k' next3 => ?_) ?_
  · by_cases hk1 : f.kind = 1
    · have hk1' : ¬ ¬ f.kind = 1 := fun h => h hk1
      repeat (first | refine RL.vv ?_ | refine RL.p ?_ | refine RL.nil ?_ | refine Sim.seq ?_ | refine Sim.region ?_ | refine Sim.block ?_ | refine Sim.skip ?_ | refine Sim.inBlock ?_ | refine Sim.exit rfl ?_ | refine Sim.condT rfl ?_ | refine Sim.condF rfl ?_)
      refine RL.cu (.refl w11) (c_val (Field_any f.name w11 hfv11) (by rw [hfat0])) fun w12 _ h1112 => ?_
      have ha6 := ha6.up h1112
      have ha8 := ha8.up h1112
      repeat (first | refine RL.vv ?_ | refine RL.p ?_ | refine RL.nil ?_ | refine Sim.seq ?_ | refine Sim.region ?_ | refine Sim.block ?_ | refine Sim.skip ?_ | refine Sim.inBlock ?_ | refine Sim.exit rfl ?_ | refine Sim.condT rfl ?_ | refine Sim.condF rfl ?_)
      exact next3 () _ _ h1112 sb
    · have h5 : ¬ partF ps f.type < 0 := by
        have := find_mem (l := ps) (g := fun p : Prt => p.type.name) (n := f.type) |>.2 (hpt1 hk1)
        unfold partF
        omega
      repeat (first | refine RL.vv ?_ | refine RL.p ?_ | refine RL.nil ?_ | refine Sim.seq ?_ | refine Sim.region ?_ | refine Sim.block ?_ | refine Sim.skip ?_ | refine Sim.inBlock ?_ | refine Sim.exit rfl ?_ | refine Sim.condT rfl ?_ | refine Sim.condF rfl ?_)
      refine RL.cu (.refl w11) (c_val (Field_any f.name w11 hfv11) (by rw [hfat0])) fun w12 hu12 h1112 => ?_
      have ha6 := ha6.up h1112
      have ha8 := ha8.up h1112
      repeat (first | refine RL.vv ?_ | refine RL.p ?_ | refine RL.nil ?_ | refine Sim.seq ?_ | refine Sim.region ?_ | refine Sim.block ?_ | refine Sim.skip ?_ | refine Sim.inBlock ?_ | refine Sim.exit rfl ?_ | refine Sim.condT rfl ?_ | refine Sim.condF rfl ?_)
      refine RL.cu hu12 (PFind_any f.type w12 (hs11.up h1112)) (hw := ⟨_, _, rfl, rfl, rfl⟩) fun w13 hu13 _ => ?_
      repeat (first | refine RL.vv ?_ | refine RL.p ?_ | refine RL.nil ?_ | refine Sim.seq ?_ | refine Sim.region ?_ | refine Sim.block ?_ | refine Sim.skip ?_ | refine Sim.inBlock ?_ | refine Sim.exit rfl ?_ | refine Sim.condT rfl ?_ | refine Sim.condF rfl ?_)
      exact next3 () _ _ hu13 sb
  rintro ⟨⟩ w12 h1112
  have hu12 := hu11.trans h1112
  have ha6 := ha6.up h1112
  have ha8 := ha8.up h1112
  have hoat := hoat.up h1112
  have h812 := (h89.trans h911).trans h1112
  repeat (first | refine RL.vv ?_ | refine RL.p ?_ | refine RL.nil ?_ | refine Sim.seq ?_ | refine Sim.region ?_ | refine Sim.block ?_ | refine Sim.skip ?_ | refine Sim.inBlock ?_ | refine Sim.exit rfl ?_ | refine Sim.condT rfl ?_ | refine Sim.condF rfl ?_)
  refine RL.al (.refl w12) fun b9 w13 _ hle9 h1213 _ hb9 => ?_
  repeat (first | refine RL.vv ?_ | refine RL.p ?_ | refine RL.nil ?_ | refine Sim.seq ?_ | refine Sim.region ?_ | refine Sim.block ?_ | refine Sim.skip ?_ | refine Sim.inBlock ?_ | refine Sim.exit rfl ?_ | refine Sim.condT rfl ?_ | refine Sim.condF rfl ?_)
  refine RL.st h1213 hb9 hle9 fun w14 h1214 _ hb9 => ?_
  have hb9 : Box w14 b9 _ [.int .i64 o.service, .string o.type, .string o.field] := hb9
  have hu14 := hu12.trans h1214
  have ha6 := ha6.up h1214
  have ha8 := ha8.up h1214
  have ha9 := hb9.at
  have h814 := h812.trans h1214
  have hosv := hob.service
  obtain ⟨sbv, sov, cs, rfl, _, hsat, ⟨v1, v2, v3, rfl, hv1, hv2, _⟩, _⟩ := (hl.up hu14).at hob.svc
  have hsat : At w14 sbv (sov + si * 3) _ := hsat
  have hsil := (List.getElem?_eq_some_iff.1 hob.svc).1
  obtain ⟨a1, c1, rfl, _⟩ := id hv1
  obtain ⟨a2, c2, rfl, _⟩ := id hv2
  clear h1213 hoat
  rw [hosv] at hb9 ha9
  repeat (first | refine RL.vv ?_ | refine RL.p ?_ | refine RL.nil ?_ | refine Sim.seq ?_ | refine Sim.region ?_ | refine Sim.block ?_ | refine Sim.skip ?_ | refine Sim.inBlock ?_ | refine Sim.exit rfl ?_ | refine Sim.condT rfl ?_ | refine Sim.condF rfl ?_)
  refine Sim.cutX (σ := Option Addr × Nat × Nat) (fun st => [(0, .slice (some ⟨sbv, sov, none⟩) l.length lc), (3, .slice (some ⟨pb, po, none⟩) ps.length pc), (29, .slice (some ⟨pb, po, none⟩) ps.length pc), (30, .int .i64 (ps.length : Int)), (31, .int .i64 (i : Int)), (6, .pointer (some ⟨b6, 0, none⟩)), (69, .slice (some ⟨fb, fo, none⟩) p.type.fields.length fc), (70, .int .i64 (p.type.fields.length : Int)), (71, .int .i64 (k : Int)), (7, .int .i64 (k : Int)), (8, .pointer (some ⟨b8, 0, none⟩)), (9, .pointer (some ⟨b9, 0, none⟩)), (10, .slice st.1 (seeM s.types s.changes).1.length st.2.1), (11, .pointer (some ⟨st.2.2, 0, none⟩))])
    (fun st w' => Up w14 w' ∧ Box w' st.2.2 41 [.int .i64 (seeM s.types s.changes).2.err, .int .i64 (seeM s.types s.changes).2.at_] ∧ SliceOf snLay (fun _ => True) w' (.slice st.1 (seeM s.types s.changes).1.length st.2.1) (seeM s.types s.changes).1) (fun k' next3 => ?_) ?_
  · have h0 := Up.drew w14
    refine Sim.ord (Up w14) ?_
    refine RO.tk 0 ?_
    refine RO.tk 1 ?_
    refine RO.tk 2 ?_ (hy := fun wq hq => y_loadF rfl (ha9.up hq) rfl)
    refine RO.tk 3 ?_ (hy := fun wq hq => y_indexAddr (i := si) (k := 3) rfl rfl hsil)
    refine RO.tk 4 ?_
    refine RO.tk 5 ?_ (hy := fun wq hq => y_loadF rfl (hsat.up hq) rfl)
    refine RO.tk 6 ?_
    refine RO.tk 7 ?_
    refine RO.tk 8 ?_ (hy := fun wq hq => y_loadF rfl (ha9.up hq) rfl)
    refine RO.tk 9 ?_ (hy := fun wq hq => y_indexAddr (i := si) (k := 3) rfl rfl hsil)
    refine RO.tk 10 ?_
    refine RO.tk 11 ?_ (hy := fun wq hq => y_loadF rfl (hsat.up hq) rfl)
    refine RO.two 12 16 ?_ ?_
    · refine RL.cx (See_any _ (hv1.up h0) (hv2.up h0)) ?_
      rintro _ _ ⟨sv, rfl, h, shds, slab, hsv⟩
      refine ⟨_, rfl, ?_⟩
      unfold fltV
      have h0 := h0.trans h
      have hse := hsv.seen
      obtain ⟨sa, sc, rfl, _⟩ := id hse
      try have hl11 := hb11.lt
      try have hb11 := hb11.up h
      refine RL.ord h0 ?_
      clear h hsv
      refine RO.tk 13 ?_
      refine RO.tk 14 ?_
      refine RO.tk 15 ?_
      refine RO.one 16 ?_
      refine RL.al h0 fun b11 _ he11 hle11 h0 h hb11 => ?_
      try have hse := hse.up h
      refine RL.ord h0 ?_
      clear h
      refine RO.tk 17 ?_
      refine RO.one 18 ?_
      refine RL.st h0 hb11 hle11 fun _ h0 hbt hb11 => ?_
      have hse := (hse.bt hbt (fun k hk => by have := hk.1; have := hk.2; omega)).mono (S' := fun _ => True) fun _ _ => trivial
      refine RL.ord h0 ?_
      refine RO.done (RL.nil ?_)
      exact next3 (sa, sc, b11) _ _ ⟨h0, hb11, hse⟩ sb
    · refine RL.al h0 fun b11 _ he11 hle11 h0 h hb11 => ?_
      try have hse := hse.up h
      refine RL.ord h0 ?_
      clear h
      refine RO.one 12 ?_
      refine RL.cx (See_any _ (hv1.up h0) (hv2.up h0)) ?_
      rintro _ _ ⟨sv, rfl, h, shds, slab, hsv⟩
      refine ⟨_, rfl, ?_⟩
      unfold fltV
      have h0 := h0.trans h
      have hse := hsv.seen
      obtain ⟨sa, sc, rfl, _⟩ := id hse
      try have hl11 := hb11.lt
      try have hb11 := hb11.up h
      refine RL.ord h0 ?_
      clear h hsv
      refine RO.tk 13 ?_
      refine RO.tk 14 ?_
      refine RO.tk 15 ?_
      refine RO.tk 17 ?_
      refine RO.one 18 ?_
      refine RL.st h0 hb11 hle11 fun _ h0 hbt hb11 => ?_
      have hse := (hse.bt hbt (fun k hk => by have := hk.1; have := hk.2; omega)).mono (S' := fun _ => True) fun _ _ => trivial
      refine RL.ord h0 ?_
      refine RO.done (RL.nil ?_)
      exact next3 (sa, sc, b11) _ _ ⟨h0, hb11, hse⟩ sb
  rintro ⟨sa, sc, b11⟩ w15 ⟨h1415, hb11, hse⟩
  simp only at hb11 hse ⊢
  have hsee := hob.right.see
  have hsr := (seeM_right hsee).1
  have hown := fun v hv => seen_own hob.right (q := v) (q' := q) hv hob.seen.mem
  obtain ⟨m0, hm0⟩ := List.getElem?_of_mem hob.seen.mem
  have hqf := hsr.fields q.type (List.mem_map_of_mem hob.seen.mem)
  have hsl : (seeM s.types s.changes).1.length ≤ 8 := by have := hsr.len; rwa [List.length_map] at this
  have hfm := fieldF_at hqf.nodup hob.fld
  generalize (seeM s.types s.changes).1 = sns at *
  have ha6 := ha6.up h1415
  have ha8 := ha8.up h1415
  have ha9 := ha9.up h1415
  have ha11 := hb11.at
  have hm0l := (List.getElem?_eq_some_iff.1 hm0).1
  have h815 := h814.trans h1415
  have hqo := hob.own
  have hqn := hob.name
  have hqfl := hob.seen.len
  have hml := (List.getElem?_eq_some_iff.1 hob.fld).1
  clear hb9 hv1 hv2 hsat hb11 hfv9
  repeat (first | refine RL.vv ?_ | refine RL.p ?_ | refine RL.nil ?_ | refine Sim.seq ?_ | refine Sim.region ?_ | refine Sim.block ?_ | refine Sim.skip ?_ | refine Sim.inBlock ?_ | refine Sim.exit rfl ?_ | refine Sim.condT rfl ?_ | refine Sim.condF rfl ?_)
  refine Sim.loop (σ := Nat × Bool) (fun st => [(0, .slice (some ⟨sbv, sov, none⟩) l.length lc), (3, .slice (some ⟨pb, po, none⟩) ps.length pc), (29, .slice (some ⟨pb, po, none⟩) ps.length pc), (30, .int .i64 (ps.length : Int)), (31, .int .i64 (i : Int)), (6, .pointer (some ⟨b6, 0, none⟩)), (69, .slice (some ⟨fb, fo, none⟩) p.type.fields.length fc), (70, .int .i64 (p.type.fields.length : Int)), (71, .int .i64 (k : Int)), (7, .int .i64 (k : Int)), (8, .pointer (some ⟨b8, 0, none⟩)), (9, .pointer (some ⟨b9, 0, none⟩)), (120, .slice sa sns.length sc), (121, .int .i64 (sns.length : Int)), (122, .int .i64 (st.1 : Int)), (12, .bool st.2)])
    (fun st w' => st.1 ≤ sns.length ∧ Up w15 w' ∧ (m0 < st.1 → st.2 = true)) (fun st => sns.length - st.1) (0, false) sb ⟨Nat.zero_le _, .refl _, fun h => absurd h (Nat.not_lt_zero _)⟩ ?_
  rintro ⟨j, b⟩ w16 ⟨hj, h1516, hbt⟩ next3
  simp only at hj hbt next3 ⊢
  by_cases hjl : j < sns.length
  rotate_left
  · obtain rfl := hbt (by omega)
    repeat (first | refine RL.vv ?_ | refine RL.p ?_ | refine RL.nil ?_ | refine Sim.seq ?_ | refine Sim.region ?_ | refine Sim.block ?_ | refine Sim.skip ?_ | refine Sim.inBlock ?_ | refine Sim.exit rfl ?_ | refine Sim.condT rfl ?_ | refine Sim.condF rfl ?_)
    exact next2 (k + 1) _ _ ⟨by omega, h815.trans h1516⟩ (by omega) sb
  have hy : sns[j]? = some sns[j] := List.getElem?_eq_getElem hjl
  obtain ⟨vb, vo, cs, rfl, _, hvat, ⟨fv2, nv2, rfl, hfv2, hnv2⟩, _⟩ := (hse.up h1516).at hy
  have hvat : At w16 vb (vo + j * 4) _ := hvat
  have hown := hown sns[j] (List.mem_of_getElem? hy)
  have hjm : j = m0 → sns[j] = q := fun e => by subst e; rw [hm0] at hy; exact (Option.some.inj hy).symm
  generalize sns[j] = v at *
  have ha6 := ha6.up h1516
  have ha8 := ha8.up h1516
  have ha9 := ha9.up h1516
  obtain ⟨fa2, fc2, rfl, _⟩ := id hfv2
  obtain ⟨na2, nc2, rfl, _⟩ := id hnv2
  repeat (first | refine RL.vv ?_ | refine RL.p ?_ | refine RL.nil ?_ | refine Sim.seq ?_ | refine Sim.region ?_ | refine Sim.block ?_ | refine Sim.skip ?_ | refine Sim.inBlock ?_ | refine Sim.exit rfl ?_ | refine Sim.condT rfl ?_ | refine Sim.condF rfl ?_)
  refine RL.al (.refl w16) fun b14 w17 _ hle14 h1617 _ hb14 => ?_
  repeat (first | refine RL.vv ?_ | refine RL.p ?_ | refine RL.nil ?_ | refine Sim.seq ?_ | refine Sim.region ?_ | refine Sim.block ?_ | refine Sim.skip ?_ | refine Sim.inBlock ?_ | refine Sim.exit rfl ?_ | refine Sim.condT rfl ?_ | refine Sim.condF rfl ?_)
  refine RL.st h1617 hb14 hle14 fun w18 h1618 _ hb14 => ?_
  have hb14 : Box w18 b14 _ [.string v.type.name, .slice fa2 v.type.fields.length fc2, .string v.own, .slice na2 v.fields.length nc2] := hb14
  have ha6 := ha6.up h1618
  have ha8 := ha8.up h1618
  have ha9 := ha9.up h1618
  have ha14 := hb14.at
  clear h1617 hvat
  by_cases hvo : v.own = o.type
  rotate_left
  · repeat (first | refine RL.vv ?_ | refine RL.p ?_ | refine RL.nil ?_ | refine Sim.seq ?_ | refine Sim.region ?_ | refine Sim.block ?_ | refine Sim.skip ?_ | refine Sim.inBlock ?_ | refine Sim.exit rfl ?_ | refine Sim.condT rfl ?_ | refine Sim.condF rfl ?_)
    refine next3 (j + 1, b) _ _ ⟨by simp only; omega, h1516.trans h1618, fun hm => hbt ?_⟩ (by simp only; omega) sb
    simp only at hm
    have : j ≠ m0 := fun e => hvo (by rw [hjm e]; exact hqo)
    omega
  · have hvq : v = q := hown (hvo.trans hqo.symm)
    subst hvq
    have hvl := hfv2.up h1618
    obtain ⟨nb2, no2, cs, rfl, _, hnat2, rfl, _⟩ := (hnv2.up h1618).at hob.ofld
    have hnat2 : At w18 nb2 (no2 + m * 1) _ := hnat2
    have hmp : (0 : Int) ≤ (m : Int) := by omega
    have hofe : o.field = o.field := rfl
    repeat (first | refine RL.vv ?_ | refine RL.p ?_ | refine RL.nil ?_ | refine Sim.seq ?_ | refine Sim.region ?_ | refine Sim.block ?_ | refine Sim.skip ?_ | refine Sim.inBlock ?_ | refine Sim.exit rfl ?_ | refine Sim.condT rfl ?_ | refine Sim.condF rfl ?_)
    refine RL.cu (.refl w18) (c_val (Field_any f.name w18 hvl) (by rw [hfm])) fun w19 _ h1819 => ?_
    have ha9 := ha9.up h1819
    have ha14 := ha14.up h1819
    have hnat2 := hnat2.up h1819
    repeat (first | refine RL.vv ?_ | refine RL.p ?_ | refine RL.nil ?_ | refine Sim.seq ?_ | refine Sim.region ?_ | refine Sim.block ?_ | refine Sim.skip ?_ | refine Sim.inBlock ?_ | refine Sim.exit rfl ?_ | refine Sim.condT rfl ?_ | refine Sim.condF rfl ?_)
    refine Sim.q ?_
    repeat (first | refine RQ.vv ?_ | refine RQ.p ?_)
    refine RQ.nil fun w20 h1920 => ?_
    repeat (first | refine RL.vv ?_ | refine RL.p ?_ | refine RL.nil ?_ | refine Sim.seq ?_ | refine Sim.region ?_ | refine Sim.block ?_ | refine Sim.skip ?_ | refine Sim.inBlock ?_ | refine Sim.exit rfl ?_ | refine Sim.condT rfl ?_ | refine Sim.condF rfl ?_)
    exact next3 (j + 1, true) _ _ ⟨by simp only; omega, ((h1516.trans h1618).trans h1819).trans h1920, fun _ => rfl⟩ (by simp only; omega) sb
end Go.Proofs.Ytgckpmcdlciibab
