/- The walk of MergeOrder. -/
import Derived.Test.YtgckpmcdlciibabZS
import Derived.Test.YtgckpmcdlciibabZT
import Derived.Test.YtgckpmcdlciibabZU
namespace Go.Proofs.Ytgckpmcdlciibab
open Go.RowKit
instance : OneC svcLay := ⟨by rintro S w cs x ⟨v1, v2, v3, rfl, ⟨a, n, rfl, _⟩, ⟨b, m, rfl, _⟩, c', m', rfl, _⟩ c hc; simp at hc; rcases hc with rfl | rfl | rfl <;> rfl⟩
theorem rev_snoc {l : List Svc} {n : Nat} (h : n < l.length) : (l.drop (l.length - (n + 1))).reverse = (l.drop (l.length - n)).reverse ++ [l[l.length - 1 - n]'(by omega)] := by
  have e : l.length - n = l.length - (n + 1) + 1 := by omega
  rw [List.drop_eq_getElem_cons (i := l.length - (n + 1)) (by omega), ← e, List.reverse_cons]
  congr 2
  simp only [Nat.sub_sub, Nat.add_comm]
set_option maxHeartbeats 4000000 in
theorem MergeOrder_walk {S : Nat → Prop} {lv : Value} {l : List Svc} (w : World) (hl : SliceOf svcLay S w lv l) (hlen : l.length * 72 ≤ 140737488351232) :
    Calls Try.prog 10 #[lv] w fun en w' => en = .returned (.bool true) ∧ Up w w' := by
  refine calls_of_sim Try.func10 rfl (Nat.le_of_ble_eq_true rfl) ?_
  obtain ⟨la, lc, rfl, hlnc, hlcm, _⟩ := id hl
  unfold maxLen at hlcm
  repeat (first | refine RL.vv ?_ | refine RL.p ?_ | refine RL.nil ?_ | refine Sim.seq ?_ | refine Sim.region ?_ | refine Sim.block ?_ | refine Sim.skip ?_ | refine Sim.inBlock ?_ | refine Sim.exit rfl ?_ | refine Sim.condT rfl ?_ | refine Sim.condF rfl ?_)
  refine RL.cu (.refl w) (alive3_any w) fun w1 hu _ => ?_
  repeat (first | refine RL.vv ?_ | refine RL.p ?_ | refine RL.nil ?_ | refine Sim.seq ?_ | refine Sim.region ?_ | refine Sim.block ?_ | refine Sim.skip ?_ | refine Sim.inBlock ?_ | refine Sim.exit rfl ?_ | refine Sim.condT rfl ?_ | refine Sim.condF rfl ?_)
  refine RL.vv ?_ (hy := y_sub (d := (l.length : Int) - 1 - ((0 : Nat) : Int)) rfl rfl (by omega) (by omega) (by omega))
  repeat (first | refine RL.vv ?_ | refine RL.p ?_ | refine RL.nil ?_ | refine Sim.seq ?_ | refine Sim.region ?_ | refine Sim.block ?_ | refine Sim.skip ?_ | refine Sim.inBlock ?_ | refine Sim.exit rfl ?_ | refine Sim.condT rfl ?_ | refine Sim.condF rfl ?_)
  refine Sim.loop (σ := Nat × Value) (fun st => [(0, .slice la l.length lc), (4, .int .i64 ((l.length : Int) - 1 - (st.1 : Int))), (3, st.2)])
    (fun st w' => st.1 ≤ l.length ∧ Up w w' ∧ Own svcLay 70 w.heap.size (fun b => b < w.heap.size ∨ w.heap.size ≤ b) w' st.2 (l.drop (l.length - st.1)).reverse) (fun st => l.length - st.1) (0, .slice none 0 0) sb ⟨Nat.zero_le _, hu, by rw [Nat.sub_zero, List.drop_length]; exact Own.nil _ _ _ _ _⟩ ?_
  clear hu
  rintro ⟨n, v⟩ w2 ⟨hn, hu, ho⟩ next
  simp only at hn ho next ⊢
  by_cases hlt : n < l.length
  · have e : (l.length : Int) - 1 - (n : Int) = ((l.length - 1 - n : Nat) : Int) := by omega
    have hx : l[l.length - 1 - n]? = some (l[l.length - 1 - n]'(by omega)) := List.getElem?_eq_getElem (by omega)
    have hrs := rev_snoc hlt
    obtain ⟨vb, vo, cs, rfl, _, hat, ⟨v1, v2, v3, rfl, hv1, hv2, hv3⟩, _⟩ := hl.at hx
    have hat : At w vb (vo + (l.length - 1 - n) * 3) _ := hat
    generalize (l[l.length - 1 - n]'(by omega)) = s at *
    rw [e]
    obtain ⟨a1, c1, rfl, _⟩ := id hv1
    obtain ⟨a2, c2, rfl, _⟩ := id hv2
    obtain ⟨a3, c3, rfl, _⟩ := id hv3
    have h0 : (0 : Int) ≤ ((l.length - 1 - n : Nat) : Int) := by omega
    repeat (first | refine RL.vv ?_ | refine RL.p ?_ | refine RL.nil ?_ | refine Sim.seq ?_ | refine Sim.region ?_ | refine Sim.block ?_ | refine Sim.skip ?_ | refine Sim.inBlock ?_ | refine Sim.exit rfl ?_ | refine Sim.condT rfl ?_ | refine Sim.condF rfl ?_)
    refine RL.bu (el := 70) [.slice a1 s.types.length c1, .slice a2 s.changes.length c2, .slice a3 s.things.length c3] (.refl w2) fun b6 w3 he6 _ _ h23 hb6 => ?_
    have hu3 := hu.trans h23
    have hs3 := hu3.size
    refine RL.app (L := svcLay) (el := 70) (S := fun b => b < w.heap.size ∨ w.heap.size ≤ b) (B := w.heap.size) (ys := [s]) hu3 (ho.up h23) (SliceOf.one hb6 ⟨by omega, ho.ne (Nat.le_of_eq he6.symm)⟩ ⟨_, _, _, rfl, (hv1.old.up hu3).mono fun k hk => ⟨.inl hk.2, ho.ne' hk.2⟩, (hv2.old.up hu3).mono fun k hk => ⟨.inl hk.2, ho.ne' hk.2⟩, (hv3.old.up hu3).mono fun k hk => ⟨.inl hk.2, ho.ne' hk.2⟩⟩) (by simp; omega) (Nat.le_refl _) (by omega) fun v2 w4 hu4 ho2 hg hv => ?_
    repeat (first | refine RL.vv ?_ | refine RL.p ?_ | refine RL.nil ?_ | refine Sim.seq ?_ | refine Sim.region ?_ | refine Sim.block ?_ | refine Sim.skip ?_ | refine Sim.inBlock ?_ | refine Sim.exit rfl ?_ | refine Sim.condT rfl ?_ | refine Sim.condF rfl ?_)
    refine RL.vv ?_ (hy := y_sub (d := (l.length : Int) - 1 - ((n + 1 : Nat) : Int)) rfl rfl (by omega) (by omega) (by omega))
    repeat (first | refine RL.vv ?_ | refine RL.p ?_ | refine RL.nil ?_ | refine Sim.seq ?_ | refine Sim.region ?_ | refine Sim.block ?_ | refine Sim.skip ?_ | refine Sim.inBlock ?_ | refine Sim.exit rfl ?_ | refine Sim.condT rfl ?_ | refine Sim.condF rfl ?_)
    exact next (n + 1, v2) _ _ ⟨by simp only; omega, hu4, by rw [hrs]; exact ho2⟩ (by simp only; omega) sb
  have hnn : n = l.length := by omega
  subst hnn
  rw [Nat.sub_self, List.drop_zero] at ho
  have hneg : ¬ (0 : Int) ≤ (l.length : Int) - 1 - (l.length : Int) := by omega
  have hb := ho.sl (S' := fun _ => True) (fun _ _ _ _ => trivial) (fun _ _ => trivial)
  obtain ⟨ba, bc, rfl, _⟩ := id hb
  repeat (first | refine RL.vv ?_ | refine RL.p ?_ | refine RL.nil ?_ | refine Sim.seq ?_ | refine Sim.region ?_ | refine Sim.block ?_ | refine Sim.skip ?_ | refine Sim.inBlock ?_ | refine Sim.exit rfl ?_ | refine Sim.condT rfl ?_ | refine Sim.condF rfl ?_)
  refine RL.cx (MAll_any w2 (hl.up hu)) ?_
  rintro _ w3 ⟨pv, rfl, h23, hds, lab, hp⟩
  refine ⟨_, rfl, ?_⟩
  have hu := hu.trans h23
  have hb := hb.up h23
  unfold fltV
  have hs := hp.parts.mono (S' := fun _ => True) fun _ _ => trivial
  obtain ⟨pa, pc, rfl, hpnc, hpcm, _⟩ := id hs
  unfold maxLen at hpcm
  repeat (first | refine RL.vv ?_ | refine RL.p ?_ | refine RL.nil ?_ | refine Sim.seq ?_ | refine Sim.region ?_ | refine Sim.block ?_ | refine Sim.skip ?_ | refine Sim.inBlock ?_ | refine Sim.exit rfl ?_ | refine Sim.condT rfl ?_ | refine Sim.condF rfl ?_)
  refine RL.al (.refl w3) fun b6 w4 _ hle6 h34 _ hb6 => ?_
  repeat (first | refine RL.vv ?_ | refine RL.p ?_ | refine RL.nil ?_ | refine Sim.seq ?_ | refine Sim.region ?_ | refine Sim.block ?_ | refine Sim.skip ?_ | refine Sim.inBlock ?_ | refine Sim.exit rfl ?_ | refine Sim.condT rfl ?_ | refine Sim.condF rfl ?_)
  refine RL.st h34 hb6 hle6 fun w5 h35 _ hb6 => ?_
  have hb6 : Box w5 b6 _ [.int .i64 (allM l).2.err, .int .i64 (allM l).2.at_] := hb6
  have hu := hu.trans h35
  have hs := hs.up h35
  have hb := hb.up h35
  clear h23 h34 h35 hp ho
  repeat (first | refine RL.vv ?_ | refine RL.p ?_ | refine RL.nil ?_ | refine Sim.seq ?_ | refine Sim.region ?_ | refine Sim.block ?_ | refine Sim.skip ?_ | refine Sim.inBlock ?_ | refine Sim.exit rfl ?_ | refine Sim.condT rfl ?_ | refine Sim.condF rfl ?_)
  refine RL.cx (MAll_any w5 hb) ?_
  rintro _ w6 ⟨qv, rfl, h56, hds2, lab2, hq⟩
  refine ⟨_, rfl, ?_⟩
  have hu := hu.trans h56
  have hs := hs.up h56
  have hb6 := hb6.up h56
  unfold fltV
  have ht := hq.parts.mono (S' := fun _ => True) fun _ _ => trivial
  obtain ⟨qa, qc, rfl, hqnc, hqcm, _⟩ := id ht
  unfold maxLen at hqcm
  repeat (first | refine RL.vv ?_ | refine RL.p ?_ | refine RL.nil ?_ | refine Sim.seq ?_ | refine Sim.region ?_ | refine Sim.block ?_ | refine Sim.skip ?_ | refine Sim.inBlock ?_ | refine Sim.exit rfl ?_ | refine Sim.condT rfl ?_ | refine Sim.condF rfl ?_)
  refine RL.al (.refl w6) fun b8 w7 _ hle8 h67 _ hb8 => ?_
  repeat (first | refine RL.vv ?_ | refine RL.p ?_ | refine RL.nil ?_ | refine Sim.seq ?_ | refine Sim.region ?_ | refine Sim.block ?_ | refine Sim.skip ?_ | refine Sim.inBlock ?_ | refine Sim.exit rfl ?_ | refine Sim.condT rfl ?_ | refine Sim.condF rfl ?_)
  refine RL.st h67 hb8 hle8 fun w8 h68 _ hb8 => ?_
  have hb8 : Box w8 b8 _ [.int .i64 (allM l.reverse).2.err, .int .i64 (allM l.reverse).2.at_] := hb8
  have hu := hu.trans h68
  have hs := hs.up h68
  have ht := ht.up h68
  have ha6 := (hb6.up h68).at
  have ha8 := hb8.at
  clear h56 h67 h68 hq hb hb6
  by_cases he : (allM l).2.err = 0
  rotate_left
  · have he2 : ¬ (allM l.reverse).2.err = 0 := fun h => he (all_rev.1 h)
    repeat (first | refine RL.vv ?_ | refine RL.p ?_ | refine RL.nil ?_ | refine Sim.seq ?_ | refine Sim.region ?_ | refine Sim.block ?_ | refine Sim.skip ?_ | refine Sim.inBlock ?_ | refine Sim.exit rfl ?_ | refine Sim.condT rfl ?_ | refine Sim.condF rfl ?_)
    refine RL.vv ?_ (hy := y_eqlB (a := false) (b := false) rfl rfl)
    repeat (first | refine RL.vv ?_ | refine RL.p ?_ | refine RL.nil ?_ | refine Sim.seq ?_ | refine Sim.region ?_ | refine Sim.block ?_ | refine Sim.skip ?_ | refine Sim.inBlock ?_ | refine Sim.exit rfl ?_ | refine Sim.condT rfl ?_ | refine Sim.condF rfl ?_)
    exact Sim.ret1 Try.func10 rfl rfl ⟨rfl, hu⟩
  have he2 : (allM l.reverse).2.err = 0 := all_rev.2 he
  have hl5 := (wrongS_iff.1 (allM_canon he).2.1).1
  have hnm := congrArg List.length (names_rev he)
  simp only [List.length_map] at hnm
  have hturn := fun i p => parts_rev (l := l) he (i := i) (p := p)
  have hpl := fun p hp => prt_len (l := l) he (p := p) hp
  have hpf := fun p hp k f => part_field (l := l) he (p := p) hp (k := k) (f := f)
  have hql := fun p hp => prt_len (l := l.reverse) he2 (p := p) hp
  have hlr : l.reverse.length = l.length := List.length_reverse
  generalize (allM l).1 = ps at *
  generalize (allM l.reverse).1 = qs at *
  repeat (first | refine RL.vv ?_ | refine RL.p ?_ | refine RL.nil ?_ | refine Sim.seq ?_ | refine Sim.region ?_ | refine Sim.block ?_ | refine Sim.skip ?_ | refine Sim.inBlock ?_ | refine Sim.exit rfl ?_ | refine Sim.condT rfl ?_ | refine Sim.condF rfl ?_)
  refine Sim.loop (σ := Nat) (fun i => [(0, .slice la l.length lc), (5, .slice pa ps.length pc), (7, .slice qa qs.length qc), (60, .slice pa ps.length pc), (61, .int .i64 (ps.length : Int)), (62, .int .i64 (i : Int))]) (fun i w' => i ≤ ps.length ∧ Up w8 w') (fun i => ps.length - i) 0 sb ⟨Nat.zero_le _, .refl _⟩ ?_
  clear ha6 ha8 hb8 next
  rintro i w9 ⟨hi, h89⟩ next
  by_cases hlt : i < ps.length
  rotate_left
  · repeat (first | refine RL.vv ?_ | refine RL.p ?_ | refine RL.nil ?_ | refine Sim.seq ?_ | refine Sim.region ?_ | refine Sim.block ?_ | refine Sim.skip ?_ | refine Sim.inBlock ?_ | refine Sim.exit rfl ?_ | refine Sim.condT rfl ?_ | refine Sim.condF rfl ?_)
    exact Sim.ret1 Try.func10 rfl rfl ⟨rfl, hu.trans h89⟩
  have hx : ps[i]? = some ps[i] := List.getElem?_eq_getElem hlt
  obtain ⟨q, hq, htn⟩ := hturn i _ hx
  have hpl := hpl ps[i] (List.mem_of_getElem? hx)
  have hpf := hpf ps[i] (List.mem_of_getElem? hx)
  have hql := hql q (List.mem_of_getElem? hq)
  have hiq := (List.getElem?_eq_some_iff.1 hq).1
  obtain ⟨pb, po, cs, rfl, _, hat, ⟨fv, ov, hv, rfl, hfv, hov, hhv⟩, _⟩ := (hs.up h89).at hx
  obtain ⟨qb, qo, cs, rfl, _, hqat, ⟨fv2, ov2, hv2, rfl, hfv2, hov2, hhv2⟩, _⟩ := (ht.up h89).at hq
  have hat : At w9 pb (po + i * 4) _ := hat
  have hqat : At w9 qb (qo + i * 4) _ := hqat
  generalize ps[i] = p at *
  obtain ⟨fa, fc, rfl, hfnc, hfcm, _⟩ := id hfv
  obtain ⟨oa, oc, rfl, _⟩ := id hov
  obtain ⟨ha, hc, rfl, _⟩ := id hhv
  obtain ⟨fa2, fc2, rfl, _⟩ := id hfv2
  obtain ⟨oa2, oc2, rfl, _⟩ := id hov2
  obtain ⟨ha2, hc2, rfl, _⟩ := id hhv2
  unfold maxLen at hfcm
  repeat (first | refine RL.vv ?_ | refine RL.p ?_ | refine RL.nil ?_ | refine Sim.seq ?_ | refine Sim.region ?_ | refine Sim.block ?_ | refine Sim.skip ?_ | refine Sim.inBlock ?_ | refine Sim.exit rfl ?_ | refine Sim.condT rfl ?_ | refine Sim.condF rfl ?_)
  refine RL.al (.refl w9) fun b10 w10 _ hle10 h910 _ hb10 => ?_
  repeat (first | refine RL.vv ?_ | refine RL.p ?_ | refine RL.nil ?_ | refine Sim.seq ?_ | refine Sim.region ?_ | refine Sim.block ?_ | refine Sim.skip ?_ | refine Sim.inBlock ?_ | refine Sim.exit rfl ?_ | refine Sim.condT rfl ?_ | refine Sim.condF rfl ?_)
  refine RL.st h910 hb10 hle10 fun w11 h911 _ hb10 => ?_
  have hb10 : Box w11 b10 _ [.string p.type.name, .slice fa p.type.fields.length fc, .slice oa p.owners.length oc, .slice ha p.homes.length hc] := hb10
  have ha10 := hb10.at
  have hqat := hqat.up h911
  have htn1 := htn.name
  have htn2 := htn.fields
  have htn3 := htn.homes
  clear h910 hat hhv hhv2
  repeat (first | refine RL.vv ?_ | refine RL.p ?_ | refine RL.nil ?_ | refine Sim.seq ?_ | refine Sim.region ?_ | refine Sim.block ?_ | refine Sim.skip ?_ | refine Sim.inBlock ?_ | refine Sim.exit rfl ?_ | refine Sim.condT rfl ?_ | refine Sim.condF rfl ?_)
  refine Sim.q ?_
  repeat (first | refine RQ.vv ?_ | refine RQ.p ?_)
  refine RQ.nil fun w12 h1112 => ?_
  have ha10 := ha10.up h1112
  have hqat := hqat.up h1112
  have h912 := h911.trans h1112
  have hfv := hfv.up h912
  have hov := hov.up h912
  have hfv2 := hfv2.up h912
  have hov2 := hov2.up h912
  have hu12 := (hu.trans h89).trans h912
  repeat (first | refine RL.vv ?_ | refine RL.p ?_ | refine RL.nil ?_ | refine Sim.seq ?_ | refine Sim.region ?_ | refine Sim.block ?_ | refine Sim.skip ?_ | refine Sim.inBlock ?_ | refine Sim.exit rfl ?_ | refine Sim.condT rfl ?_ | refine Sim.condF rfl ?_)
  refine Sim.loop (σ := Nat) (fun k => [(0, .slice la l.length lc), (5, .slice (some ⟨pb, po, none⟩) ps.length pc), (7, .slice (some ⟨qb, qo, none⟩) qs.length qc), (60, .slice (some ⟨pb, po, none⟩) ps.length pc), (61, .int .i64 (ps.length : Int)), (62, .int .i64 (i : Int)), (9, .int .i64 (i : Int)), (10, .pointer (some ⟨b10, 0, none⟩)), (105, .slice fa p.type.fields.length fc), (106, .int .i64 (p.type.fields.length : Int)), (107, .int .i64 (k : Int))]) (fun k w' => k ≤ p.type.fields.length ∧ Up w12 w') (fun k => p.type.fields.length - k) 0 sb ⟨Nat.zero_le _, .refl _⟩ ?_
  rintro k w13 ⟨hk, h1213⟩ next2
  by_cases hkl : k < p.type.fields.length
  rotate_left
  · repeat (first | refine RL.vv ?_ | refine RL.p ?_ | refine RL.nil ?_ | refine Sim.seq ?_ | refine Sim.region ?_ | refine Sim.block ?_ | refine Sim.skip ?_ | refine Sim.inBlock ?_ | refine Sim.exit rfl ?_ | refine Sim.condT rfl ?_ | refine Sim.condF rfl ?_)
    exact next (i + 1) _ _ ⟨by omega, (h89.trans h912).trans h1213⟩ (by omega) sb
  have hfk : p.type.fields[k]? = some p.type.fields[k] := List.getElem?_eq_getElem hkl
  obtain ⟨o, si, s, q0, t0, m, hok, hob⟩ := hpf k _ hfk
  obtain ⟨j, o', hj1, hj2, hj3, hj4, _, _⟩ := htn.each k _ o hfk hok
  have hsi := (List.getElem?_eq_some_iff.1 hob.svc).1
  have hosv := hob.service
  obtain ⟨fb, fo, cs, rfl, _, hfat, rfl, _⟩ := (hfv.up h1213).at hfk
  obtain ⟨fb2, fo2, cs, rfl, _, hfat2, rfl, _⟩ := (hfv2.up h1213).at hj2
  obtain ⟨ob, oo, cs, rfl, _, hoat, rfl, _⟩ := (hov.up h1213).at hok
  obtain ⟨ob2, oo2, cs, rfl, _, hoat2, rfl, _⟩ := (hov2.up h1213).at hj3
  have hfat : At w13 fb (fo + k * 3) _ := hfat
  have hfat2 : At w13 fb2 (fo2 + j * 3) _ := hfat2
  have hoat : At w13 ob (oo + k * 3) _ := hoat
  have hoat2 : At w13 ob2 (oo2 + j * 3) _ := hoat2
  have hjl := (List.getElem?_eq_some_iff.1 hj2).1
  have ha10 := ha10.up h1213
  have hqat := hqat.up h1213
  have hfv2' := hfv2.up h1213
  generalize p.type.fields[k] = f at *
  repeat (first | refine RL.vv ?_ | refine RL.p ?_ | refine RL.nil ?_ | refine Sim.seq ?_ | refine Sim.region ?_ | refine Sim.block ?_ | refine Sim.skip ?_ | refine Sim.inBlock ?_ | refine Sim.exit rfl ?_ | refine Sim.condT rfl ?_ | refine Sim.condF rfl ?_)
  refine RL.al (.refl w13) fun b12 w14 _ hle12 h1314 _ hb12 => ?_
  repeat (first | refine RL.vv ?_ | refine RL.p ?_ | refine RL.nil ?_ | refine Sim.seq ?_ | refine Sim.region ?_ | refine Sim.block ?_ | refine Sim.skip ?_ | refine Sim.inBlock ?_ | refine Sim.exit rfl ?_ | refine Sim.condT rfl ?_ | refine Sim.condF rfl ?_)
  refine RL.st h1314 hb12 hle12 fun w15 h1315 _ hb12 => ?_
  have hb12 : Box w15 b12 _ [.string f.name, .int .i64 f.kind, .string f.type] := hb12
  have ha12 := hb12.at
  have ha10 := ha10.up h1315
  have hqat := hqat.up h1315
  have hfat2 := hfat2.up h1315
  have hoat := hoat.up h1315
  have hoat2 := hoat2.up h1315
  clear h1314 hfat hb12
  repeat (first | refine RL.vv ?_ | refine RL.p ?_ | refine RL.nil ?_ | refine Sim.seq ?_ | refine Sim.region ?_ | refine Sim.block ?_ | refine Sim.skip ?_ | refine Sim.inBlock ?_ | refine Sim.exit rfl ?_ | refine Sim.condT rfl ?_ | refine Sim.condF rfl ?_)
  refine Sim.q ?_
  repeat (first | refine RQ.vv ?_ | refine RQ.p ?_)
  refine RQ.cu (fun wq hq => q_call (c_val (Field_any f.name wq ((hfv2'.up h1315).up hq)) (by rw [hj1])) hq) ?_
  repeat (first | refine RQ.vv ?_ | refine RQ.p ?_)
  refine RQ.nil fun w16 h1516 => ?_
  have ha12 := ha12.up h1516
  have ha10 := ha10.up h1516
  have hqat := hqat.up h1516
  have hfat2 := hfat2.up h1516
  have hoat := hoat.up h1516
  have hoat2 := hoat2.up h1516
  have hjn : ¬ (j : Int) < 0 := by omega
  have hjo : j < q.owners.length := by omega
  have hko : k < p.owners.length := by omega
  repeat (first | refine RL.vv ?_ | refine RL.p ?_ | refine RL.nil ?_ | refine Sim.seq ?_ | refine Sim.region ?_ | refine Sim.block ?_ | refine Sim.skip ?_ | refine Sim.inBlock ?_ | refine Sim.exit rfl ?_ | refine Sim.condT rfl ?_ | refine Sim.condF rfl ?_)
  refine Sim.q ?_
  repeat (first | refine RQ.vv ?_ | refine RQ.p ?_)
  refine RQ.vv ?_ (hy := fun wq hq => y_neqA (b := true) rfl rfl guard_field (eq_field f.name f.type f.kind))
  repeat (first | refine RQ.vv ?_ | refine RQ.p ?_)
  refine RQ.vv ?_ (hy := fun wq hq => y_sub (a := (l.length : Int)) (b := 1) (d := (l.length : Int) - 1) rfl rfl rfl (by omega) (by omega))
  repeat (first | refine RQ.vv ?_ | refine RQ.p ?_)
  refine RQ.vv ?_ (hy := fun wq hq => y_sub (a := (l.length : Int) - 1) (b := o.service) (d := (l.length : Int) - 1 - o.service) rfl rfl rfl (by omega) (by omega))
  repeat (first | refine RQ.vv ?_ | refine RQ.p ?_)
  refine RQ.nil fun w17 h1617 => ?_
  repeat (first | refine RL.vv ?_ | refine RL.p ?_ | refine RL.nil ?_ | refine Sim.seq ?_ | refine Sim.region ?_ | refine Sim.block ?_ | refine Sim.skip ?_ | refine Sim.inBlock ?_ | refine Sim.exit rfl ?_ | refine Sim.condT rfl ?_ | refine Sim.condF rfl ?_)
  exact next2 (k + 1) _ _ ⟨by omega, ((h1213.trans h1315).trans h1516).trans h1617⟩ (by omega) sb
end Go.Proofs.Ytgckpmcdlciibab
