/- The walk of ChangeTells. -/
import Derived.Test.YtgckpmcdlciibaaZ7
import Derived.Test.YtgckpmcdlciibaaZI
import Derived.Test.YtgckpmcdlciibaaZU
import Derived.Test.YtgckpmcdlciibaaZF
namespace Go.Proofs.Ytgckpmcdlciibaa
open Go.RowKit
theorem flt_self (f : Flt) (w : World) : (Op.equalIn 10000 51 (.agg #[.int .i64 f.err, .int .i64 f.at_]) (.agg #[.int .i64 f.err, .int .i64 f.at_])).run Try.prog w = .ok true w := by
  rw [eq_fault]; simp
theorem okTs_of {l : List Typ} (h : okL 40 okWT l) : okTs l := fun t ht => ⟨(h.2 t ht).1, fun f hf => ((h.2 t ht).2.2 f hf).1⟩
theorem okCs_of {l : List Chg} (h : okL 56 okChg l) : ∀ c ∈ l, c.to.size ≤ maxLen := fun c hc => (h.2 c hc).2.2
set_option maxHeartbeats 4000000 in
theorem ChangeTells_walk {S S2 : Nat → Prop} {lv cv : Value} {l : List Typ} {cs : List Chg} (w : World) (hl : SliceOf typLay S w lv l) (hcs : SliceOf chgLay S2 w cv cs) (hok : okTs l) (hokc : ∀ c ∈ cs, c.to.size ≤ maxLen) :
    Calls Try.prog 9 #[lv, cv] w fun en w' => en = .returned (.bool true) ∧ Up w w' := by
  refine calls_of_sim Try.func9 rfl (Nat.le_of_ble_eq_true rfl) ?_
  obtain ⟨la, lc, rfl, hlnc, hlcm, _⟩ := id hl
  obtain ⟨ca, cc, rfl, _⟩ := id hcs
  unfold maxLen at hlcm
  obtain ⟨h1, h2⟩ := see_traced l cs
  have h3 := seeM_err (l := l) (cs := cs)
  have h4 := seeM_right (l := l) (cs := cs)
  repeat (first | refine RL.vv ?_ | refine RL.p ?_ | refine RL.nil ?_ | refine Sim.seq ?_ | refine Sim.region ?_ | refine Sim.block ?_ | refine Sim.skip ?_ | refine Sim.inBlock ?_ | refine Sim.exit rfl ?_ | refine Sim.condT rfl ?_ | refine Sim.condF rfl ?_)
  refine RL.cx (See_any w hl hcs) ?_
  rintro _ w1 ⟨v, rfl, hu1, hds, lab, hv⟩
  refine ⟨_, rfl, ?_⟩
  have hsn := hv.seen
  obtain ⟨va, vc, rfl, hvnc, hvcm, _⟩ := id hsn
  unfold maxLen at hvcm
  unfold fltV
  repeat (first | refine RL.vv ?_ | refine RL.p ?_ | refine RL.nil ?_ | refine Sim.seq ?_ | refine Sim.region ?_ | refine Sim.block ?_ | refine Sim.skip ?_ | refine Sim.inBlock ?_ | refine Sim.exit rfl ?_ | refine Sim.condT rfl ?_ | refine Sim.condF rfl ?_)
  refine RL.al hu1 fun b6 w2 he6 hle6 hu2 h12 hb6 => ?_
  refine RL.vv ?_
  refine RL.st hu2 hb6 hle6 fun w3 hu3 hbt hb6 => ?_
  have hb6 : Box w3 b6 51 [.int .i64 (seeM l cs).2.err, .int .i64 (seeM l cs).2.at_] := hb6
  have h13 : Up w1 w3 := Up.but h12 hbt (Nat.le_of_eq he6.symm)
  have hsn := hsn.up h13
  clear hbt h12 hu2 hv
  repeat (first | refine RL.vv ?_ | refine RL.p ?_ | refine RL.nil ?_ | refine Sim.seq ?_ | refine Sim.region ?_ | refine Sim.block ?_ | refine Sim.skip ?_ | refine Sim.inBlock ?_ | refine Sim.exit rfl ?_ | refine Sim.condT rfl ?_ | refine Sim.condF rfl ?_)
  refine RL.cx (RSee_any w3 (hl.up hu3) (hcs.up hu3) hok hokc) ?_
  rintro _ w4 ⟨vo, vc0, vf, rfl, h34, hrs⟩
  refine ⟨_, rfl, ?_⟩
  unfold fltV
  have hu4 := hu3.trans h34
  have hb6 := hb6.up h34
  have hsn := hsn.up h34
  obtain ⟨xa, xc, rfl, _⟩ := id hrs.o
  obtain ⟨ya, yc, rfl, _⟩ := id hrs.c
  obtain ⟨za, zc, rfl, _⟩ := id hrs.f
  repeat (first | refine RL.vv ?_ | refine RL.p ?_ | refine RL.nil ?_ | refine Sim.seq ?_ | refine Sim.region ?_ | refine Sim.block ?_ | refine Sim.skip ?_ | refine Sim.inBlock ?_ | refine Sim.exit rfl ?_ | refine Sim.condT rfl ?_ | refine Sim.condF rfl ?_)
  refine RL.al hu4 fun b7 w5 he7 hle7 hu5 h45 hb7 => ?_
  refine RL.al hu5 fun b8 w6 he8 hle8 hu6 h56 hb8 => ?_
  have hn78 : b7 ≠ b8 := by have := hb7.lt; omega
  refine RL.st hu6 (hb7.up h56) hle7 fun w7 hu7 hbt7 hb7 => ?_
  refine RL.st hu7 (hb8.but hbt7 hn78.symm) hle8 fun w8 hu8 hbt8 hb8 => ?_
  have h48 : Up w4 w8 := Up.but (Up.but (h45.trans h56) hbt7 (Nat.le_of_eq he7.symm)) hbt8 (by have := h45.size; omega)
  have hb7 : Box w8 b7 66 [.slice xa (seeR l cs).1.own.length xc, .slice ya (seeR l cs).1.called.length yc, .slice za (seeR l cs).1.fields.length zc] := hb7.but hbt8 hn78
  have hb8 : Box w8 b8 51 [.int .i64 (seeR l cs).2.err, .int .i64 (seeR l cs).2.at_] := hb8
  have hb6 := hb6.up h48
  have hsn := hsn.up h48
  have hrs := hrs.up h48
  rw [h1] at hb6
  have ha6 := hb6.at
  have ha8 := hb8.at
  have ha7 := hb7.at
  clear hbt7 hbt8 hu5 hu6 hu7 h45 h56
  by_cases he : (seeR l cs).2.err = 0
  rotate_left
  · have hnil := h3 (by rw [h1]; exact he)
    have k0 : ((seeM l cs).1.length : Int) = 0 := by rw [hnil]; rfl
    repeat (first | refine RL.vv ?_ | refine RL.p ?_ | refine RL.nil ?_ | refine Sim.seq ?_ | refine Sim.region ?_ | refine Sim.block ?_ | refine Sim.skip ?_ | refine Sim.inBlock ?_ | refine Sim.exit rfl ?_ | refine Sim.condT rfl ?_ | refine Sim.condF rfl ?_)
    refine RL.val trivial rfl (y_neqA (b := true) rfl rfl guard_fault (flt_self (seeR l cs).2)) ?_
    repeat (first | refine RL.vv ?_ | refine RL.p ?_ | refine RL.nil ?_ | refine Sim.seq ?_ | refine Sim.region ?_ | refine Sim.block ?_ | refine Sim.skip ?_ | refine Sim.inBlock ?_ | refine Sim.exit rfl ?_ | refine Sim.condT rfl ?_ | refine Sim.condF rfl ?_)
    refine RL.val trivial rfl (y_eqlA (b := true) rfl rfl guard_fault (flt_self (seeR l cs).2)) ?_
    repeat (first | refine RL.vv ?_ | refine RL.p ?_ | refine RL.nil ?_ | refine Sim.seq ?_ | refine Sim.region ?_ | refine Sim.block ?_ | refine Sim.skip ?_ | refine Sim.inBlock ?_ | refine Sim.exit rfl ?_ | refine Sim.condT rfl ?_ | refine Sim.condF rfl ?_)
    exact Sim.ret1 Try.func9 rfl rfl ⟨rfl, hu8⟩
  obtain ⟨h5, h6, h7⟩ := h2 he
  have h8 := (h4 (by rw [h1]; exact he)).2
  rw [h5] at hsn ⊢
  have he' : ¬ ¬ (seeR l cs).2.err = 0 := fun h => h he
  have hl8 := h7.len
  have hvlen := view_len (l := l) (s := (seeR l cs).1)
  repeat (first | refine RL.vv ?_ | refine RL.p ?_ | refine RL.nil ?_ | refine Sim.seq ?_ | refine Sim.region ?_ | refine Sim.block ?_ | refine Sim.skip ?_ | refine Sim.inBlock ?_ | refine Sim.exit rfl ?_ | refine Sim.condT rfl ?_ | refine Sim.condF rfl ?_)
  refine RL.val trivial rfl (y_neqA (b := true) rfl rfl guard_fault (flt_self (seeR l cs).2)) ?_
  repeat (first | refine RL.vv ?_ | refine RL.p ?_ | refine RL.nil ?_ | refine Sim.seq ?_ | refine Sim.region ?_ | refine Sim.block ?_ | refine Sim.skip ?_ | refine Sim.inBlock ?_ | refine Sim.exit rfl ?_ | refine Sim.condT rfl ?_ | refine Sim.condF rfl ?_)
  refine RL.cx (RTypes_any w8 ha7 hrs (hl.up hu8) h6 h7) ?_
  rintro _ w9 ⟨tv, ov, rfl, h89, htv, hov⟩
  refine ⟨_, rfl, ?_⟩
  have hu9 := hu8.trans h89
  have hsn := hsn.up h89
  obtain ⟨ta, tc, rfl, _⟩ := id htv
  obtain ⟨wa, wc, rfl, _⟩ := id hov
  have k1 : ¬ ¬ ((viewR l (seeR l cs).1).length : Int) = (((viewR l (seeR l cs).1).map (·.type)).length : Int) := fun h => h (by rw [List.length_map])
  clear ha6 ha7 ha8 hb6 hb7 hb8 h5
  generalize hvw : viewR l (seeR l cs).1 = vw at *
  repeat (first | refine RL.vv ?_ | refine RL.p ?_ | refine RL.nil ?_ | refine Sim.seq ?_ | refine Sim.region ?_ | refine Sim.block ?_ | refine Sim.skip ?_ | refine Sim.inBlock ?_ | refine Sim.exit rfl ?_ | refine Sim.condT rfl ?_ | refine Sim.condF rfl ?_)
  refine RL.cx (Types_any w9 hsn (by omega)) ?_
  rintro _ w10 ⟨tv2, rfl, h910, ht2⟩
  refine ⟨_, rfl, ?_⟩
  have htv := htv.up h910
  have hov := hov.up h910
  have hsn := hsn.up h910
  have hu10 := hu9.trans h910
  refine RL.vv ?_
  refine RL.cu hu10 (SameTypes_eq w10 ht2 htv) fun w11 hu11 h1011 => ?_
  have htv := htv.up h1011
  have hov := hov.up h1011
  have hsn := hsn.up h1011
  clear ht2 h910 h1011 h89 hu10 hu9 hu8
  repeat (first | refine RL.vv ?_ | refine RL.p ?_ | refine RL.nil ?_ | refine Sim.seq ?_ | refine Sim.region ?_ | refine Sim.block ?_ | refine Sim.skip ?_ | refine Sim.inBlock ?_ | refine Sim.exit rfl ?_ | refine Sim.condT rfl ?_ | refine Sim.condF rfl ?_)
  refine Sim.loop (σ := Nat) (fun i => [(0, .slice la l.length lc), (5, .slice va vw.length vc), (9, .slice ta (vw.map (·.type)).length tc), (10, .slice wa (vw.map (·.fields)).length wc), (58, .int .i64 (vw.length : Int)), (59, .int .i64 (i : Int))]) (fun i w' => i ≤ vw.length ∧ Up w w' ∧ Up w11 w') (fun i => vw.length - i) 0 sb ⟨Nat.zero_le _, hu11, .refl _⟩ ?_
  rintro i w12 ⟨hi, hu, h1112⟩ next
  by_cases hlt : i < vw.length
  rotate_left
  · repeat (first | refine RL.vv ?_ | refine RL.p ?_ | refine RL.nil ?_ | refine Sim.seq ?_ | refine Sim.region ?_ | refine Sim.block ?_ | refine Sim.skip ?_ | refine Sim.inBlock ?_ | refine Sim.exit rfl ?_ | refine Sim.condT rfl ?_ | refine Sim.condF rfl ?_)
    exact Sim.ret1 Try.func9 rfl rfl ⟨rfl, hu⟩
  have hlx : l[i]? = some l[i] := List.getElem?_eq_getElem (by omega)
  have hvx : vw[i]? = some (snAt (seeR l cs).1 i l[i]) := by
    have e := view_get (l := l) (s := (seeR l cs).1) i
    rw [hvw, hlx] at e
    exact e
  have htx : (vw.map (·.type))[i]? = some (snAt (seeR l cs).1 i l[i]).type := by rw [List.getElem?_map, hvx]; rfl
  have hox : (vw.map (·.fields))[i]? = some (snAt (seeR l cs).1 i l[i]).fields := by rw [List.getElem?_map, hvx]; rfl
  obtain ⟨b1, o1, cs1, rfl, _, hat1, ⟨f1, n1, rfl, hf1, hn1⟩, _⟩ := (hsn.up h1112).at hvx
  obtain ⟨b2, o2, cs2, rfl, _, hat2, ⟨f2, rfl, hf2⟩, _⟩ := (htv.up h1112).at htx
  obtain ⟨b3, o3, cs3, rfl, _, hat3, ⟨n3, rfl, hn3⟩, _⟩ := (hov.up h1112).at hox
  obtain ⟨b4, o4, cs4, rfl, _, hat4, ⟨f4, rfl, _⟩, _⟩ := (hl.up hu).at hlx
  have hat1 : At w12 b1 (o1 + i * 4) _ := hat1
  have hat2 : At w12 b2 (o2 + i * 2) _ := hat2
  have hat3 : At w12 b3 (o3 + i * 1) _ := hat3
  have hat4 : At w12 b4 (o4 + i * 2) _ := hat4
  have hown : (snAt (seeR l cs).1 i l[i]).own = l[i].name := rfl
  generalize snAt (seeR l cs).1 i l[i] = q at *
  generalize l[i] = t at *
  obtain ⟨qt, qo, qf⟩ := q
  obtain ⟨qn, qfs⟩ := qt
  simp only at hf1 hn1 hf2 hn3 hat1 hat2 hat3 hown
  have hown' : ¬ ¬ qo = t.name := fun h => h hown
  obtain ⟨xa1, xc1, rfl, _⟩ := id hf1
  obtain ⟨xa2, xc2, rfl, _⟩ := id hf2
  obtain ⟨xa3, xc3, rfl, _⟩ := id hn1
  obtain ⟨xa4, xc4, rfl, _⟩ := id hn3
  have hil1 : i < (vw.map (·.type)).length := by rw [List.length_map]; exact hlt
  have hil2 : i < (vw.map (·.fields)).length := by rw [List.length_map]; exact hlt
  have hil3 : i < l.length := by omega
  clear hsn htv hov
  repeat (first | refine RL.vv ?_ | refine RL.p ?_ | refine RL.nil ?_ | refine Sim.seq ?_ | refine Sim.region ?_ | refine Sim.block ?_ | refine Sim.skip ?_ | refine Sim.inBlock ?_ | refine Sim.exit rfl ?_ | refine Sim.condT rfl ?_ | refine Sim.condF rfl ?_)
  refine Sim.q ?_
  repeat (first | refine RQ.vv ?_ | refine RQ.p ?_)
  refine RQ.cu (fun wq hq => q_call (SameTexts_eq wq (hn1.up hq) (hn3.up hq)) hq) ?_
  have hat1p : At w12 b1 (o1 + i * 4) [.string qn, .slice xa1 qfs.length xc1] := fun j u hj => hat1 j u (by match j, hj with | 0, hj => exact hj | 1, hj => exact hj)
  repeat (first | refine RQ.vv ?_ | refine RQ.p ?_)
  refine RQ.cu (fun wq hq => q_call (SameType_eq ⟨qn, qfs⟩ wq (hf1.up hq) (hf2.up hq)) hq) ?_
  repeat (first | refine RQ.vv ?_ | refine RQ.p ?_)
  refine RQ.nil fun w13 hq => ?_
  repeat (first | refine RL.vv ?_ | refine RL.p ?_ | refine RL.nil ?_ | refine Sim.seq ?_ | refine Sim.region ?_ | refine Sim.block ?_ | refine Sim.skip ?_ | refine Sim.inBlock ?_ | refine Sim.exit rfl ?_ | refine Sim.condT rfl ?_ | refine Sim.condF rfl ?_)
  exact next (i + 1) _ _ ⟨by omega, hu.trans hq, h1112.trans hq⟩ (by omega) sb
end Go.Proofs.Ytgckpmcdlciibaa
