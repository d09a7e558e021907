/- Contracts of chapter 2: what is seen behind changes: the walk. -/
import Derived.Test.YtgckpmcdlciibaaC34
import Derived.Test.YtgckpmcdlciibaaC20
namespace Go.Proofs.Ytgckpmcdlciibaa
open Go.RowKit
theorem doAll_cons (v : List Sn) (i : Nat) (c : Chg) (cs : List Chg) : doAll v i (c :: cs) = if (doV v c).1 = 0 then doAll (doV v c).2 (i + 1) cs else ([], ⟨(doV v c).1, i⟩) := rfl
theorem ViewAt.bt {B k : Nat} {w w1 : World} {v : Value} {hds : List Hd} {sns : List Sn} {lab : Nat → Nat} (h : ViewAt B w v hds sns lab) (hb : But k w w1) (hk : k < B) : ViewAt B w1 v hds sns lab :=
  ⟨h.row.but hb (fun _ h => h.elim) (fun g hg => by have := (h.row.lt g hg).1; omega), h.len, h.own0, h.name,
    fun i a s h1 h2 => ⟨(h.fs i a s h1 h2).1.but hb (fun _ h => h.elim) (fun g hg => by have := ((h.fs i a s h1 h2).1.lt g hg).1; omega), (h.fs i a s h1 h2).2⟩,
    fun i a s h1 h2 => ⟨(h.ns i a s h1 h2).1.but hb (fun _ h => h.elim) (fun g hg => by have := ((h.ns i a s h1 h2).1.lt g hg).1; omega), (h.ns i a s h1 h2).2⟩⟩
theorem ViewAt.base {B B' : Nat} {w : World} {v : Value} {hds : List Hd} {sns : List Sn} {lab : Nat → Nat} (h : ViewAt B w v hds sns lab) (hB : B' ≤ B) : ViewAt B' w v hds sns lab :=
  ⟨h.row.base hB, h.len, h.own0, h.name, fun i a s h1 h2 => ⟨(h.fs i a s h1 h2).1.base hB, (h.fs i a s h1 h2).2⟩, fun i a s h1 h2 => ⟨(h.ns i a s h1 h2).1.base hB, (h.ns i a s h1 h2).2⟩⟩
theorem wrongT_len {l : List Typ} (h : (wrongT l).err = 0) : l.length ≤ 8 ∧ ∀ t ∈ l, t.fields.length ≤ 10 := by
  unfold wrongT at h
  split at h
  · cases h
  rename_i h8
  cases hf : firstBad (nameErr l) 0 l with
  | some q =>
    rw [hf] at h
    obtain ⟨i, e⟩ := q
    obtain ⟨_, _, _, _, _, hne, _⟩ := firstBad_some hf
    exact absurd h hne
  | none =>
    rw [hf] at h
    cases hf2 : firstBad (fun _ t => fieldsErr l t) 0 l with
    | some q =>
      rw [hf2] at h
      obtain ⟨i, e⟩ := q
      obtain ⟨_, _, _, _, _, hne, _⟩ := firstBad_some hf2
      exact absurd h hne
    | none =>
      refine ⟨by omega, fun t ht => ?_⟩
      obtain ⟨j, hj⟩ := List.getElem?_of_mem ht
      have := firstBad_eq_none hf2 j t hj
      unfold fieldsErr at this
      split at this
      · cases this
      · omega
set_option maxHeartbeats 4000000 in
theorem See_any {S S2 : Nat → Prop} {lv cv : Value} {l : List Typ} {cs : List Chg} (w : World) (hl : SliceOf typLay S w lv l) (hcs : SliceOf chgLay S2 w cv cs) :
    Calls Try.prog 34 #[lv, cv] w fun en w' => ∃ v, en = .returned (.tuple #[v, fltV (seeM l cs).2]) ∧ Up w w' ∧ ∃ hds lab, ViewAt w.heap.size w' v hds (seeM l cs).1 lab := by
  refine calls_of_sim Try.func34 rfl (Nat.le_of_ble_eq_true rfl) ?_
  obtain ⟨la, lc, rfl, hlnc, hlcm, _⟩ := id hl
  obtain ⟨ca, cc, rfl, hcnc, hccm, _⟩ := id hcs
  unfold maxLen at hlcm hccm
  repeat (first | refine RL.vv ?_ | refine RL.p ?_ | refine RL.nil ?_ | refine Sim.seq ?_ | refine Sim.region ?_ | refine Sim.block ?_ | refine Sim.skip ?_ | refine Sim.inBlock ?_ | refine Sim.exit rfl ?_ | refine Sim.condT rfl ?_ | refine Sim.condF rfl ?_)
  refine RL.al (.refl w) fun b5 w1 _ hle5 hu1 _ hb5 => ?_
  repeat (first | refine RL.vv ?_ | refine RL.p ?_ | refine RL.nil ?_ | refine Sim.seq ?_ | refine Sim.region ?_ | refine Sim.block ?_ | refine Sim.skip ?_ | refine Sim.inBlock ?_ | refine Sim.exit rfl ?_ | refine Sim.condT rfl ?_ | refine Sim.condF rfl ?_)
  refine RL.cu hu1 (Wrong_any w1 (hl.up hu1)) fun w2 hu h12 => ?_
  have hb5 := hb5.up h12
  clear hu1 h12
  refine RL.al hu fun b6 w3 he6 hle6 hu h23 hb6 => ?_
  have hl56 : b5 < b6 := by have := hb5.lt; omega
  have hb5 := hb5.up h23
  unfold fltV
  refine RL.st hu hb6 hle6 fun w4 hu hbt hb6 => ?_
  have hb6 : Box w4 b6 _ [.int .i64 (wrongT l).err, .int .i64 (wrongT l).at_] := hb6
  have hb5 : Box w4 b5 _ [.int .i64 0, .int .i64 0] := hb5.but hbt (by omega)
  clear h23 hbt he6
  have ha6 := hb6.at
  by_cases he : (wrongT l).err = 0
  rotate_left
  · have hsee : seeM l cs = ([], wrongT l) := by
      unfold seeM
      rw [if_pos he]
    rw [hsee]
    repeat (first | refine RL.vv ?_ | refine RL.p ?_ | refine RL.nil ?_ | refine Sim.seq ?_ | refine Sim.region ?_ | refine Sim.block ?_ | refine Sim.skip ?_ | refine Sim.inBlock ?_ | refine Sim.exit rfl ?_ | refine Sim.condT rfl ?_ | refine Sim.condF rfl ?_)
    have hS : Up w w4.drew ∧ At w4.drew b6 0 [.int .i64 (wrongT l).err, .int .i64 (wrongT l).at_] := ⟨hu.trans (Up.drew _), ha6.up (Up.drew _)⟩
    refine Sim.ord (fun wq => Up w wq ∧ At wq b6 0 [.int .i64 (wrongT l).err, .int .i64 (wrongT l).at_]) ?_
    refine RO.tk 0 ?_ (hy := fun wq hq => y_loadA rfl hq.2 rfl)
    refine RO.tk 1 ?_
    refine RO.one 2 ?_
    refine RL.st hS.1 (hb5.up (Up.drew _)) hle5 fun w5 hu5 hbt hb5 => ?_
    refine RL.ord ⟨hu5, (hb6.up (Up.drew _)).but hbt (by omega) |>.at⟩ ?_
    refine RO.done (RL.nil ?_)
    repeat (first | refine RL.vv ?_ | refine RL.p ?_ | refine RL.nil ?_ | refine Sim.seq ?_ | refine Sim.region ?_ | refine Sim.block ?_ | refine Sim.skip ?_ | refine Sim.inBlock ?_ | refine Sim.exit rfl ?_ | refine Sim.condT rfl ?_ | refine Sim.condF rfl ?_)
    exact Sim.retTC (cs := [.int .i64 (wrongT l).err, .int .i64 (wrongT l).at_]) Try.func34 rfl rfl rfl hb5.at rfl ⟨_, rfl, hu5, [], fun _ => 0, ViewAt.nil _ _ _⟩
  obtain ⟨hl8, hf10⟩ := wrongT_len he
  by_cases h12 : (12 : Int) < cs.length
  · have hsee : seeM l cs = ([], ⟨4, 0⟩) := by
      unfold seeM
      rw [if_neg (by omega), if_pos (by omega)]
    rw [hsee]
    repeat (first | refine RL.vv ?_ | refine RL.p ?_ | refine RL.nil ?_ | refine Sim.seq ?_ | refine Sim.region ?_ | refine Sim.block ?_ | refine Sim.skip ?_ | refine Sim.inBlock ?_ | refine Sim.exit rfl ?_ | refine Sim.condT rfl ?_ | refine Sim.condF rfl ?_)
    refine RL.val trivial rfl (y_build (v := .agg #[.int .i64 4, .int .i64 0]) rfl (fun w => by kernel_rfl)) ?_
    repeat (first | refine RL.vv ?_ | refine RL.p ?_ | refine RL.nil ?_ | refine Sim.seq ?_ | refine Sim.region ?_ | refine Sim.block ?_ | refine Sim.skip ?_ | refine Sim.inBlock ?_ | refine Sim.exit rfl ?_ | refine Sim.condT rfl ?_ | refine Sim.condF rfl ?_)
    refine RL.st hu hb5 hle5 fun w5 hu5 hbt hb5 => ?_
    repeat (first | refine RL.vv ?_ | refine RL.p ?_ | refine RL.nil ?_ | refine Sim.seq ?_ | refine Sim.region ?_ | refine Sim.block ?_ | refine Sim.skip ?_ | refine Sim.inBlock ?_ | refine Sim.exit rfl ?_ | refine Sim.condT rfl ?_ | refine Sim.condF rfl ?_)
    exact Sim.retTC (cs := [.int .i64 4, .int .i64 0]) Try.func34 rfl rfl rfl hb5.at rfl ⟨_, rfl, hu5, [], fun _ => 0, ViewAt.nil _ _ _⟩
  have hsee : seeM l cs = doAll (seeInit l) 0 cs := by
    unfold seeM
    rw [if_neg (by omega), if_neg (by omega)]
  rw [hsee]
  have hlt5 := hb5.lt
  have hs4 := hu.size
  repeat (first | refine RL.vv ?_ | refine RL.p ?_ | refine RL.nil ?_ | refine Sim.seq ?_ | refine Sim.region ?_ | refine Sim.block ?_ | refine Sim.skip ?_ | refine Sim.inBlock ?_ | refine Sim.exit rfl ?_ | refine Sim.condT rfl ?_ | refine Sim.condF rfl ?_)
  refine Sim.loop (σ := Nat × Value) (fun st => [(0, .slice la l.length lc), (1, .slice ca cs.length cc), (5, .pointer (some ⟨b5, 0, none⟩)), (25, .slice la l.length lc), (26, .int .i64 (l.length : Int)), (27, .int .i64 (st.1 : Int)), (7, st.2)])
    (fun st w' => st.1 ≤ l.length ∧ Up w w' ∧ w4.heap.size ≤ w'.heap.size ∧ Box w' b5 51 [.int .i64 0, .int .i64 0] ∧ ∃ hds lab, ViewAt w4.heap.size w' st.2 hds (seeInit (l.take st.1)) lab) (fun st => l.length - st.1) (0, .slice none 0 0) sb ⟨Nat.zero_le _, hu, Nat.le_refl _, hb5, [], fun _ => 0, ViewAt.nil _ _ _⟩ ?_
  clear hu hb5 hb6 ha6
  generalize w4.heap.size = B at *
  rintro ⟨i, v⟩ w5 ⟨hi, hu, hB5, hb5, hds, lab, hv⟩ next
  simp only at hi hv next ⊢
  by_cases hlt : i < l.length
  rotate_left
  · have : i = l.length := by omega
    subst this
    rw [List.take_length] at hv
    repeat (first | refine RL.vv ?_ | refine RL.p ?_ | refine RL.nil ?_ | refine Sim.seq ?_ | refine Sim.region ?_ | refine Sim.block ?_ | refine Sim.skip ?_ | refine Sim.inBlock ?_ | refine Sim.exit rfl ?_ | refine Sim.condT rfl ?_ | refine Sim.condF rfl ?_)
    refine Sim.loop (σ := Nat) (fun i => [(1, .slice ca cs.length cc), (5, .pointer (some ⟨b5, 0, none⟩)), (7, v), (61, .int .i64 (cs.length : Int)), (62, .int .i64 (i : Int))])
      (fun i w' => i ≤ cs.length ∧ Up w w' ∧ B ≤ w'.heap.size ∧ Box w' b5 51 [.int .i64 0, .int .i64 0] ∧ ∃ hds lab sns, ViewAt B w' v hds sns lab ∧ (∀ s ∈ sns, s.fields.length = s.type.fields.length) ∧ doAll (seeInit l) 0 cs = doAll sns i (cs.drop i)) (fun i => cs.length - i) 0 sb ⟨Nat.zero_le _, hu, hB5, hb5, hds, lab, _, hv, seeInit_flat l, by simp⟩ ?_
    clear hu hb5 hv hB5 next hds lab
    rintro i w5 ⟨hi, hu, hB5, hb5, hds, lab, sns, hv, hfl, heq⟩ next
    by_cases hlt : i < cs.length
    rotate_left
    · rw [List.drop_eq_nil_of_le (by omega)] at heq
      rw [heq]
      repeat (first | refine RL.vv ?_ | refine RL.p ?_ | refine RL.nil ?_ | refine Sim.seq ?_ | refine Sim.region ?_ | refine Sim.block ?_ | refine Sim.skip ?_ | refine Sim.inBlock ?_ | refine Sim.exit rfl ?_ | refine Sim.condT rfl ?_ | refine Sim.condF rfl ?_)
      refine RL.val trivial rfl (y_build (v := .agg #[.int .i64 0, .int .i64 0]) rfl (fun w => by kernel_rfl)) ?_
      repeat (first | refine RL.vv ?_ | refine RL.p ?_ | refine RL.nil ?_ | refine Sim.seq ?_ | refine Sim.region ?_ | refine Sim.block ?_ | refine Sim.skip ?_ | refine Sim.inBlock ?_ | refine Sim.exit rfl ?_ | refine Sim.condT rfl ?_ | refine Sim.condF rfl ?_)
      refine RL.st hu hb5 hle5 fun w6 hu6 hbt hb5 => ?_
      have hv6 : ViewAt w.heap.size w6 v hds sns lab := (hv.bt hbt hlt5).base hs4
      repeat (first | refine RL.vv ?_ | refine RL.p ?_ | refine RL.nil ?_ | refine Sim.seq ?_ | refine Sim.region ?_ | refine Sim.block ?_ | refine Sim.skip ?_ | refine Sim.inBlock ?_ | refine Sim.exit rfl ?_ | refine Sim.condT rfl ?_ | refine Sim.condF rfl ?_)
      exact Sim.retTC (cs := [.int .i64 0, .int .i64 0]) Try.func34 rfl rfl rfl hb5.at rfl ⟨_, rfl, hu6, hds, lab, hv6⟩
    have hx : cs[i]? = some cs[i] := List.getElem?_eq_getElem hlt
    rw [List.drop_eq_getElem_cons hlt] at heq
    obtain ⟨cb, co, cs2, rfl, _, hcat, rfl, _⟩ := hcs.at hx
    have hcat : At w cb (co + i * 4) _ := hcat
    have hcb := hcat.lt
    generalize cs[i] = c at *
    repeat (first | refine RL.vv ?_ | refine RL.p ?_ | refine RL.nil ?_ | refine Sim.seq ?_ | refine Sim.region ?_ | refine Sim.block ?_ | refine Sim.skip ?_ | refine Sim.inBlock ?_ | refine Sim.exit rfl ?_ | refine Sim.condT rfl ?_ | refine Sim.condF rfl ?_)
    refine RL.cx (do_any c w5 hv (hcat.up hu) (by omega) hB5 hfl) ?_
    rintro _ w6 ⟨rfl, hbel, hds6, hv6⟩
    refine ⟨_, rfl, ?_⟩
    have hu6 : Up w w6 := Below.trans (b := w5) hu (Below.mono hbel hs4)
    have hb5 : Box w6 b5 51 [.int .i64 0, .int .i64 0] := (Below.block hbel b5 hlt5).trans hb5
    rw [doAll_cons] at heq
    by_cases h0 : (doV sns c).1 = 0
    · rw [if_pos h0] at heq
      repeat (first | refine RL.vv ?_ | refine RL.p ?_ | refine RL.nil ?_ | refine Sim.seq ?_ | refine Sim.region ?_ | refine Sim.block ?_ | refine Sim.skip ?_ | refine Sim.inBlock ?_ | refine Sim.exit rfl ?_ | refine Sim.condT rfl ?_ | refine Sim.condF rfl ?_)
      exact next (i + 1) _ _ ⟨by omega, hu6, Nat.le_trans hB5 hbel.size, hb5, hds6, lab, _, hv6, doV_flat hfl, heq⟩ (by omega) sb
    · rw [if_neg h0] at heq
      rw [heq]
      repeat (first | refine RL.vv ?_ | refine RL.p ?_ | refine RL.nil ?_ | refine Sim.seq ?_ | refine Sim.region ?_ | refine Sim.block ?_ | refine Sim.skip ?_ | refine Sim.inBlock ?_ | refine Sim.exit rfl ?_ | refine Sim.condT rfl ?_ | refine Sim.condF rfl ?_)
      refine RL.val trivial rfl (y_build (v := .agg #[.int .i64 (doV sns c).1, .int .i64 (i : Int)]) rfl (fun w => by kernel_rfl)) ?_
      repeat (first | refine RL.vv ?_ | refine RL.p ?_ | refine RL.nil ?_ | refine Sim.seq ?_ | refine Sim.region ?_ | refine Sim.block ?_ | refine Sim.skip ?_ | refine Sim.inBlock ?_ | refine Sim.exit rfl ?_ | refine Sim.condT rfl ?_ | refine Sim.condF rfl ?_)
      refine RL.st hu6 hb5 hle5 fun w7 hu7 hbt hb5 => ?_
      repeat (first | refine RL.vv ?_ | refine RL.p ?_ | refine RL.nil ?_ | refine Sim.seq ?_ | refine Sim.region ?_ | refine Sim.block ?_ | refine Sim.skip ?_ | refine Sim.inBlock ?_ | refine Sim.exit rfl ?_ | refine Sim.condT rfl ?_ | refine Sim.condF rfl ?_)
      exact Sim.retTC (cs := [.int .i64 (doV sns c).1, .int .i64 (i : Int)]) Try.func34 rfl rfl rfl hb5.at rfl ⟨_, rfl, hu7, [], fun _ => 0, ViewAt.nil _ _ _⟩
  have hx : l[i]? = some l[i] := List.getElem?_eq_getElem hlt
  obtain ⟨tb, to, cs2, rfl, _, htat, ⟨fv, rfl, hfv⟩, _⟩ := hl.at hx
  have htat : At w tb (to + i * 2) _ := htat
  have hf10 := hf10 l[i] (List.mem_of_getElem? hx)
  have htk : seeInit (l.take (i + 1)) = seeInit (l.take i) ++ [⟨l[i], l[i].name, l[i].fields.map (·.name)⟩] := by
    unfold seeInit
    rw [List.take_succ_eq_append_getElem hlt, List.map_append]
    rfl
  generalize l[i] = t at *
  obtain ⟨fa, fc, rfl, _, _, _⟩ := id hfv
  repeat (first | refine RL.vv ?_ | refine RL.p ?_ | refine RL.nil ?_ | refine Sim.seq ?_ | refine Sim.region ?_ | refine Sim.block ?_ | refine Sim.skip ?_ | refine Sim.inBlock ?_ | refine Sim.exit rfl ?_ | refine Sim.condT rfl ?_ | refine Sim.condF rfl ?_)
  refine RL.al (.refl w5) fun b9 w6 _ hle9 h56 _ hb9 => ?_
  repeat (first | refine RL.vv ?_ | refine RL.p ?_ | refine RL.nil ?_ | refine Sim.seq ?_ | refine Sim.region ?_ | refine Sim.block ?_ | refine Sim.skip ?_ | refine Sim.inBlock ?_ | refine Sim.exit rfl ?_ | refine Sim.condT rfl ?_ | refine Sim.condF rfl ?_)
  refine RL.st h56 hb9 hle9 fun w7 h57 _ hb9 => ?_
  have hb9 : Box w7 b9 _ [.string t.name, .slice fa t.fields.length fc] := hb9
  repeat (first | refine RL.vv ?_ | refine RL.p ?_ | refine RL.nil ?_ | refine Sim.seq ?_ | refine Sim.region ?_ | refine Sim.block ?_ | refine Sim.skip ?_ | refine Sim.inBlock ?_ | refine Sim.exit rfl ?_ | refine Sim.condT rfl ?_ | refine Sim.condF rfl ?_)
  have ha9 := hb9.at
  refine Sim.cutX (σ := Value × Nat) (fun st => [(0, .slice (some ⟨tb, to, none⟩) l.length lc), (1, .slice ca cs.length cc), (5, .pointer (some ⟨b5, 0, none⟩)), (25, .slice (some ⟨tb, to, none⟩) l.length lc), (26, .int .i64 (l.length : Int)), (27, .int .i64 (i : Int)), (7, v), (9, .pointer (some ⟨b9, 0, none⟩)), (10, .pointer (some ⟨st.2, 0, none⟩))])
    (fun st w' => Up w5 w' ∧ Box w' b9 55 [.string t.name, .slice fa t.fields.length fc] ∧ Box w' st.2 74 [.string t.name, st.1, .string t.name, .slice none 0 0] ∧ Own fldLay 118 w5.heap.size Nn w' st.1 t.fields ∧ (∀ g, st.1.ownBlock = some g → g ≠ st.2) ∧ w5.heap.size ≤ st.2) (fun k' nextc => ?_) ?_
  · have h0 := Up.drew w7
    refine Sim.ord (Up w7) ?_
    refine RO.tk 0 ?_
    refine RO.tk 1 ?_
    refine RO.tk 2 ?_
    refine RO.tk 3 ?_
    refine RO.tk 6 ?_
    refine RO.tk 7 ?_
    refine RO.two 4 9 ?_ ?_
    · refine RL.cx (Clone_Fld (S' := Nn) _ (hfv.up ((hu.trans h57).trans h0)) (by omega)) ?_
      rintro _ w8 ⟨fv', rfl, h8, hF⟩
      refine ⟨_, rfl, ?_⟩
      have hF := hF.base h0.size
      have h0 := h0.trans h8
      obtain ⟨xa, xn, xc, rfl⟩ := hF.sh
      refine RL.ord h0 ?_
      refine RO.tk 5 ?_ (hy := fun wq hq => y_build (v := .agg #[.string t.name, .slice xa xn xc]) rfl (fun w => by kernel_rfl))
      refine RO.tk 8 ?_ (hy := fun wq hq => y_build (v := .agg #[.string t.name, .slice xa xn xc, .string t.name, .slice none 0 0]) rfl (fun w => by kernel_rfl))
      refine RO.one 9 ?_
      refine RL.al h0 fun b10 w9 he10 h10 h0 h hb10 => ?_
      have h910 : b9 ≠ b10 := by have := (hb9.up (Up.drew w7)).lt; have := h8.size; omega
      have hF10 : ∀ g, Value.ownBlock (.slice xa xn xc) = some g → g ≠ b10 := fun g hg => by have := (hF.lt g hg).2; omega
      have hF := hF.up h
      have hb9 := hb9.up h0
      refine RL.ord h0 ?_
      refine RO.one 10 ?_
      refine RL.st h0 hb10 h10 fun w9 h0 hbt hb10 => ?_
      have hb9 := hb9.but hbt h910
      have hF := hF.but hbt (fun _ h => h.elim) hF10
      refine RL.ord h0 ?_
      refine RO.done (RL.nil ?_)
      exact nextc (.slice xa xn xc, b10) _ _ ⟨h57.trans h0, hb9, hb10, hF.base h57.size, hF10, Nat.le_trans h57.size h10⟩ sb
    · refine RL.al h0 fun b10 w8 he10 h10 h0 h hb10 => ?_
      have h910 : b9 ≠ b10 := by have := (hb9.up (Up.drew w7)).lt; omega
      refine RL.ord h0 ?_
      refine RO.one 4 ?_
      refine RL.cx (Clone_Fld (S' := Nn) _ (hfv.up ((hu.trans h57).trans h0)) (by omega)) ?_
      rintro _ w9 ⟨fv', rfl, h9, hF⟩
      refine ⟨_, rfl, ?_⟩
      have hF10 : ∀ g, fv'.ownBlock = some g → g ≠ b10 := fun g hg => by have := (hF.lt g hg).1; have := hb10.lt; omega
      have hF := hF.base h0.size
      have h0 := h0.trans h9
      have hb10 := hb10.up h9
      have hb9 := hb9.up h0
      obtain ⟨xa, xn, xc, rfl⟩ := hF.sh
      refine RL.ord h0 ?_
      refine RO.tk 5 ?_ (hy := fun wq hq => y_build (v := .agg #[.string t.name, .slice xa xn xc]) rfl (fun w => by kernel_rfl))
      refine RO.tk 8 ?_ (hy := fun wq hq => y_build (v := .agg #[.string t.name, .slice xa xn xc, .string t.name, .slice none 0 0]) rfl (fun w => by kernel_rfl))
      refine RO.one 10 ?_
      refine RL.st h0 hb10 h10 fun w9 h0 hbt hb10 => ?_
      have hb9 := hb9.but hbt h910
      have hF := hF.but hbt (fun _ h => h.elim) hF10
      refine RL.ord h0 ?_
      refine RO.done (RL.nil ?_)
      exact nextc (.slice xa xn xc, b10) _ _ ⟨h57.trans h0, hb9, hb10, hF.base h57.size, hF10, Nat.le_trans h57.size h10⟩ sb
  clear h57 hb9 ha9
  rintro ⟨F, b10⟩ w8 ⟨h58, hb9, hb10, hF, hF10, hle10⟩
  simp only at hb10 hF hF10 hle10 ⊢
  have ha9 := hb9.at
  have hF8 := hF.lt
  have hlt9 := hb9.lt
  have hlt10 := hb10.lt
  have hs58 := h58.size
  repeat (first | refine RL.vv ?_ | refine RL.p ?_ | refine RL.nil ?_ | refine Sim.seq ?_ | refine Sim.region ?_ | refine Sim.block ?_ | refine Sim.skip ?_ | refine Sim.inBlock ?_ | refine Sim.exit rfl ?_ | refine Sim.condT rfl ?_ | refine Sim.condF rfl ?_)
  refine Sim.loop (σ := Nat) (fun j => [(0, .slice (some ⟨tb, to, none⟩) l.length lc), (1, .slice ca cs.length cc), (5, .pointer (some ⟨b5, 0, none⟩)), (25, .slice (some ⟨tb, to, none⟩) l.length lc), (26, .int .i64 (l.length : Int)), (27, .int .i64 (i : Int)), (7, v), (9, .pointer (some ⟨b9, 0, none⟩)), (10, .pointer (some ⟨b10, 0, none⟩)), (41, .slice fa t.fields.length fc), (42, .int .i64 (t.fields.length : Int)), (43, .int .i64 (j : Int))])
    (fun j w' => j ≤ t.fields.length ∧ Up w5 w' ∧ w8.heap.size ≤ w'.heap.size ∧ Own fldLay 118 w5.heap.size Nn w' F t.fields ∧ ∃ nv, Box w' b10 74 [.string t.name, F, .string t.name, nv] ∧ Own strLay 9 w8.heap.size Nn w' nv ((t.fields.take j).map (·.name))) (fun j => t.fields.length - j) 0 sb ⟨Nat.zero_le _, h58, Nat.le_refl _, hF, _, hb10, Own.nil _ _ _ _ _⟩ ?_
  clear h58 hb9 ha9 hb10 hF
  rintro j w9 ⟨hj, h59, hs89, hF, nv, hb10, hN⟩ next2
  have hu9 := hu.trans h59
  by_cases hjl : j < t.fields.length
  · have hfj : t.fields[j]? = some t.fields[j] := List.getElem?_eq_getElem hjl
    obtain ⟨fb, fo, cs3, rfl, _, hfat, rfl, _⟩ := hfv.at hfj
    have hfat : At w fb (fo + j * 3) _ := hfat
    have hnk : (t.fields.take (j + 1)).map (·.name) = (t.fields.take j).map (·.name) ++ [t.fields[j].name] := by rw [List.take_succ_eq_append_getElem hjl, List.map_append]; rfl
    generalize t.fields[j] = fj at *
    have hu := hu9
    repeat (first | refine RL.vv ?_ | refine RL.p ?_ | refine RL.nil ?_ | refine Sim.seq ?_ | refine Sim.region ?_ | refine Sim.block ?_ | refine Sim.skip ?_ | refine Sim.inBlock ?_ | refine Sim.exit rfl ?_ | refine Sim.condT rfl ?_ | refine Sim.condF rfl ?_)
    refine RL.al (.refl w9) fun b12 w10 _ hle12 h910 _ hb12 => ?_
    repeat (first | refine RL.vv ?_ | refine RL.p ?_ | refine RL.nil ?_ | refine Sim.seq ?_ | refine Sim.region ?_ | refine Sim.block ?_ | refine Sim.skip ?_ | refine Sim.inBlock ?_ | refine Sim.exit rfl ?_ | refine Sim.condT rfl ?_ | refine Sim.condF rfl ?_)
    refine RL.st h910 hb12 hle12 fun w11 h911 _ hb12 => ?_
    have hb12 : Box w11 b12 _ [.string fj.name, .int .i64 fj.kind, .string fj.type] := hb12
    have h59 := h59.trans h911
    have hF := hF.up h911
    have hb10 := hb10.up h911
    have hN := hN.up h911
    have hs911 := h911.size
    have ha12 := hb12.at
    have ha10 := hb10.at
    clear hu h910 h911
    repeat (first | refine RL.vv ?_ | refine RL.p ?_ | refine RL.nil ?_ | refine Sim.seq ?_ | refine Sim.region ?_ | refine Sim.block ?_ | refine Sim.skip ?_ | refine Sim.inBlock ?_ | refine Sim.exit rfl ?_ | refine Sim.condT rfl ?_ | refine Sim.condF rfl ?_)
    refine RL.bu (el := 9) [.string fj.name] (.refl w11) fun b13 w12 he13 _ _ h1112 hb13 => ?_
    have hne := hN.ne (Nat.le_of_eq he13.symm)
    have hs12 := h1112.size
    refine RL.app (L := strLay) (el := 9) (S := fun _ => True) (B := w8.heap.size) (ys := [fj.name]) (h59.trans h1112) (hN.up h1112).no (SliceOf.one hb13 ⟨trivial, hne⟩ rfl) (by simp; omega) hs58 (by omega) fun nv2 w13 h513 ho hg hv => ?_
    have hF := (hF.up h1112).grown hg (fun _ h => h.elim) (fun g hg' e => by have := (hF8 g hg').2; have := (hN.lt g e.symm).1; omega)
    have hb10 := (hb10.up h1112).grown hg (hN.ne' hlt10)
    have hs13 := hg.size
    obtain ⟨na, nn, nc, rfl⟩ := ho.sh
    clear hg hv hne ha12 ha10
    repeat (first | refine RL.vv ?_ | refine RL.p ?_ | refine RL.nil ?_ | refine Sim.seq ?_ | refine Sim.region ?_ | refine Sim.block ?_ | refine Sim.skip ?_ | refine Sim.inBlock ?_ | refine Sim.exit rfl ?_ | refine Sim.condT rfl ?_ | refine Sim.condF rfl ?_)
    refine RL.st h513 hb10 hle10 fun w14 h514 hbt hb10 => ?_
    have hF := hF.but hbt (fun _ h => h.elim) hF10
    have hN := (ho.no (S' := Nn)).but hbt (fun _ h => h.elim) (fun g hg' => by have := (ho.lt g hg').1; omega)
    have hs14 := hbt.size
    repeat (first | refine RL.vv ?_ | refine RL.p ?_ | refine RL.nil ?_ | refine Sim.seq ?_ | refine Sim.region ?_ | refine Sim.block ?_ | refine Sim.skip ?_ | refine Sim.inBlock ?_ | refine Sim.exit rfl ?_ | refine Sim.condT rfl ?_ | refine Sim.condF rfl ?_)
    refine next2 (j + 1) _ _ ⟨by omega, h514, by omega, hF, _, hb10, ?_⟩ (by omega) sb
    rw [hnk]
    exact hN
  have hjj : j = t.fields.length := by omega
  subst hjj
  rw [List.take_length] at hN
  have ha10 := hb10.at
  obtain ⟨xa, xn, xc, rfl⟩ := hF.sh
  obtain ⟨na, nn, nc, rfl⟩ := hN.sh
  repeat (first | refine RL.vv ?_ | refine RL.p ?_ | refine RL.nil ?_ | refine Sim.seq ?_ | refine Sim.region ?_ | refine Sim.block ?_ | refine Sim.skip ?_ | refine Sim.inBlock ?_ | refine Sim.exit rfl ?_ | refine Sim.condT rfl ?_ | refine Sim.condF rfl ?_)
  refine RL.bu (el := 74) [.string t.name, .slice xa xn xc, .string t.name, .slice na nn nc] (.refl w9) fun b14 w10 he14 _ _ h910 hb14 => ?_
  have h510 := h59.trans h910
  have hs10 := h910.size
  have hs59 := h59.size
  have hln : hds.length = i := by
    have := hv.len
    simp [seeInit] at this
    omega
  refine RL.app (L := hdLay) (el := 74) (S := fun _ => True) (B := B) (ys := [⟨t.name, .slice xa xn xc, t.name, .slice na nn nc⟩]) (hu.trans h510) ((hv.row.up h510).no) (SliceOf.one hb14 ⟨trivial, (hv.row.up h59).ne (Nat.le_of_eq he14.symm)⟩ ⟨rfl, rfl, rfl⟩) (by simp; omega) hs4 (by omega) fun v2 w11 hu11 ho hg hv2 => ?_
  obtain ⟨lab2, hpush⟩ := hv.push h510 ⟨t.name, .slice xa xn xc, t.name, .slice na nn nc⟩ ⟨t, t.name, t.fields.map (·.name)⟩ hB5 (hF.up h910) (hN.up h910) hs58 (fun g hg => (hF8 g hg).2) ho.no hg hv2 ⟨rfl, rfl⟩
  have hb5 := (hb5.up h510).grown hg (hv.row.ne' hlt5)
  have hs11 := hg.size
  repeat (first | refine RL.vv ?_ | refine RL.p ?_ | refine RL.nil ?_ | refine Sim.seq ?_ | refine Sim.region ?_ | refine Sim.block ?_ | refine Sim.skip ?_ | refine Sim.inBlock ?_ | refine Sim.exit rfl ?_ | refine Sim.condT rfl ?_ | refine Sim.condF rfl ?_)
  exact next (i + 1, v2) _ _ ⟨by simp only; omega, hu11, by omega, hb5, _, lab2, by rw [htk]; exact hpush⟩ (by simp only; omega) sb
end Go.Proofs.Ytgckpmcdlciibaa
