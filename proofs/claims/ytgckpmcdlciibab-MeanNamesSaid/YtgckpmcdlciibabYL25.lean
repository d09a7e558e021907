/- The walk of MeanNames. -/
import Derived.Test.YtgckpmcdlciibabYL21
import Derived.Test.YtgckpmcdlciibabZX
import Derived.Test.YtgckpmcdlciibabYEngN
namespace Go.Proofs.Ytgckpmcdlciibab
open Go.RowKit
instance (n : Nat) : OneC (pckLay n) := ⟨by
  rintro S w cs x h c hc
  cases n with
  | zero => exact h.elim
  | succ n =>
    obtain ⟨v, rfl, a, c1, rfl, _⟩ := pckLay_succ h
    simp only [List.mem_cons, List.not_mem_nil, or_false] at hc
    rcases hc with rfl | rfl | rfl <;> rfl⟩
theorem mean_ren {m : Nat} {l : List Svc} {t k nm : Str} {ps : List Pck} {i : Nat} (h : (meanM (m + 1) l ⟨t, k, ps⟩).2 = 0) : (meanM (m + 1) l ⟨t, k, ps.modify i (renP nm)⟩).2 = 0 ∨ (meanM (m + 1) l ⟨t, k, ps.modify i (renP nm)⟩).2 = 6 := by
  obtain ⟨h1, h2, h3⟩ := meanM_zero.1 h
  rcases check_ren (nm := nm) (i := i) h2 with h4 | h4
  · exact .inl (meanM_zero.2 ⟨h1, h4, h3⟩)
  · right
    unfold meanM
    rw [if_pos h1, h4]
    rfl
set_option maxHeartbeats 4000000 in
theorem MeanNames_walk {m : Nat} {S S3 : Nat → Prop} {lv kv : Value} {l : List Svc} (q : Ak) (at_ : Int) (nm : Str) (w : World) (hl : SliceOf svcLay S w lv l) (hps : SliceOf (pckLay (m + 1)) S3 w kv q.picks) :
    Calls Try.prog 13 #[lv, .agg #[.string q.type, .string q.key, kv], .int .i64 at_, .string nm] w fun en w' => en = .returned (.bool true) ∧ Up w w' := by
  refine calls_of_sim Try.func13 rfl (Nat.le_of_ble_eq_true rfl) ?_
  obtain ⟨la, lc, rfl, _⟩ := id hl
  obtain ⟨ka, kc, rfl, hknc, hkcm, _⟩ := id hps
  unfold maxLen at hkcm
  repeat (first | refine RL.vv ?_ | refine RL.p ?_ | refine RL.nil ?_ | refine Sim.seq ?_ | refine Sim.region ?_ | refine Sim.block ?_ | refine Sim.skip ?_ | refine Sim.inBlock ?_ | refine Sim.exit rfl ?_ | refine Sim.condT rfl ?_ | refine Sim.condF rfl ?_)
  refine RL.bx (.refl w) fun b5 w1 _ hle5 hu1 _ hb5 => ?_
  have hb5 : Box w1 b5 _ [.string q.type, .string q.key, .slice ka q.picks.length kc] := hb5
  repeat (first | refine RL.vv ?_ | refine RL.p ?_ | refine RL.nil ?_ | refine Sim.seq ?_ | refine Sim.region ?_ | refine Sim.block ?_ | refine Sim.skip ?_ | refine Sim.inBlock ?_ | refine Sim.exit rfl ?_ | refine Sim.condT rfl ?_ | refine Sim.condF rfl ?_)
  refine RL.cu hu1 (alive6_any w1) fun w2 hu h12 => ?_
  have hb5 := hb5.up h12
  have ha5 := hb5.at
  clear h12 hu1
  repeat (first | refine RL.vv ?_ | refine RL.p ?_ | refine RL.nil ?_ | refine Sim.seq ?_ | refine Sim.region ?_ | refine Sim.block ?_ | refine Sim.skip ?_ | refine Sim.inBlock ?_ | refine Sim.exit rfl ?_ | refine Sim.condT rfl ?_ | refine Sim.condF rfl ?_)
  refine RL.cx (Mean_any q w2 (hl.up hu) (hps.up hu)) ?_
  rintro _ w3 ⟨gv, rfl, h23, ho⟩
  refine ⟨_, rfl, ?_⟩
  have hu := hu.trans h23
  have hb5 := hb5.up h23
  clear ha5
  have ha5 := hb5.at
  have hs := ho.sl (S' := fun b => b < w3.heap.size) (fun _ _ hb _ => hb) fun g hg => (ho.lt g hg).2
  clear ho h23
  obtain ⟨ga, gc, rfl, _⟩ := id hs
  by_cases he : (meanM (m + 1) l q).2 = 0
  rotate_left
  · repeat (first | refine RL.vv ?_ | refine RL.p ?_ | refine RL.nil ?_ | refine Sim.seq ?_ | refine Sim.region ?_ | refine Sim.block ?_ | refine Sim.skip ?_ | refine Sim.inBlock ?_ | refine Sim.exit rfl ?_ | refine Sim.condT rfl ?_ | refine Sim.condF rfl ?_)
    exact Sim.ret1 Try.func13 rfl rfl ⟨rfl, hu⟩
  by_cases h1 : at_ < 0
  · repeat (first | refine RL.vv ?_ | refine RL.p ?_ | refine RL.nil ?_ | refine Sim.seq ?_ | refine Sim.region ?_ | refine Sim.block ?_ | refine Sim.skip ?_ | refine Sim.inBlock ?_ | refine Sim.exit rfl ?_ | refine Sim.condT rfl ?_ | refine Sim.condF rfl ?_)
    exact Sim.ret1 Try.func13 rfl rfl ⟨rfl, hu⟩
  by_cases h2 : (q.picks.length : Int) ≤ at_
  · repeat (first | refine RL.vv ?_ | refine RL.p ?_ | refine RL.nil ?_ | refine Sim.seq ?_ | refine Sim.region ?_ | refine Sim.block ?_ | refine Sim.skip ?_ | refine Sim.inBlock ?_ | refine Sim.exit rfl ?_ | refine Sim.condT rfl ?_ | refine Sim.condF rfl ?_)
    exact Sim.ret1 Try.func13 rfl rfl ⟨rfl, hu⟩
  obtain ⟨n, rfl⟩ := Int.eq_ofNat_of_zero_le (show 0 ≤ at_ by omega)
  have hn2 : n < q.picks.length := by omega
  obtain ⟨hA, hB, hC⟩ := meanM_zero.1 he
  have hgot := meanM_got he
  have hren := mean_ren (nm := nm) (i := n) he
  obtain ⟨qt, qk, qp⟩ := q
  simp only at *
  have h60 := (shapeM_small (m + 1) qp 1 0 (by decide) (by decide) (checkM_zero.1 hB).2.2.1).1
  have hx : qp[n]? = some qp[n] := List.getElem?_eq_getElem hn2
  have hmod : qp.modify n (renP nm) = qp.set n (renP nm qp[n]) := by
    refine List.ext_getElem? fun a => ?_
    by_cases ha : n = a
    · subst ha
      rw [List.getElem?_modify, List.getElem?_set_self hn2, hx]
      simp
    · rw [List.getElem?_modify, List.getElem?_set_ne ha]
      simp [ha]
  obtain ⟨g, g', hgi, hgi', hback⟩ := names_back (k := qk) (nm := nm) (wholeOk hA) (checkM_zero.1 hB).2.2.2 hx
  have hgl : (meanM (m + 1) l ⟨qt, qk, qp⟩).1.length = qp.length := by rw [hgot, thingS_len]
  rw [← hgot] at hgi
  repeat (first | refine RL.vv ?_ | refine RL.p ?_ | refine RL.nil ?_ | refine Sim.seq ?_ | refine Sim.region ?_ | refine Sim.block ?_ | refine Sim.skip ?_ | refine Sim.inBlock ?_ | refine Sim.exit rfl ?_ | refine Sim.condT rfl ?_ | refine Sim.condF rfl ?_)
  refine RL.al hu fun b11 w4 he11 hle11 hu4 h34 hb11 => ?_
  have hne5 : b5 ≠ b11 := by have := hb5.lt; omega
  have hb5 := hb5.up h34
  refine RL.st hu4 hb11 hle11 fun w5 hu5 hbt hb11 => ?_
  have hb11 : Box w5 b11 _ [.string qt, .string qk, .slice ka qp.length kc] := hb11
  have hb5 := hb5.but hbt hne5
  have hs := (hs.up h34).bt hbt fun k hk => by omega
  clear hbt ha5
  have ha5 := hb5.at
  have hl11 := hb11.lt
  repeat (first | refine RL.vv ?_ | refine RL.p ?_ | refine RL.nil ?_ | refine Sim.seq ?_ | refine Sim.region ?_ | refine Sim.block ?_ | refine Sim.skip ?_ | refine Sim.inBlock ?_ | refine Sim.exit rfl ?_ | refine Sim.condT rfl ?_ | refine Sim.condF rfl ?_)
  refine RL.bu (el := 102) [] hu5 fun b35 w6 he35 hle35 hu6 h56 hb35 => ?_
  have ha5 := ha5.up h56
  have hb11 := hb11.up h56
  have hs := hs.up h56
  repeat (first | refine RL.vv ?_ | refine RL.p ?_ | refine RL.nil ?_ | refine Sim.seq ?_ | refine Sim.region ?_ | refine Sim.block ?_ | refine Sim.skip ?_ | refine Sim.inBlock ?_ | refine Sim.exit rfl ?_ | refine Sim.condT rfl ?_ | refine Sim.condF rfl ?_)
  refine RL.app (L := pckLay (m + 1)) (el := 102) (S := fun b => b < w.heap.size) (B := w5.heap.size) (xs := []) (ys := qp) hu6 (Own.empty (pckLay (m + 1)) hb35 (Nat.le_of_eq he35.symm)) ((hps.old.up hu6).mono fun k hk => ⟨hk.2, fun e => by
    have e : k = b35 := Option.some.inj e
    have := hk.2
    omega⟩) (by simp only [List.length_nil, Nat.zero_add]; omega) hu5.size h56.size fun pv w7 hu7 ho hg hv => ?_
  have hs3 : w3.heap.size ≤ w5.heap.size := by have := h34.size; omega
  have hs := hs.grown hg fun b hb e => by
    have e : b = b35 := Option.some.inj e
    omega
  have hb11 := hb11.grown hg (fun e => by
    have e : b11 = b35 := Option.some.inj e
    omega)
  have hl5 := hb5.lt
  have ha5 := (((hb5.up h56).grown hg (fun e => by
    have e : b5 = b35 := Option.some.inj e
    omega))).at
  rw [List.nil_append] at ho
  obtain ⟨pg, pc, rfl⟩ := ho.pos (by omega)
  repeat (first | refine RL.vv ?_ | refine RL.p ?_ | refine RL.nil ?_ | refine Sim.seq ?_ | refine Sim.region ?_ | refine Sim.block ?_ | refine Sim.skip ?_ | refine Sim.inBlock ?_ | refine Sim.exit rfl ?_ | refine Sim.condT rfl ?_ | refine Sim.condF rfl ?_)
  refine RL.st hu7 hb11 hle11 fun w8 hu8 hbt hb11 => ?_
  have hb11 : Box w8 b11 _ [.string qt, .string qk, .slice (some ⟨pg, 0, none⟩) qp.length pc] := hb11
  have hpg := ho.lt pg rfl
  have ho := ho.but hbt (fun i hi => by omega) (fun g hg => by have := (ho.lt g hg).1; omega)
  have hs := hs.bt hbt fun k hk => by omega
  have ha5 : At w8 b5 0 [.string qt, .string qk, .slice ka qp.length kc] := ha5.keep hbt.keep hne5
  clear hbt hg hv
  have ha11 := hb11.at
  repeat (first | refine RL.vv ?_ | refine RL.p ?_ | refine RL.nil ?_ | refine Sim.seq ?_ | refine Sim.region ?_ | refine Sim.block ?_ | refine Sim.skip ?_ | refine Sim.inBlock ?_ | refine Sim.exit rfl ?_ | refine Sim.condT rfl ?_ | refine Sim.condF rfl ?_)
  refine RL.put (L := pckLay (m + 1)) (el := 102) (i := n) (j := 0) (k := 3) (x := qp[n]) (x' := renP nm qp[n]) hu8 ho hu5.size hx (fun w9 hu9 hbt ho => ?_) (fun cs hcs => by
    obtain ⟨v, rfl, hv⟩ := pckLay_succ hcs
    exact pckLay_intro (p := renP nm qp[n]) hv)
  rw [← hmod] at ho
  have ha11 := ha11.keep hbt.keep (show b11 ≠ pg by omega)
  have ha5 := ha5.keep hbt.keep (show b5 ≠ pg by omega)
  have hs := hs.bt hbt fun k hk => by omega
  have hps2 := ho.sl (S' := fun _ => True) (fun _ _ _ _ => trivial) fun _ _ => trivial
  have hlm : (qp.modify n (renP nm)).length = qp.length := by simp
  clear hbt
  repeat (first | refine RL.vv ?_ | refine RL.p ?_ | refine RL.nil ?_ | refine Sim.seq ?_ | refine Sim.region ?_ | refine Sim.block ?_ | refine Sim.skip ?_ | refine Sim.inBlock ?_ | refine Sim.exit rfl ?_ | refine Sim.condT rfl ?_ | refine Sim.condF rfl ?_)
  refine RL.cx (Mean_any ⟨qt, qk, qp.modify n (renP nm)⟩ w9 (hl.up hu9) hps2) ?_
  rintro _ w10 ⟨v2, rfl, h910, ho2⟩
  refine ⟨_, rfl, ?_⟩
  have hu10 := hu9.trans h910
  have hs := hs.up h910
  have ha5 := ha5.up h910
  clear ha11
  by_cases he2 : (meanM (m + 1) l ⟨qt, qk, qp.modify n (renP nm)⟩).2 = 0
  rotate_left
  · have he6 := hren.resolve_left he2
    repeat (first | refine RL.vv ?_ | refine RL.p ?_ | refine RL.nil ?_ | refine Sim.seq ?_ | refine Sim.region ?_ | refine Sim.block ?_ | refine Sim.skip ?_ | refine Sim.inBlock ?_ | refine Sim.exit rfl ?_ | refine Sim.condT rfl ?_ | refine Sim.condF rfl ?_)
    exact Sim.ret1 Try.func13 rfl rfl ⟨rfl, hu10⟩
  have hgot2 := meanM_got he2
  have hgl2 : (meanM (m + 1) l ⟨qt, qk, qp.modify n (renP nm)⟩).1.length = qp.length := by rw [hgot2, thingS_len]; simp
  have hback := hback g.name (by
    obtain ⟨kk, t, _, ht, hn, heach⟩ := goes_ok (checkM_zero.1 hB).2.2.2
    obtain ⟨⟨j, f, hj, hf, _⟩, _⟩ := heach n qp[n] hx
    have hfl := pick_fld (wholeOk hA) (List.mem_of_getElem? ht) hj hf
    rw [hgot, thingS_map, List.getElem?_map, hx] at hgi
    have hgi : pickS _ qp[n] qt qk = g := Option.some.inj hgi
    have := pickS_name (S := semOf l (allM l).1) (p := qp[n]) (n := qt) (k := qk) (by
      have hn : t.type.name = qt := hn
      rw [← hn, hfl]
      rfl)
    rw [hgi] at this
    rw [this]
    cases g
    rfl)
  simp only at hback
  rw [← hgot2] at hgi' hback
  rw [← hgot] at hback
  generalize (meanM (m + 1) l ⟨qt, qk, qp.modify n (renP nm)⟩).1 = ys at *
  generalize (meanM (m + 1) l ⟨qt, qk, qp⟩).1 = xs at *
  obtain ⟨yg, yc, rfl⟩ := ho2.pos (by omega)
  have hz1 : (xs.length : Int) = (qp.length : Int) := by omega
  have hz2 : (ys.length : Int) = (qp.length : Int) := by omega
  have hnx : n < xs.length := by omega
  have hny : n < ys.length := by omega
  obtain ⟨xb, xo, cs, rfl, hxb, hxat, hxis, _⟩ := hs.at hgi
  obtain ⟨u1, u2, rfl, _, _⟩ := gt_succ.1 hxis
  have hxat : At w10 xb (xo + n * 6) _ := hxat
  repeat (first | refine RL.vv ?_ | refine RL.p ?_ | refine RL.nil ?_ | refine Sim.seq ?_ | refine Sim.region ?_ | refine Sim.block ?_ | refine Sim.skip ?_ | refine Sim.inBlock ?_ | refine Sim.exit rfl ?_ | refine Sim.condT rfl ?_ | refine Sim.condF rfl ?_)
  have hyg := ho2.lt yg rfl
  refine RL.put (L := gtLay (m + 2)) (el := 33) (i := n) (j := 0) (k := 6) (x := g') (x' := nameG g.name g') (u := .string g.name) h910 ho2 (Nat.le_refl _) hgi' (fun w11 h911 hbt ho3 => ?_) (fun cs hcs => by
    obtain ⟨v1, v2, rfl, hv1, hv2⟩ := gt_succ.1 hcs
    cases g'
    exact gt_succ.2 ⟨v1, v2, rfl, hv1, hv2⟩)
  rw [hback] at ho3
  have h9s : w5.heap.size ≤ w9.heap.size := by have := hpg.2; have := ho.lt pg rfl; omega
  have hs := hs.bt hbt fun k hk => by have := hyg.1; omega
  have hs3 := ho3.sl (S' := fun _ => True) (fun _ _ _ _ => trivial) fun _ _ => trivial
  have hu11 := hu9.trans h911
  repeat (first | refine RL.vv ?_ | refine RL.p ?_ | refine RL.nil ?_ | refine Sim.seq ?_ | refine Sim.region ?_ | refine Sim.block ?_ | refine Sim.skip ?_ | refine Sim.inBlock ?_ | refine Sim.exit rfl ?_ | refine Sim.condT rfl ?_ | refine Sim.condF rfl ?_)
  have hyx : ys.length = xs.length := by omega
  rw [hyx] at hs3 ⊢
  refine RL.cu hu11 (SameGot_any (m + 2) w11 hs hs3) fun w12 hu12 _ => ?_
  repeat (first | refine RL.vv ?_ | refine RL.p ?_ | refine RL.nil ?_ | refine Sim.seq ?_ | refine Sim.region ?_ | refine Sim.block ?_ | refine Sim.skip ?_ | refine Sim.inBlock ?_ | refine Sim.exit rfl ?_ | refine Sim.condT rfl ?_ | refine Sim.condF rfl ?_)
  exact Sim.ret1 Try.func13 rfl rfl ⟨rfl, hu12⟩
end Go.Proofs.Ytgckpmcdlciibab
