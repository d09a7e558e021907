/- The walk of MeanParts. -/
import Derived.Test.YtgckpmcdlciibabYL21
import Derived.Test.YtgckpmcdlciibabZX
import Derived.Test.YtgckpmcdlciibabZB
namespace Go.Proofs.Ytgckpmcdlciibab
open Go.RowKit
set_option maxHeartbeats 4000000 in
theorem MeanParts_walk {m : Nat} {S S3 : Nat → Prop} {lv kv : Value} {l : List Svc} (q : Ak) (at_ : Int) (w : World) (hl : SliceOf svcLay S w lv l) (hps : SliceOf (pckLay (m + 1)) S3 w kv q.picks) :
    Calls Try.prog 12 #[lv, .agg #[.string q.type, .string q.key, kv], .int .i64 at_] w fun en w' => en = .returned (.bool true) ∧ Up w w' := by
  refine calls_of_sim Try.func12 rfl (Nat.le_of_ble_eq_true rfl) ?_
  obtain ⟨la, lc, rfl, _⟩ := id hl
  obtain ⟨ka, kc, rfl, hknc, hkcm, _⟩ := id hps
  unfold maxLen at hkcm
  repeat (first | refine RL.vv ?_ | refine RL.p ?_ | refine RL.nil ?_ | refine Sim.seq ?_ | refine Sim.region ?_ | refine Sim.block ?_ | refine Sim.skip ?_ | refine Sim.inBlock ?_ | refine Sim.exit rfl ?_ | refine Sim.condT rfl ?_ | refine Sim.condF rfl ?_)
  refine RL.bx (.refl w) fun b4 w1 _ hle4 hu1 _ hb4 => ?_
  have hb4 : Box w1 b4 _ [.string q.type, .string q.key, .slice ka q.picks.length kc] := hb4
  repeat (first | refine RL.vv ?_ | refine RL.p ?_ | refine RL.nil ?_ | refine Sim.seq ?_ | refine Sim.region ?_ | refine Sim.block ?_ | refine Sim.skip ?_ | refine Sim.inBlock ?_ | refine Sim.exit rfl ?_ | refine Sim.condT rfl ?_ | refine Sim.condF rfl ?_)
  refine RL.cu hu1 (alive6_any w1) fun w2 hu h12 => ?_
  have hb4 := hb4.up h12
  have ha4 := hb4.at
  clear h12 hu1
  repeat (first | refine RL.vv ?_ | refine RL.p ?_ | refine RL.nil ?_ | refine Sim.seq ?_ | refine Sim.region ?_ | refine Sim.block ?_ | refine Sim.skip ?_ | refine Sim.inBlock ?_ | refine Sim.exit rfl ?_ | refine Sim.condT rfl ?_ | refine Sim.condF rfl ?_)
  refine RL.cx (Mean_any q w2 (hl.up hu) (hps.up hu)) ?_
  rintro _ w3 ⟨gv, rfl, h23, ho⟩
  refine ⟨_, rfl, ?_⟩
  have hu := hu.trans h23
  have hb4 := hb4.up h23
  clear ha4
  have ha4 := hb4.at
  have hs := ho.sl (S' := fun b => b < w3.heap.size) (fun _ _ hb _ => hb) fun g hg => (ho.lt g hg).2
  clear ho h23
  obtain ⟨ga, gc, rfl, _⟩ := id hs
  have hearly : (meanM (m + 1) l q).2 = 0 ∨ ((meanM (m + 1) l q).1.length : Int) = 0 := by
    by_cases he : (meanM (m + 1) l q).2 = 0
    · exact .inl he
    · exact .inr (by rw [meanM_none he]; rfl)
  by_cases he : (meanM (m + 1) l q).2 = 0
  rotate_left
  · have h0 := hearly.resolve_left he
    repeat (first | refine RL.vv ?_ | refine RL.p ?_ | refine RL.nil ?_ | refine Sim.seq ?_ | refine Sim.region ?_ | refine Sim.block ?_ | refine Sim.skip ?_ | refine Sim.inBlock ?_ | refine Sim.exit rfl ?_ | refine Sim.condT rfl ?_ | refine Sim.condF rfl ?_)
    exact Sim.ret1 Try.func12 rfl rfl ⟨rfl, hu⟩
  by_cases h1 : at_ < 1
  · repeat (first | refine RL.vv ?_ | refine RL.p ?_ | refine RL.nil ?_ | refine Sim.seq ?_ | refine Sim.region ?_ | refine Sim.block ?_ | refine Sim.skip ?_ | refine Sim.inBlock ?_ | refine Sim.exit rfl ?_ | refine Sim.condT rfl ?_ | refine Sim.condF rfl ?_)
    exact Sim.ret1 Try.func12 rfl rfl ⟨rfl, hu⟩
  by_cases h2 : (q.picks.length : Int) ≤ at_
  · repeat (first | refine RL.vv ?_ | refine RL.p ?_ | refine RL.nil ?_ | refine Sim.seq ?_ | refine Sim.region ?_ | refine Sim.block ?_ | refine Sim.skip ?_ | refine Sim.inBlock ?_ | refine Sim.exit rfl ?_ | refine Sim.condT rfl ?_ | refine Sim.condF rfl ?_)
    exact Sim.ret1 Try.func12 rfl rfl ⟨rfl, hu⟩
  obtain ⟨n, rfl⟩ := Int.eq_ofNat_of_zero_le (show 0 ≤ at_ by omega)
  have hn1 : 1 ≤ n := by omega
  have hn2 : n < q.picks.length := by omega
  obtain ⟨ha, hb, hc⟩ := meanM_zero.1 he
  have hgot := meanM_got he
  obtain ⟨qt, qk, qp⟩ := q
  simp only at *
  have hc1 := check_take hb hn1 (Nat.le_of_lt hn2)
  have hc2 := check_drop hb hn2
  have he1 : (meanM (m + 1) l ⟨qt, qk, qp.take n⟩).2 = 0 := meanM_zero.2 ⟨ha, hc1, hc⟩
  have he2 : (meanM (m + 1) l ⟨qt, qk, qp.drop n⟩).2 = 0 := meanM_zero.2 ⟨ha, hc2, hc⟩
  have hg1 := meanM_got he1
  have hg2 := meanM_got he2
  have happ : (meanM (m + 1) l ⟨qt, qk, qp.take n⟩).1 ++ (meanM (m + 1) l ⟨qt, qk, qp.drop n⟩).1 = (meanM (m + 1) l ⟨qt, qk, qp⟩).1 := by
    rw [hgot, hg1, hg2]
    simp only
    rw [← thingS_app, List.take_append_drop]
  have h60 := (shapeM_small (m + 1) qp 1 0 (by decide) (by decide) (checkM_zero.1 hb).2.2.1).1
  have hlen := congrArg List.length happ
  rw [List.length_append, hgot, thingS_len] at hlen
  clear hearly hg1 hg2 hgot
  have hl4 := hb4.lt
  repeat (first | refine RL.vv ?_ | refine RL.p ?_ | refine RL.nil ?_ | refine Sim.seq ?_ | refine Sim.region ?_ | refine Sim.block ?_ | refine Sim.skip ?_ | refine Sim.inBlock ?_ | refine Sim.exit rfl ?_ | refine Sim.condT rfl ?_ | refine Sim.condF rfl ?_)
  refine Sim.cutX (σ := Nat × Nat) (fun st => [(0, .slice la l.length lc), (2, .int .i64 (n : Int)), (4, .pointer (some ⟨b4, 0, none⟩)), (7, .slice ga (meanM (m + 1) l ⟨qt, qk, qp⟩).1.length gc), (9, .pointer (some ⟨st.1, 0, none⟩)), (10, .pointer (some ⟨st.2, 0, none⟩))])
    (fun st w' => Up w3 w' ∧ w3.heap.size ≤ st.1 ∧ w3.heap.size ≤ st.2 ∧ st.1 ≠ st.2 ∧ Box w' b4 37 [.string qt, .string qk, .slice ka qp.length kc] ∧ Box w' st.1 37 [.string qt, .string qk, .slice ka qp.length kc] ∧ Box w' st.2 37 [.string qt, .string qk, .slice ka qp.length kc]) (fun k' next => ?_) ?_
  · have h0 := Up.drew w3
    have h := h0
    refine Sim.ord (fun wq => Up w3 wq ∧ At wq b4 0 [.string qt, .string qk, .slice ka qp.length kc]) ?_
    refine RO.tk 0 ?_ (hy := fun wq hq => y_loadA rfl hq.2 rfl) (hS := ⟨h0, ha4.up h0⟩)
    refine RO.tk 1 ?_ (hy := fun wq hq => y_loadA rfl hq.2 rfl) (hS := ⟨h0, ha4.up h0⟩)
    have hb4 := hb4.up h0
    refine RO.two 2 3 ?_ ?_
    · refine RL.al h0 fun b9 w4 _ hle9 h0 h hb9 => ?_
      have hb4 := hb4.up h
      refine RL.ord ⟨h0, hb4.at⟩ ?_
      refine RO.one 3 ?_
      refine RL.al h0 fun b10 w5 _ hle10 h0 h hb10 => ?_
      have hne : b9 ≠ b10 := by have := hb9.lt; omega
      have hb9 := hb9.up h
      have hb4 := hb4.up h
      refine RL.ord ⟨h0, hb4.at⟩ ?_
      refine RO.one 4 ?_
      refine RL.st h0 hb9 hle9 fun w6 h0 hbt hb9 => ?_
      have hb9 : Box w6 b9 _ [.string qt, .string qk, .slice ka qp.length kc] := hb9
      have hb10 := hb10.but hbt (Ne.symm hne)
      have hb4 := hb4.but hbt (by omega)
      refine RL.ord ⟨h0, hb4.at⟩ ?_
      refine RO.one 5 ?_
      refine RL.st h0 hb10 hle10 fun w7 h0 hbt hb10 => ?_
      have hb10 : Box w7 b10 _ [.string qt, .string qk, .slice ka qp.length kc] := hb10
      have hb9 := hb9.but hbt hne
      have hb4 := hb4.but hbt (by omega)
      refine RL.ord ⟨h0, hb4.at⟩ ?_
      refine RO.done (RL.nil ?_)
      exact next (b9, b10) _ _ ⟨h0, hle9, hle10, hne, hb4, hb9, hb10⟩ sb
    · refine RL.al h0 fun b10 w4 _ hle10 h0 h hb10 => ?_
      have hb4 := hb4.up h
      refine RL.ord ⟨h0, hb4.at⟩ ?_
      refine RO.one 2 ?_
      refine RL.al h0 fun b9 w5 _ hle9 h0 h hb9 => ?_
      have hne : b9 ≠ b10 := by have := hb10.lt; omega
      have hb10 := hb10.up h
      have hb4 := hb4.up h
      refine RL.ord ⟨h0, hb4.at⟩ ?_
      refine RO.one 4 ?_
      refine RL.st h0 hb9 hle9 fun w6 h0 hbt hb9 => ?_
      have hb9 : Box w6 b9 _ [.string qt, .string qk, .slice ka qp.length kc] := hb9
      have hb10 := hb10.but hbt (Ne.symm hne)
      have hb4 := hb4.but hbt (by omega)
      refine RL.ord ⟨h0, hb4.at⟩ ?_
      refine RO.one 5 ?_
      refine RL.st h0 hb10 hle10 fun w7 h0 hbt hb10 => ?_
      have hb10 : Box w7 b10 _ [.string qt, .string qk, .slice ka qp.length kc] := hb10
      have hb9 := hb9.but hbt hne
      have hb4 := hb4.but hbt (by omega)
      refine RL.ord ⟨h0, hb4.at⟩ ?_
      refine RO.done (RL.nil ?_)
      exact next (b9, b10) _ _ ⟨h0, hle9, hle10, hne, hb4, hb9, hb10⟩ sb
  clear hb4 ha4
  rintro ⟨b9, b10⟩ w4 ⟨h34, hle9, hle10, hne, hb4, hb9, hb10⟩
  simp only at hle9 hle10 hne hb9 hb10 ⊢
  obtain ⟨da, dn, dc, hd⟩ : ∃ a k c, dropV ka qp.length kc n 3 = .slice a k c := ⟨_, _, _, rfl⟩
  have hps1 := hps.take (i := n) (Nat.le_of_lt hn2)
  have hps2 := hps.drop (i := n) (Nat.le_of_lt hn2)
  have hps2 : SliceOf (pckLay (m + 1)) S3 w (.slice da dn dc) (qp.drop n) := by rw [← hd]; exact hps2
  have hu4 := hu.trans h34
  have ha4 := hb4.at
  repeat (first | refine RL.vv ?_ | refine RL.p ?_ | refine RL.nil ?_ | refine Sim.seq ?_ | refine Sim.region ?_ | refine Sim.block ?_ | refine Sim.skip ?_ | refine Sim.inBlock ?_ | refine Sim.exit rfl ?_ | refine Sim.condT rfl ?_ | refine Sim.condF rfl ?_)
  refine Sim.cut [(0, .slice la l.length lc), (7, .slice ga (meanM (m + 1) l ⟨qt, qk, qp⟩).1.length gc), (9, .pointer (some ⟨b9, 0, none⟩)), (10, .pointer (some ⟨b10, 0, none⟩))]
    (fun w' => Up w3 w' ∧ Box w' b9 37 [.string qt, .string qk, .slice ka n kc] ∧ Box w' b10 37 [.string qt, .string qk, .slice da dn dc]) (fun k' next => ?_) ?_
  · have h0 := h34.trans (Up.drew w4)
    have hS : Up w3 w4.drew ∧ At w4.drew b4 0 [.string qt, .string qk, .slice ka qp.length kc] := ⟨h0, ha4.up (Up.drew _)⟩
    refine Sim.ord (fun wq => Up w3 wq ∧ At wq b4 0 [.string qt, .string qk, .slice ka qp.length kc]) ?_
    refine RO.tk 0 ?_
    refine RO.tk 1 ?_ (hy := fun wq hq => y_loadF rfl hq.2 rfl)
    refine RO.tk 2 ?_
    refine RO.tk 3 ?_
    refine RO.tk 4 ?_
    refine RO.tk 5 ?_ (hy := fun wq hq => y_loadF rfl hq.2 rfl)
    refine RO.tk 6 ?_
    refine RO.tk 7 ?_ (v := .slice da dn dc) (hy := fun wq hq => by rw [← hd]; exact y_sliceLo (i := n) rfl rfl (by omega) (by omega))
    refine RO.tk 8 ?_
    have hb4 := hb4.up (Up.drew w4)
    have hb9 := hb9.up (Up.drew w4)
    have hb10 := hb10.up (Up.drew w4)
    refine RO.one 9 ?_
    refine RL.st h0 hb9 hle9 fun w5 h0 hbt hb9 => ?_
    have hb9 : Box w5 b9 _ [.string qt, .string qk, .slice ka n kc] := hb9
    have hb10 := hb10.but hbt (Ne.symm hne)
    have hb4 := hb4.but hbt (by omega)
    refine RL.ord ⟨h0, hb4.at⟩ ?_
    refine RO.tk 10 ?_ (hS := ⟨h0, hb4.at⟩)
    refine RO.one 11 ?_
    refine RL.st h0 hb10 hle10 fun w6 h0 hbt hb10 => ?_
    have hb10 : Box w6 b10 _ [.string qt, .string qk, .slice da dn dc] := hb10
    have hb9 := hb9.but hbt hne
    have hb4 := hb4.but hbt (by omega)
    refine RL.ord ⟨h0, hb4.at⟩ ?_
    refine RO.done (RL.nil ?_)
    exact next _ _ ⟨h0, hb9, hb10⟩ sb
  clear hb4 hb9 hb10 ha4 hu4 h34
  rintro w5 ⟨h35, hb9, hb10⟩
  have hu5 := hu.trans h35
  have ha9 := hb9.at
  have hs := hs.up h35
  have hs35 := h35.size
  clear h35
  repeat (first | refine RL.vv ?_ | refine RL.p ?_ | refine RL.nil ?_ | refine Sim.seq ?_ | refine Sim.region ?_ | refine Sim.block ?_ | refine Sim.skip ?_ | refine Sim.inBlock ?_ | refine Sim.exit rfl ?_ | refine Sim.condT rfl ?_ | refine Sim.condF rfl ?_)
  refine RL.cx (Mean_any ⟨qt, qk, qp.take n⟩ w5 (hl.up hu5) (hps1.up hu5)) ?_
  rintro _ w6 ⟨v1, rfl, h56, ho1⟩
  refine ⟨_, rfl, ?_⟩
  have hu6 := hu5.trans h56
  have ha10 := (hb10.up h56).at
  have hs := hs.up h56
  rw [he1]
  clear ha9
  repeat (first | refine RL.vv ?_ | refine RL.p ?_ | refine RL.nil ?_ | refine Sim.seq ?_ | refine Sim.region ?_ | refine Sim.block ?_ | refine Sim.skip ?_ | refine Sim.inBlock ?_ | refine Sim.exit rfl ?_ | refine Sim.condT rfl ?_ | refine Sim.condF rfl ?_)
  refine RL.cx (Mean_any ⟨qt, qk, qp.drop n⟩ w6 (hl.up hu6) (hps2.up hu6)) ?_
  rintro _ w7 ⟨v2, rfl, h67, ho2⟩
  refine ⟨_, rfl, ?_⟩
  have hu7 := hu6.trans h67
  have hs := hs.up h67
  rw [he2]
  have h57 := h56.trans h67
  have ho17 := ho1.up h67
  have hs6 := h56.size
  have hs7 := h67.size
  have hs2 := ho2.sl (S' := fun b => w5.heap.size ≤ b ∧ some b ≠ v1.ownBlock) (fun b hb _ _ => ⟨by omega, ho1.ne hb⟩) fun g hg => ⟨by have := (ho2.lt g hg).1; omega, ho1.ne (ho2.lt g hg).1⟩
  obtain ⟨x1, x2, x3, rfl⟩ := ho1.sh
  obtain ⟨y1, y2, y3, rfl⟩ := ho2.sh
  have e0 : (0 : Int) = 0 := rfl
  clear ha10
  repeat (first | refine RL.vv ?_ | refine RL.p ?_ | refine RL.nil ?_ | refine Sim.seq ?_ | refine Sim.region ?_ | refine Sim.block ?_ | refine Sim.skip ?_ | refine Sim.inBlock ?_ | refine Sim.exit rfl ?_ | refine Sim.condT rfl ?_ | refine Sim.condF rfl ?_)
  refine RL.app (L := gtLay (m + 2)) (el := 33) (S := fun b => w5.heap.size ≤ b) (B := w5.heap.size) h57 ho17 hs2 (by omega) (Nat.le_refl _) (by omega) fun v' w8 h58 ho3 hg hv => ?_
  have hs := hs.grown hg fun b hb => ho17.ne' (B := w5.heap.size) (by omega)
  have hs3 := ho3.sl (S' := fun _ => True) (fun _ _ _ _ => trivial) fun _ _ => trivial
  rw [happ] at hs3
  obtain ⟨z1, z2, z3, rfl⟩ := ho3.sh
  refine RL.cu (hu5.trans h58) (SameGot_any (m + 2) w8 hs hs3) fun w9 hu9 _ => ?_
  repeat (first | refine RL.vv ?_ | refine RL.p ?_ | refine RL.nil ?_ | refine Sim.seq ?_ | refine Sim.region ?_ | refine Sim.block ?_ | refine Sim.skip ?_ | refine Sim.inBlock ?_ | refine Sim.exit rfl ?_ | refine Sim.condT rfl ?_ | refine Sim.condF rfl ?_)
  exact Sim.ret1 Try.func12 rfl rfl ⟨rfl, hu9⟩
end Go.Proofs.Ytgckpmcdlciibab
