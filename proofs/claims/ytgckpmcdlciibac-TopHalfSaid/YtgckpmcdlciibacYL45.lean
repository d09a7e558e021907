/- The walk of TopHalf. -/
import Derived.Test.YtgckpmcdlciibacZ5
import Derived.Test.YtgckpmcdlciibacYEngU
namespace Go.Proofs.Ytgckpmcdlciibac
open Go.RowKit
theorem null_eq (g : Gt) : gNull g = g.null := by cases g; rfl
theorem text_eq (g : Gt) : gText g = g.text := by cases g; rfl
theorem subs_eq (g : Gt) : gSubs g = g.subs := by cases g; rfl
theorem gt_at {l : List Gt} {i : Nat} (h : i < l.length) : l[i]? = some (gtAt l i) := by
  unfold gtAt
  rw [List.getD, List.getElem?_eq_getElem h]
  rfl
theorem half_ok {n g : Nat} (hn : 0 < n) (h20 : n ≤ 20) (hg : g < n) : halfOk n g = true := by
  have h1 := List.all_eq_true.1 half_all (n - 1) (List.mem_range.2 (by omega))
  have h2 := List.all_eq_true.1 h1 g (List.mem_range.2 (by omega))
  rwa [Nat.sub_add_cancel hn] at h2
theorem PplAt.set {w0 w w' : World} {bl : Nat} {v1 v2 v3 v4 v5 v' : Value} {xs ys zs : List Thg} (h : PplAt w0 w bl v1 v2 v3 v4 v5 xs ys) (hb : But bl w w') (hbox : Box w' bl 31 [v1, .slice none 0 0, v', v3, v4, v5]) (hz : SliceOf thgLay (fun b => w0.heap.size ≤ b ∧ b ≠ bl) w v' zs) : PplAt w0 w' bl v1 v' v3 v4 v5 zs ys :=
  ⟨h.at_, hbox, h.t1.bt hb fun _ hk => hk.2, hz.bt hb fun _ hk => hk.2, h.t2.bt hb fun _ hk => hk.2, h.c2.bt hb fun _ hk => hk.2, h.x2.bt hb fun _ hk => hk.2⟩
theorem PplAt.up {w0 w w' : World} {bl : Nat} {v1 v2 v3 v4 v5 : Value} {xs ys : List Thg} (h : PplAt w0 w bl v1 v2 v3 v4 v5 xs ys) (hu : Up w w') : PplAt w0 w' bl v1 v2 v3 v4 v5 xs ys :=
  ⟨h.at_, h.box.up hu, h.t1.up hu, h.x1.up hu, h.t2.up hu, h.c2.up hu, h.x2.up hu⟩
theorem PplAt.grown {w0 w w' : World} {bl r : Nat} {v1 v2 v3 v4 v5 : Value} {xs ys : List Thg} (h : PplAt w0 w bl v1 v2 v3 v4 v5 xs ys) (hr : w.heap.size ≤ r) (hu : w.grownBy w' (some r)) : PplAt w0 w' bl v1 v2 v3 v4 v5 xs ys := by
  have hk : Keep (fun b => b < w.heap.size) w w' := fun b hb hlt => hu.block b hlt fun e => by cases e; omega
  have hk2 : Keep (fun b => (w0.heap.size ≤ b ∧ b ≠ bl) ∧ b < w.heap.size) w w' := fun b hb hlt => hk b hb.2 hlt
  exact ⟨h.at_, h.box.keep hk h.box.lt, (h.t1.old.keep hk2).mono fun _ h => h.1, (h.x1.old.keep hk2).mono fun _ h => h.1, (h.t2.old.keep hk2).mono fun _ h => h.1, (h.c2.old.keep hk2).mono fun _ h => h.1, (h.x2.old.keep hk2).mono fun _ h => h.1⟩
theorem ok_half {n g : Nat} (hn : n ≤ 100) : ∀ s ∈ halfPM n g, okSvc s := fun s hs => by
  simp only [halfPM, List.mem_cons, List.not_mem_nil, or_false] at hs
  rcases hs with rfl | rfl
  · refine ok_userS (by simp; omega) fun x hx => ?_
    rcases List.mem_append.1 hx with hx | hx
    · obtain ⟨i, _, rfl⟩ := List.mem_map.1 (List.mem_of_mem_take hx); exact ok_user i
    · obtain ⟨i, _, rfl⟩ := List.mem_map.1 (List.mem_of_mem_drop hx); exact ok_user i
  · exact ok_manS (by simpa using hn) fun x hx => by obtain ⟨i, _, rfl⟩ := List.mem_map.1 hx; exact ok_man n i
set_option maxHeartbeats 4000000 in
theorem TopHalf_walk (n0 g0 : Int) (w : World) :
    Calls Try.prog 12 #[.int .i64 n0, .int .i64 g0] w fun en w' => en = .returned (.bool true) ∧ Up w w' := by
  refine calls_of_sim Try.func12 rfl (Nat.le_of_ble_eq_true rfl) ?_
  repeat (first | refine RL.vv ?_ | refine RL.p ?_ | refine RL.nil ?_ | refine Sim.seq ?_ | refine Sim.region ?_ | refine Sim.block ?_ | refine Sim.skip ?_ | refine Sim.inBlock ?_ | refine Sim.exit rfl ?_ | refine Sim.condT rfl ?_ | refine Sim.condF rfl ?_)
  refine RL.cu (.refl w) (aliveT_any w) fun w1 hu1 _ => ?_
  by_cases c1 : n0 < 1
  · repeat (first | refine RL.vv ?_ | refine RL.p ?_ | refine RL.nil ?_ | refine Sim.seq ?_ | refine Sim.region ?_ | refine Sim.block ?_ | refine Sim.skip ?_ | refine Sim.inBlock ?_ | refine Sim.exit rfl ?_ | refine Sim.condT rfl ?_ | refine Sim.condF rfl ?_)
    exact Sim.ret1 Try.func12 rfl rfl ⟨rfl, hu1⟩
  by_cases c2 : (20 : Int) < n0
  · repeat (first | refine RL.vv ?_ | refine RL.p ?_ | refine RL.nil ?_ | refine Sim.seq ?_ | refine Sim.region ?_ | refine Sim.block ?_ | refine Sim.skip ?_ | refine Sim.inBlock ?_ | refine Sim.exit rfl ?_ | refine Sim.condT rfl ?_ | refine Sim.condF rfl ?_)
    exact Sim.ret1 Try.func12 rfl rfl ⟨rfl, hu1⟩
  by_cases c3 : g0 < 0
  · repeat (first | refine RL.vv ?_ | refine RL.p ?_ | refine RL.nil ?_ | refine Sim.seq ?_ | refine Sim.region ?_ | refine Sim.block ?_ | refine Sim.skip ?_ | refine Sim.inBlock ?_ | refine Sim.exit rfl ?_ | refine Sim.condT rfl ?_ | refine Sim.condF rfl ?_)
    exact Sim.ret1 Try.func12 rfl rfl ⟨rfl, hu1⟩
  by_cases c4 : n0 ≤ g0
  · repeat (first | refine RL.vv ?_ | refine RL.p ?_ | refine RL.nil ?_ | refine Sim.seq ?_ | refine Sim.region ?_ | refine Sim.block ?_ | refine Sim.skip ?_ | refine Sim.inBlock ?_ | refine Sim.exit rfl ?_ | refine Sim.condT rfl ?_ | refine Sim.condF rfl ?_)
    exact Sim.ret1 Try.func12 rfl rfl ⟨rfl, hu1⟩
  obtain ⟨n, rfl⟩ := Int.eq_ofNat_of_zero_le (show 0 ≤ n0 by omega)
  obtain ⟨g, rfl⟩ := Int.eq_ofNat_of_zero_le (show 0 ≤ g0 by omega)
  have hgn : g < n := by omega
  repeat (first | refine RL.vv ?_ | refine RL.p ?_ | refine RL.nil ?_ | refine Sim.seq ?_ | refine Sim.region ?_ | refine Sim.block ?_ | refine Sim.skip ?_ | refine Sim.inBlock ?_ | refine Sim.exit rfl ?_ | refine Sim.condT rfl ?_ | refine Sim.condF rfl ?_)
  refine RL.cx (people_any n (by omega) w1) ?_
  rintro _ w2 ⟨bl, x1, x2, x3, x4, x5, rfl, h12, hp⟩
  refine ⟨_, rfl, ?_⟩
  have hxl : ((List.range n).map userM).length = n := by simp
  have hpx := hp.x1
  obtain ⟨xa, xc, rfl, hxc, hxm, _⟩ := id hpx
  repeat (first | refine RL.vv ?_ | refine RL.p ?_ | refine RL.nil ?_ | refine Sim.seq ?_ | refine Sim.region ?_ | refine Sim.block ?_ | refine Sim.skip ?_ | refine Sim.inBlock ?_ | refine Sim.exit rfl ?_ | refine Sim.condT rfl ?_ | refine Sim.condF rfl ?_)
  refine Sim.ordD [19] (fun wq => At wq bl 0 [x1, .slice none 0 0, .slice xa ((List.range n).map userM).length xc, x3, x4, x5]) (fun _ => True) ?_ mixed
  have tv : True := trivial
  have hd := Up.drew w2
  have hp := hp.up hd
  have hS := hp.box.at
  have hbl := hp.box.lt
  refine RD.tk 0 ?_
  refine RD.tk 2 ?_
  refine RD.tk 3 ?_ (hy := fun wq hq => y_indexAddr (i := 0) (k := 3) rfl rfl (by decide))
  refine RD.tk 4 ?_
  refine RD.tk 5 ?_ (hy := fun wq hq => y_loadF rfl hq rfl)
  refine RD.tk 6 ?_
  refine RD.tk 7 ?_ (hy := fun wq hq => y_sliceHi (i := g) rfl rfl (by omega))
  refine RD.tk 9 ?_
  refine RD.tk 10 ?_ (hy := fun wq hq => y_indexAddr (i := 0) (k := 3) rfl rfl (by decide))
  refine RD.tk 11 ?_
  refine RD.tk 12 ?_ (hy := fun wq hq => y_loadF rfl hq rfl)
  refine RD.tk 13 ?_
  refine RD.tk 14 ?_ (v := .int .i64 ((g + 1 : Nat) : Int)) (hy := fun wq hq => y_inc rfl rfl (by omega))
  refine RD.tk 15 ?_ (hy := fun wq hq => y_sliceLo (i := g + 1) (k := 3) rfl rfl (by omega) hxc)
  refine RD.one 1 ?_
  refine RL.bu (el := 64) [] hd fun b29 w3 he29 hB29 hu23 h3 hb29 => ?_
  have hp3 := hp.up h3
  have hx3 := hp3.x1.old
  refine RL.od tv hp3.box.at ?_
  refine RD.one 8 ?_
  have ho := Own.empty (S := fun b => (w1.heap.size ≤ b ∧ b ≠ bl) ∧ b < w2.drew.heap.size) (B := w2.drew.heap.size) thgLay hb29 (Nat.le_of_eq he29.symm)
  have hxd : SliceOf thgLay (fun b => (w1.heap.size ≤ b ∧ b ≠ bl) ∧ b < w2.drew.heap.size) w3 (.slice xa ((List.range n).map userM).length xc) ((List.range n).map userM) := hp.x1.old.up h3
  have hn29 : ∀ b, b < w2.drew.heap.size → some b ≠ Value.ownBlock (.slice (some ⟨b29, 0, none⟩) 0 0) := fun b hb e => by simp [Value.ownBlock] at e; omega
  refine RL.app (L := thgLay) (el := 64) (S := fun b => (w1.heap.size ≤ b ∧ b ≠ bl) ∧ b < w2.drew.heap.size) (B := w2.drew.heap.size) (ys := ((List.range n).map userM).take g) hu23 ho ((hxd.take (by omega)).mono fun b hb => ⟨hb, hn29 b hb.2⟩) (by simp; omega) hd.size h3.size fun v4 w4 hu24 ho4 hg4 hv4 => ?_
  rw [List.nil_append] at ho4
  have hblg : some bl ≠ Value.ownBlock (.slice (some ⟨b29, 0, none⟩) 0 0) := hn29 bl hbl
  have hbx4 := hp3.box.grown hg4 hblg
  have hp4 := hp.up h3
  have hxd4 := hxd.grown hg4 fun b hb => hn29 b hb.2
  have hs4 := hg4.size
  have hs3 := h3.size
  refine RL.od tv hbx4.at ?_
  refine RD.one 16 ?_
  have hdd : dropV xa ((List.range n).map userM).length xc (g + 1) thgLay.k = dropV xa ((List.range n).map userM).length xc (g + 1) 3 := rfl
  refine RL.app (L := thgLay) (el := 64) (S := fun b => (w1.heap.size ≤ b ∧ b ≠ bl) ∧ b < w2.drew.heap.size) (B := w2.drew.heap.size) (ys := ((List.range n).map userM).drop (g + 1)) hu24 ho4 ((hxd4.drop (i := g + 1) (by omega)).mono fun b hb => ⟨hb, ho4.ne' hb.2⟩) (by simp; omega) hd.size (by omega) fun v5 w5 hu25 ho5 hg5 hv5 => ?_
  have hbx5 := hbx4.grown hg5 (ho4.ne' hbl)
  have hs5 := hg5.size
  refine RL.od tv hbx5.at ?_
  have hS := hbx5.at
  refine RD.tm 17 ?_ (hy := fun wq hq => y_indexAddr (i := 0) (k := 3) rfl rfl (by decide))
  refine RD.tm 18 ?_
  refine RD.one 19 ?_
  have hkeep : Keep (fun b => b < w2.drew.heap.size) w2.drew w5 := fun b hb hlt => ((hg5.block b (by omega) (ho4.ne' hb)).trans (hg4.block b (by omega) (hn29 b hb))).trans (h3.block hb)
  have hk2 : Keep (fun b => (w1.heap.size ≤ b ∧ b ≠ bl) ∧ b < w2.drew.heap.size) w2.drew w5 := fun b hb hlt => hkeep b hb.2 hlt
  have hp5 : PplAt w1 w5 bl x1 (.slice xa ((List.range n).map userM).length xc) x3 x4 x5 ((List.range n).map userM) ((List.range n).map (manM n)) :=
    ⟨hp.at_, hbx5, (hp.t1.old.keep hk2).mono fun _ h => h.1, (hp.x1.old.keep hk2).mono fun _ h => h.1, (hp.t2.old.keep hk2).mono fun _ h => h.1, (hp.c2.old.keep hk2).mono fun _ h => h.1, (hp.x2.old.keep hk2).mono fun _ h => h.1⟩
  obtain ⟨ra, rn, rc, rfl⟩ := ho5.sh
  have hz5 := ho5.sl (S' := fun b => w1.heap.size ≤ b ∧ b ≠ bl) (fun b hb _ _ => hb.1) fun x hx => by
    have := (ho5.lt x hx).1
    have := hp.at_
    exact ⟨by have := h12.size; have := hd.size; omega, by omega⟩
  refine RL.sb hbx5 fun w6 hbt6 hb6 => ?_
  have hp6 := hp5.set hbt6 hb6 hz5
  have hu6 : Up w1 w6 := Up.but (h12.trans hu25) hbt6 hp.at_
  refine RL.ox tv ?_
  refine RD.done (RL.nil ?_)
  have hu6 := hu1.trans hu6
  clear hp5 hz5 hk2 hkeep hS hbx5 hbx4 hp4 hxd4 hxd hp3 hx3 ho ho4 ho5 hg4 hg5 hv4 hv5 hp hpx hbt6 hb6
  repeat (first | refine RL.vv ?_ | refine RL.p ?_ | refine RL.nil ?_ | refine Sim.seq ?_ | refine Sim.region ?_ | refine Sim.block ?_ | refine Sim.skip ?_ | refine Sim.inBlock ?_ | refine Sim.exit rfl ?_ | refine Sim.condT rfl ?_ | refine Sim.condF rfl ?_)
  refine RL.cu hu6 (key_any g (by omega) w6) fun w7 hu7 h67 => ?_
  refine RL.vv ?_ (hy := y_cat rfl rfl (by show 5 + 3 ≤ _; decide))
  refine RL.vv ?_ (hy := y_cat rfl rfl (by show 8 + 19 ≤ _; decide))
  refine RL.cx (run_top (l := halfPM n g) (tPre ++ keyM g ++ tHalf) w7 (hp6.up h67).sl (ok_half (by omega))) ?_
  rintro _ w8 ⟨gv, rv, rfl, h78, hs, _⟩
  refine ⟨_, rfl, ?_⟩
  have hu8 := hu7.trans h78
  have e1 : topM (halfPM n g) (tPre ++ keyM g ++ tHalf) = runM 9 (halfPM n g) (chainA g 1) := by
    unfold topM
    rw [parse_half (by omega), if_pos rfl]
  have hh := half_ok (by omega) (by omega) hgn
  rw [e1] at hs ⊢
  unfold halfOk at hh
  generalize runM 9 (halfPM n g) (chainA g 1) = R at *
  simp only [Bool.and_eq_true, decide_eq_true_eq, beq_iff_eq, Bool.not_eq_true', null_eq, text_eq, subs_eq] at hh
  obtain ⟨⟨⟨⟨⟨h0, hl2⟩, hn0⟩, ht0⟩, hn1⟩, hm1⟩ := hh
  obtain ⟨ga, gc, rfl, _⟩ := id hs
  obtain ⟨gb, go, cs, rfl, _, hgat, hgi, _⟩ := hs.at (gt_at (l := R.1) (i := 0) (by omega))
  obtain ⟨v1, v2, rfl, _, _⟩ := gt_succ.1 hgi
  obtain ⟨gb', go', cs, e, _, hgat2, hgi2, _⟩ := hs.at (gt_at (l := R.1) (i := 1) (by omega))
  cases e
  obtain ⟨v3, v4, rfl, _, hv4⟩ := gt_succ.1 hgi2
  obtain ⟨a4, c4, rfl, _⟩ := id hv4
  have hgat : At w8 gb (go + 0 * 6) _ := hgat
  have hgat2 : At w8 gb (go + 1 * 6) _ := hgat2
  rw [hn0, ht0] at hgat
  rw [hn1] at hgat2
  have k1 : ¬ ¬ (R.1.length : Int) = 2 := by omega
  have k2 : ¬ ¬ R.2.2 = 0 := by omega
  have k5 : 1 < R.1.length := by omega
  have k6 : 0 < R.1.length := by omega
  have k7 : sNil = (⟨#[]⟩ : Str) := rfl
  have k8 : (((gtAt R.1 1).subs.length : Nat) : Int) = ((min 1 (n - 1 - g) : Nat) : Int) := by rw [hm1]
  clear hs hgi hgi2 hv4 e1 hp6
  repeat (first | refine RL.vv ?_ | refine RL.p ?_ | refine RL.nil ?_ | refine Sim.seq ?_ | refine Sim.region ?_ | refine Sim.block ?_ | refine Sim.skip ?_ | refine Sim.inBlock ?_ | refine Sim.exit rfl ?_ | refine Sim.condT rfl ?_ | refine Sim.condF rfl ?_)
  refine RL.vv ?_ (hy := y_sub (d := ((n - 1 : Nat) : Int)) rfl rfl (by omega) (by omega) (by omega))
  refine RL.vv ?_
  refine RL.vv ?_ (hy := y_sub (d := ((n - 1 - g : Nat) : Int)) rfl rfl (by omega) (by omega) (by omega))
  refine RL.vv ?_ (hy := y_min (a := 1) (b := n - 1 - g) (d := min 1 (n - 1 - g)) rfl rfl (by rw [Nat.min_def]))
  repeat (first | refine RL.vv ?_ | refine RL.p ?_ | refine RL.nil ?_ | refine Sim.seq ?_ | refine Sim.region ?_ | refine Sim.block ?_ | refine Sim.skip ?_ | refine Sim.inBlock ?_ | refine Sim.exit rfl ?_ | refine Sim.condT rfl ?_ | refine Sim.condF rfl ?_)
  exact Sim.ret1 Try.func12 rfl rfl ⟨rfl, hu8⟩
end Go.Proofs.Ytgckpmcdlciibac
