/- Contracts of chapter 2: a change is done. -/
import Derived.Test.YtgckpmcdlciibaaC32
namespace Go.Proofs.Ytgckpmcdlciibaa
open Go.RowKit
theorem modify_set {α : Type} : ∀ {l : List α} {i : Nat} {x : α}, l[i]? = some x → ∀ f : α → α, l.modify i f = l.set i (f x)
  | [], i, x, h, f => by simp at h
  | y :: l, 0, x, h, f => by simp at h; subst h; simp
  | y :: l, i + 1, x, h, f => by
    have := modify_set (l := l) (i := i) (x := x) (by simpa using h) f
    simpa using this
theorem snF_get {l : List Sn} {n : Str} (h : ¬ snF l n < 0) : ∃ (j : Nat) (t : Sn), snF l n = (j : Int) ∧ l[j]? = some t ∧ j < l.length := by
  obtain ⟨j, t, h1, h2, _, h3⟩ := firstIdx_lt (l := l) (p := fun t => decide (t.type.name = n)) (by unfold snF at h; omega)
  exact ⟨j, t, h1, h2, h3⟩
theorem fieldF_get' {l : List Fld} {n : Str} (h : ¬ fieldF l n < 0) : ∃ (j : Nat) (t : Fld), fieldF l n = (j : Int) ∧ l[j]? = some t ∧ j < l.length := by
  obtain ⟨j, t, h1, h2, _, h3⟩ := firstIdx_lt (l := l) (p := fun t => decide (t.name = n)) (by unfold fieldF at h; omega)
  exact ⟨j, t, h1, h2, h3⟩
set_option maxHeartbeats 4000000 in
theorem do_any {B cb co : Nat} {v : Value} {hds : List Hd} {sns : List Sn} {lab : Nat → Nat} (c : Chg) (w : World) (h : ViewAt B w v hds sns lab) (hc : At w cb co [.int .i64 c.kind, .string c.type, .string c.field, .string c.to]) (hcb : cb < B) (hBw : B ≤ w.heap.size) (hfl : ∀ s ∈ sns, s.fields.length = s.type.fields.length) :
    Calls Try.prog 71 #[v, .pointer (some ⟨cb, co, none⟩)] w fun en w' => en = .returned (.int .i64 (doV sns c).1) ∧ Below B w w' ∧ ∃ hds', ViewAt B w' v hds' (doV sns c).2 lab := by
  refine calls_of_sim Try.func71 rfl (Nat.le_of_ble_eq_true rfl) ?_
  obtain ⟨kind, type, field, to⟩ := c
  simp only at hc
  unfold doV
  simp only
  have hBr : Below B w w := Below.refl _ _
  by_cases h1 : kind < 1
  · rw [if_pos (.inl h1)]
    repeat (first | refine RL.vv ?_ | refine RL.p ?_ | refine RL.nil ?_ | refine Sim.seq ?_ | refine Sim.region ?_ | refine Sim.block ?_ | refine Sim.skip ?_ | refine Sim.inBlock ?_ | refine Sim.exit rfl ?_ | refine Sim.condT rfl ?_ | refine Sim.condF rfl ?_)
    exact Sim.ret1 Try.func71 rfl rfl ⟨rfl, hBr, hds, h⟩
  by_cases h3 : 3 < kind
  · rw [if_pos (.inr h3)]
    repeat (first | refine RL.vv ?_ | refine RL.p ?_ | refine RL.nil ?_ | refine Sim.seq ?_ | refine Sim.region ?_ | refine Sim.block ?_ | refine Sim.skip ?_ | refine Sim.inBlock ?_ | refine Sim.exit rfl ?_ | refine Sim.condT rfl ?_ | refine Sim.condF rfl ?_)
    exact Sim.ret1 Try.func71 rfl rfl ⟨rfl, hBr, hds, h⟩
  rw [if_neg (by omega)]
  repeat (first | refine RL.vv ?_ | refine RL.p ?_ | refine RL.nil ?_ | refine Sim.seq ?_ | refine Sim.region ?_ | refine Sim.block ?_ | refine Sim.skip ?_ | refine Sim.inBlock ?_ | refine Sim.exit rfl ?_ | refine Sim.condT rfl ?_ | refine Sim.condF rfl ?_)
  refine RL.cu (.refl w) (vfind_any type w h.slice) fun w1 hu _ => ?_
  rw [h.find]
  have hbel : Below B w w1 := Below.mono hu.below hBw
  have hBw := Nat.le_trans hBw hu.size
  have h := h.up hu
  have hc := hc.up hu
  clear hu hBr
  by_cases h4 : snF sns type < 0
  · rw [if_pos h4]
    repeat (first | refine RL.vv ?_ | refine RL.p ?_ | refine RL.nil ?_ | refine Sim.seq ?_ | refine Sim.region ?_ | refine Sim.block ?_ | refine Sim.skip ?_ | refine Sim.inBlock ?_ | refine Sim.exit rfl ?_ | refine Sim.condT rfl ?_ | refine Sim.condF rfl ?_)
    exact Sim.ret1 Try.func71 rfl rfl ⟨rfl, hbel, hds, h⟩
  rw [if_neg h4]
  obtain ⟨k, s, hk, hs, hkl⟩ := snF_get h4
  rw [hk] at h4 ⊢
  simp only [Int.toNat_natCast]
  have hfl1 := hfl s (List.mem_of_getElem? hs)
  by_cases h5 : kind = 1
  · rw [if_pos h5]
    subst h5
    repeat (first | refine RL.vv ?_ | refine RL.p ?_ | refine RL.nil ?_ | refine Sim.seq ?_ | refine Sim.region ?_ | refine Sim.block ?_ | refine Sim.skip ?_ | refine Sim.inBlock ?_ | refine Sim.exit rfl ?_ | refine Sim.condT rfl ?_ | refine Sim.condF rfl ?_)
    refine RL.cu (.refl w1) (Named_any to w1) fun w2 hu _ => ?_
    have hbel2 : Below B w w2 := hbel.trans (Below.mono hu.below hBw)
    have hBw := Nat.le_trans hBw hu.size
    have h := h.up hu
    have hc := hc.up hu
    clear hu
    rcases Bool.eq_false_or_eq_true (named to) with hn | hn
    rotate_left
    · rw [hn, if_neg (fun h => by cases h.1)]
      repeat (first | refine RL.vv ?_ | refine RL.p ?_ | refine RL.nil ?_ | refine Sim.seq ?_ | refine Sim.region ?_ | refine Sim.block ?_ | refine Sim.skip ?_ | refine Sim.inBlock ?_ | refine Sim.exit rfl ?_ | refine Sim.condT rfl ?_ | refine Sim.condF rfl ?_)
      exact Sim.ret1 Try.func71 rfl rfl ⟨rfl, hbel2, hds, h⟩
    rw [hn]
    repeat (first | refine RL.vv ?_ | refine RL.p ?_ | refine RL.nil ?_ | refine Sim.seq ?_ | refine Sim.region ?_ | refine Sim.block ?_ | refine Sim.skip ?_ | refine Sim.inBlock ?_ | refine Sim.exit rfl ?_ | refine Sim.condT rfl ?_ | refine Sim.condF rfl ?_)
    refine RL.cu (.refl w2) (vfind_any to w2 h.slice) fun w3 hu _ => ?_
    rw [h.find]
    have hbel3 : Below B w w3 := hbel2.trans (Below.mono hu.below hBw)
    have h := h.up hu
    have hc := hc.up hu
    clear hu
    by_cases h6 : 0 ≤ snF sns to
    · rw [if_neg (fun h => h.2 h6)]
      repeat (first | refine RL.vv ?_ | refine RL.p ?_ | refine RL.nil ?_ | refine Sim.seq ?_ | refine Sim.region ?_ | refine Sim.block ?_ | refine Sim.skip ?_ | refine Sim.inBlock ?_ | refine Sim.exit rfl ?_ | refine Sim.condT rfl ?_ | refine Sim.condF rfl ?_)
      exact Sim.ret1 Try.func71 rfl rfl ⟨rfl, hbel3, hds, h⟩
    rw [if_pos ⟨rfl, h6⟩]
    repeat (first | refine RL.vv ?_ | refine RL.p ?_ | refine RL.nil ?_ | refine Sim.seq ?_ | refine Sim.region ?_ | refine Sim.block ?_ | refine Sim.skip ?_ | refine Sim.inBlock ?_ | refine Sim.exit rfl ?_ | refine Sim.condT rfl ?_ | refine Sim.condF rfl ?_)
    refine RL.cx (vcall_any to w3 h hs) ?_
    rintro _ w4 ⟨rfl, hb4, hds4, h⟩
    refine ⟨_, rfl, ?_⟩
    repeat (first | refine RL.vv ?_ | refine RL.p ?_ | refine RL.nil ?_ | refine Sim.seq ?_ | refine Sim.region ?_ | refine Sim.block ?_ | refine Sim.skip ?_ | refine Sim.inBlock ?_ | refine Sim.exit rfl ?_ | refine Sim.condT rfl ?_ | refine Sim.condF rfl ?_)
    exact Sim.ret1 Try.func71 rfl rfl ⟨rfl, hbel3.trans hb4, hds4, h⟩
  rw [if_neg h5, hs]
  simp only
  obtain ⟨a, ha⟩ := h.hd hs
  obtain ⟨g, cap, cs, rfl, hat, ⟨rfl, hoc1, hoc2⟩, hlt, hnc, hcm⟩ := h.row.get ha
  have hat : At w1 g (0 + k * 4) _ := hat
  obtain ⟨hfs, hfb⟩ := h.fs k a s ha hs
  obtain ⟨hns, hnb⟩ := h.ns k a s ha hs
  obtain ⟨fa, fc, hfe⟩ := hfs.shape
  obtain ⟨na, nc, hne⟩ := hns.shape
  unfold maxLen at hcm
  rw [hfe, hne] at hat
  have hfsl : SliceOf fldLay (fun _ => True) w1 a.fv s.type.fields := (hfs.no (S' := Nn)).sl (fun _ h _ _ => h.elim) (fun _ _ => trivial)
  rw [hfe] at hfsl
  repeat (first | refine RL.vv ?_ | refine RL.p ?_ | refine RL.nil ?_ | refine Sim.seq ?_ | refine Sim.region ?_ | refine Sim.block ?_ | refine Sim.skip ?_ | refine Sim.inBlock ?_ | refine Sim.exit rfl ?_ | refine Sim.condT rfl ?_ | refine Sim.condF rfl ?_)
  refine Sim.q ?_
  repeat (first | refine RQ.vv ?_ | refine RQ.p ?_)
  refine RQ.cu (fun wq hq => q_call (Field_any field wq (hfsl.up hq)) hq) ?_
  repeat (first | refine RQ.vv ?_ | refine RQ.p ?_)
  refine RQ.nil fun w2 hq => ?_
  have hbel : Below B w w2 := hbel.trans (Below.mono hq.below hBw)
  have hBw := Nat.le_trans hBw hq.size
  have h := h.up hq
  have hc := hc.up hq
  have hat := hat.up hq
  have hfsl := hfsl.up hq
  have hfs := hfs.up hq
  have hns := hns.up hq
  clear hq
  by_cases h6 : fieldF s.type.fields field < 0
  · rw [if_pos h6]
    repeat (first | refine RL.vv ?_ | refine RL.p ?_ | refine RL.nil ?_ | refine Sim.seq ?_ | refine Sim.region ?_ | refine Sim.block ?_ | refine Sim.skip ?_ | refine Sim.inBlock ?_ | refine Sim.exit rfl ?_ | refine Sim.condT rfl ?_ | refine Sim.condF rfl ?_)
    exact Sim.ret1 Try.func71 rfl rfl ⟨rfl, hbel, hds, h⟩
  rw [if_neg h6]
  obtain ⟨f, x, hf, hx, hfl2⟩ := fieldF_get' h6
  rw [hf] at h6 ⊢
  simp only [Int.toNat_natCast]
  by_cases h7 : kind = 3
  · rw [if_pos h7]
    subst h7
    obtain ⟨gf, cf, hfe2⟩ := hfs.pos (by omega)
    rw [hfe] at hfe2
    simp only [Value.slice.injEq, true_and] at hfe2
    obtain ⟨rfl, rfl⟩ := hfe2
    obtain ⟨gn, cn, hne2⟩ := hns.pos (by omega)
    rw [hne] at hne2
    simp only [Value.slice.injEq, true_and] at hne2
    obtain ⟨rfl, rfl⟩ := hne2
    have hgf := hfb gf (by rw [hfe]; rfl)
    have hgn := hnb gn (by rw [hne]; rfl)
    have hg0 := h.own0 g rfl
    have hgB := h.row.lt g rfl
    rw [hfe] at hfs
    rw [hne] at hns
    have hgfB := hfs.lt gf rfl
    have hgnB := hns.lt gn rfl
    obtain ⟨_, _, _, _, _, _, _, hfnc, hfcm⟩ := hfs.get hx
    unfold maxLen at hfcm
    have e1 : g ≠ gf := fun e => by rw [e, hgf] at hg0; omega
    have e2 : gn ≠ gf := fun e => by rw [e, hgf] at hgn; omega
    have e3 : gn ≠ g := fun e => by rw [e, hg0] at hgn; omega
    have hkh : k < hds.length := hlt
    repeat (first | refine RL.vv ?_ | refine RL.p ?_ | refine RL.nil ?_ | refine Sim.seq ?_ | refine Sim.region ?_ | refine Sim.block ?_ | refine Sim.skip ?_ | refine Sim.inBlock ?_ | refine Sim.exit rfl ?_ | refine Sim.condT rfl ?_ | refine Sim.condF rfl ?_)
    refine RL.cx (Delete_Fld w2 hfs hfl2) ?_
    rintro _ w3 ⟨rfl, hbt3, hfs3⟩
    refine ⟨_, rfl, ?_⟩
    have hrow3 := h.row.but hbt3 (fun _ h => h.elim) (fun g' hg' => by cases hg'; exact e1)
    have hns3 := hns.but hbt3 (fun _ h => h.elim) (fun g' hg' => by cases hg'; exact e2)
    repeat (first | refine RL.vv ?_ | refine RL.p ?_ | refine RL.nil ?_ | refine Sim.seq ?_ | refine Sim.region ?_ | refine Sim.block ?_ | refine Sim.skip ?_ | refine Sim.inBlock ?_ | refine Sim.exit rfl ?_ | refine Sim.condT rfl ?_ | refine Sim.condF rfl ?_)
    refine RL.wr (L := hdLay) (k := 4) (j := 1) (i := k) (x' := { a with fv := .slice (some ⟨gf, 0, none⟩) (s.type.fields.length - 1) fc }) hrow3 ha (fun w4 hbt4 hrow4 => ?_) (by rintro _ ⟨rfl, h1, h2⟩; exact ⟨rfl, rfl, h2⟩)
    have ha4 : (hds.set k { a with fv := .slice (some ⟨gf, 0, none⟩) (s.type.fields.length - 1) fc })[k]? = some { a with fv := .slice (some ⟨gf, 0, none⟩) (s.type.fields.length - 1) fc } := List.getElem?_set_self hkh
    have hns4 := hns3.but hbt4 (fun _ h => h.elim) (fun g' hg' => by cases hg'; exact e3)
    have hfs4 := hfs3.but hbt4 (fun _ h => h.elim) (fun g' hg' => by cases hg'; exact e1.symm)
    obtain ⟨g', c', cs, he', hat4, ⟨rfl, _, _⟩, _, _, _⟩ := hrow4.get ha4
    simp only [Value.slice.injEq, Option.some.injEq, Addr.mk.injEq, and_true, List.length_set, true_and] at he'
    obtain ⟨rfl, rfl⟩ := he'
    have hat4 : At w4 g (0 + k * 4) _ := hat4
    rw [hne] at hat4
    clear hat hfsl
    have hfln : f < s.fields.length := by omega
    obtain ⟨_, _, _, _, _, _, _, hnnc, hnnm⟩ := hns4.get (List.getElem?_eq_getElem hfln)
    unfold maxLen at hnnm
    repeat (first | refine RL.vv ?_ | refine RL.p ?_ | refine RL.nil ?_ | refine Sim.seq ?_ | refine Sim.region ?_ | refine Sim.block ?_ | refine Sim.skip ?_ | refine Sim.inBlock ?_ | refine Sim.exit rfl ?_ | refine Sim.condT rfl ?_ | refine Sim.condF rfl ?_)
    refine RL.cx (Delete_Str w4 hns4 hfln) ?_
    rintro _ w5 ⟨rfl, hbt5, hns5⟩
    refine ⟨_, rfl, ?_⟩
    have hrow5 := hrow4.but hbt5 (fun _ h => h.elim) (fun g' hg' => by cases hg'; exact e3.symm)
    have hfs5 := hfs4.but hbt5 (fun _ h => h.elim) (fun g' hg' => by cases hg'; exact e2.symm)
    repeat (first | refine RL.vv ?_ | refine RL.p ?_ | refine RL.nil ?_ | refine Sim.seq ?_ | refine Sim.region ?_ | refine Sim.block ?_ | refine Sim.skip ?_ | refine Sim.inBlock ?_ | refine Sim.exit rfl ?_ | refine Sim.condT rfl ?_ | refine Sim.condF rfl ?_)
    refine RL.wr (L := hdLay) (k := 4) (j := 3) (i := k) (x' := { a with fv := .slice (some ⟨gf, 0, none⟩) (s.type.fields.length - 1) fc, nv := .slice (some ⟨gn, 0, none⟩) (s.fields.length - 1) nc }) hrow5 ha4 (fun w6 hbt6 hrow6 => ?_) (by rintro _ ⟨rfl, h1, h2⟩; exact ⟨rfl, h1, rfl⟩)
    have hns6 := hns5.but hbt6 (fun _ h => h.elim) (fun g' hg' => by cases hg'; exact e3)
    have hfs6 := hfs5.but hbt6 (fun _ h => h.elim) (fun g' hg' => by cases hg'; exact e1.symm)
    rw [List.set_set] at hrow6
    have s3 := hbt3.size
    have s4 := hbt4.size
    have s5 := hbt5.size
    have hstep := h.step hs { a with fv := .slice (some ⟨gf, 0, none⟩) (s.type.fields.length - 1) fc, nv := .slice (some ⟨gn, 0, none⟩) (s.fields.length - 1) nc } (hideS f s) hrow6 (h.name k a s ha hs) (fun _ _ => rfl)
      (fun b hb h0 h1 h2 => by
        have n1 : b ≠ g := fun e => h0 (e ▸ hg0)
        have n2 : b ≠ gf := fun e => h1 (e ▸ hgf)
        have n3 : b ≠ gn := fun e => h2 (e ▸ hgn)
        rw [hbt6.block b (by omega) n1, hbt5.block b (by omega) n3, hbt4.block b (by omega) n1, hbt3.block b hb n2])
      ⟨hfs6, fun g' hg' => by cases hg'; exact hgf⟩ ⟨hns6, fun g' hg' => by cases hg'; exact hgn⟩
    have hbel6 := hbel.trans (((hbt3.below hBw hgfB.1).trans (hbt4.below (by omega) hgB.1)).trans ((hbt5.below (by omega) hgnB.1).trans (hbt6.below (by omega) hgB.1)))
    repeat (first | refine RL.vv ?_ | refine RL.p ?_ | refine RL.nil ?_ | refine Sim.seq ?_ | refine Sim.region ?_ | refine Sim.block ?_ | refine Sim.skip ?_ | refine Sim.inBlock ?_ | refine Sim.exit rfl ?_ | refine Sim.condT rfl ?_ | refine Sim.condF rfl ?_)
    rw [← show sns.modify k (hideS f) = sns.set k (hideS f s) from modify_set hs _] at hstep
    exact Sim.ret1 Try.func71 rfl rfl ⟨rfl, hbel6, _, hstep⟩
  rw [if_neg h7]
  have hn7 : ¬ kind = 3 := h7
  repeat (first | refine RL.vv ?_ | refine RL.p ?_ | refine RL.nil ?_ | refine Sim.seq ?_ | refine Sim.region ?_ | refine Sim.block ?_ | refine Sim.skip ?_ | refine Sim.inBlock ?_ | refine Sim.exit rfl ?_ | refine Sim.condT rfl ?_ | refine Sim.condF rfl ?_)
  refine Sim.q ?_
  repeat (first | refine RQ.vv ?_ | refine RQ.p ?_)
  refine RQ.cu (fun wq hq => q_call (Named_any to wq) hq) ?_
  rcases Bool.eq_false_or_eq_true (named to) with hn | hn
  rotate_left
  · rw [hn, if_neg (fun h => by cases h.1)]
    repeat (first | refine RQ.vv ?_ | refine RQ.p ?_)
    refine RQ.nil fun w3 hq => ?_
    repeat (first | refine RL.vv ?_ | refine RL.p ?_ | refine RL.nil ?_ | refine Sim.seq ?_ | refine Sim.region ?_ | refine Sim.block ?_ | refine Sim.skip ?_ | refine Sim.inBlock ?_ | refine Sim.exit rfl ?_ | refine Sim.condT rfl ?_ | refine Sim.condF rfl ?_)
    exact Sim.ret1 Try.func71 rfl rfl ⟨rfl, hbel.trans (Below.mono hq.below hBw), hds, h.up hq⟩
  rw [hn]
  repeat (first | refine RQ.vv ?_ | refine RQ.p ?_)
  refine RQ.cu (fun wq hq => q_call (Field_any to wq (hfsl.up hq)) hq) ?_
  by_cases h8 : 0 ≤ fieldF s.type.fields to
  · rw [if_neg (fun h => h.2 h8)]
    repeat (first | refine RQ.vv ?_ | refine RQ.p ?_)
    refine RQ.nil fun w3 hq => ?_
    repeat (first | refine RL.vv ?_ | refine RL.p ?_ | refine RL.nil ?_ | refine Sim.seq ?_ | refine Sim.region ?_ | refine Sim.block ?_ | refine Sim.skip ?_ | refine Sim.inBlock ?_ | refine Sim.exit rfl ?_ | refine Sim.condT rfl ?_ | refine Sim.condF rfl ?_)
    exact Sim.ret1 Try.func71 rfl rfl ⟨rfl, hbel.trans (Below.mono hq.below hBw), hds, h.up hq⟩
  rw [if_pos ⟨rfl, h8⟩]
  repeat (first | refine RQ.vv ?_ | refine RQ.p ?_)
  refine RQ.nil fun w3 hq => ?_
  have hq := hq.trans (Up.drew w3)
  have hbel : Below B w w3.drew := hbel.trans (Below.mono hq.below hBw)
  have h := h.up hq
  have hc := hc.up hq
  have hat := hat.up hq
  have hfs := hfs.up hq
  obtain ⟨gf, cf, cs, hfe2, hfat, rfl, _, hfnc, hfcm⟩ := hfs.get hx
  rw [hfe] at hfe2
  simp only [Value.slice.injEq, true_and] at hfe2
  obtain ⟨rfl, rfl⟩ := hfe2
  have hgf := hfb gf (by rw [hfe]; rfl)
  have hg0 := h.own0 g rfl
  rw [hfe] at hfs
  have hgfB := hfs.lt gf rfl
  unfold maxLen at hfcm
  have e1 : g ≠ gf := fun e => by rw [e, hgf] at hg0; omega
  have hS : At w3.drew g (0 + k * 4) [.string a.name, .slice (some ⟨gf, 0, none⟩) s.type.fields.length fc, .string a.own, .slice na s.fields.length nc] ∧ At w3.drew cb co [.int .i64 kind, .string type, .string field, .string to] := ⟨hat, hc⟩
  repeat (first | refine RL.vv ?_ | refine RL.p ?_ | refine RL.nil ?_ | refine Sim.seq ?_ | refine Sim.region ?_ | refine Sim.block ?_ | refine Sim.skip ?_ | refine Sim.inBlock ?_ | refine Sim.exit rfl ?_ | refine Sim.condT rfl ?_ | refine Sim.condF rfl ?_)
  refine Sim.ord (fun wq => At wq g (0 + k * 4) [.string a.name, .slice (some ⟨gf, 0, none⟩) s.type.fields.length fc, .string a.own, .slice na s.fields.length nc] ∧ At wq cb co [.int .i64 kind, .string type, .string field, .string to]) ?_
  refine RO.tk 0 ?_
  refine RO.tk 1 ?_
  refine RO.tk 2 ?_
  refine RO.tk 3 ?_ (hy := fun wq hq => y_loadF rfl hq.1 rfl)
  refine RO.tk 4 ?_
  refine RO.tk 5 ?_
  refine RO.tk 6 ?_
  refine RO.tk 7 ?_
  refine RO.tk 8 ?_ (hy := fun wq hq => y_loadF rfl hq.2 rfl)
  refine RO.tk 9 ?_
  refine RO.tk 10 ?_
  refine RO.one 11 ?_
  refine RL.wr (L := fldLay) (k := 3) (j := 0) (i := f) (x' := { x with name := to }) hfs hx fun w4 hbt hrow => ?_
  have hS4 : At w4 g (0 + k * 4) [.string a.name, .slice (some ⟨gf, 0, none⟩) s.type.fields.length fc, .string a.own, .slice na s.fields.length nc] ∧ At w4 cb co [.int .i64 kind, .string type, .string field, .string to] := ⟨hat.keep (S := fun b => b ≠ gf) hbt.keep e1, hc.keep (S := fun b => b ≠ gf) hbt.keep (by omega)⟩
  refine RL.ord hS4 ?_
  refine RO.done (RL.nil ?_)
  have hstep := h.step (w1 := w4) hs a (fieldS f to s) (by rw [set_same ha]; exact h.row.but hbt (fun _ h => h.elim) (fun g' hg' => by cases hg'; exact e1)) (h.name k a s ha hs) (fun _ _ => rfl)
    (fun b hb _ h1 _ => hbt.block b hb (fun e => h1 (e ▸ hgf)))
    ⟨by
      rw [hfe]
      have : (fieldS f to s).type.fields = s.type.fields.set f { x with name := to } := by
        simp only [fieldS]
        exact modify_set hx _
      rw [this]
      exact hrow, hfb⟩
    ⟨(h.ns k a s ha hs).1.but hbt (fun _ h => h.elim) (fun g' hg' e => by have := (h.ns k a s ha hs).2 g' hg'; rw [e, hgf] at this; omega), hnb⟩
  have hbel4 := hbel.trans (hbt.below (by omega) hgfB.1)
  rw [← show sns.modify k (fieldS f to) = sns.set k (fieldS f to s) from modify_set hs _] at hstep
  repeat (first | refine RL.vv ?_ | refine RL.p ?_ | refine RL.nil ?_ | refine Sim.seq ?_ | refine Sim.region ?_ | refine Sim.block ?_ | refine Sim.skip ?_ | refine Sim.inBlock ?_ | refine Sim.exit rfl ?_ | refine Sim.condT rfl ?_ | refine Sim.condF rfl ?_)
  exact Sim.ret1 Try.func71 rfl rfl ⟨rfl, hbel4, _, hstep⟩
end Go.Proofs.Ytgckpmcdlciibaa
