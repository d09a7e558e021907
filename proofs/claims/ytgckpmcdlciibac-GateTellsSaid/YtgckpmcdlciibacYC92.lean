/- The reference of chapter 7: what is meant, and the requests it takes. -/
import Derived.Test.YtgckpmcdlciibacYC91
import Derived.Test.YtgckpmcdlciibacZ1
namespace Go.Proofs.Ytgckpmcdlciibac
open Go.RowKit
set_option maxHeartbeats 4000000 in
theorem RRun_any {m : Nat} {S S3 : Nat → Prop} {lv kv : Value} {l : List Svc} (q : Ak) (w : World) (hl : SliceOf svcLay S w lv l) (hos : ∀ s ∈ l, okSvc s) (hps : SliceOf (pckLay (m + 1)) S3 w kv q.picks) (hok : ∀ p ∈ q.picks, okPck (m + 1) p) (hx1 : q.type.size ≤ maxLen) (hx2 : q.key.size ≤ maxLen) :
    Calls Try.prog 19 #[lv, .agg #[.string q.type, .string q.key, kv]] w fun en w' => ∃ v rv, en = .returned (.tuple #[v, rv, .int .i64 (runM (m + 1) l q).2.2]) ∧ Up w w' ∧ SliceOf (gtLay (m + 2)) (fun b => w.heap.size ≤ b) w' v (runM (m + 1) l q).1 ∧ SliceOf rqLay (fun b => w.heap.size ≤ b) w' rv (runM (m + 1) l q).2.1 := by
  refine calls_of_sim Try.func19 rfl (Nat.le_of_ble_eq_true rfl) ?_
  obtain ⟨la, lc, rfl, _⟩ := id hl
  obtain ⟨ka, kc, rfl, _⟩ := id hps
  have hlv := lay_lvl hps
  repeat (first | refine RL.vv ?_ | refine RL.p ?_ | refine RL.nil ?_ | refine Sim.seq ?_ | refine Sim.region ?_ | refine Sim.block ?_ | refine Sim.skip ?_ | refine Sim.inBlock ?_ | refine Sim.exit rfl ?_ | refine Sim.condT rfl ?_ | refine Sim.condF rfl ?_)
  refine RL.bx (.refl w) fun b3 w1 he3 hle3 hu _ hb3 => ?_
  have ha3 := hb3.at
  have ha3 : At w1 b3 0 [.string q.type, .string q.key, .slice ka q.picks.length kc] := ha3
  repeat (first | refine RL.vv ?_ | refine RL.p ?_ | refine RL.nil ?_ | refine Sim.seq ?_ | refine Sim.region ?_ | refine Sim.block ?_ | refine Sim.skip ?_ | refine Sim.inBlock ?_ | refine Sim.exit rfl ?_ | refine Sim.condT rfl ?_ | refine Sim.condF rfl ?_)
  refine RL.cx (RMean_any q w1 (hl.up hu) hos (hps.up hu) hok hx1 hx2) ?_
  rintro _ w2 ⟨gv, rfl, h12, hg⟩
  refine ⟨_, rfl, ?_⟩
  have hu2 := hu.trans h12
  have ha3 := ha3.up h12
  obtain ⟨ga, gn, gc, rfl⟩ := hg.sh
  have hs1 := hu.size
  have hg : SliceOf (gtLay (m + 2)) (fun b => w.heap.size ≤ b) w2 (.slice ga gn gc) (meanM (m + 1) l q).1 := hg.sl (fun b hb _ _ => Nat.le_trans hs1 hb) fun g h => Nat.le_trans hs1 (hg.lt g h).1
  by_cases h0 : (meanM (m + 1) l q).2 = 0
  rotate_left
  · have hrun : runM (m + 1) l q = ([], [], (meanM (m + 1) l q).2) := by unfold runM; rw [if_neg h0]
    rw [hrun]
    repeat (first | refine RL.vv ?_ | refine RL.p ?_ | refine RL.nil ?_ | refine Sim.seq ?_ | refine Sim.region ?_ | refine Sim.block ?_ | refine Sim.skip ?_ | refine Sim.inBlock ?_ | refine Sim.exit rfl ?_ | refine Sim.condT rfl ?_ | refine Sim.condF rfl ?_)
    exact Sim.ret3 Try.func19 rfl rfl rfl rfl ⟨_, _, rfl, hu2, SliceOf.nil _ _ _, SliceOf.nil _ _ _⟩
  obtain ⟨he, hc, hthere⟩ := meanM_zero.1 h0
  obtain ⟨hc1, hc2, hc3, hc4⟩ := checkM_zero.1 hc
  have hsm := shapeM_small (m + 1) q.picks 1 0 (by decide) (by decide) hc3
  have hl8 := shapeM_lvl (m + 1) q.picks 1 0 8 (by decide) hlv hc3
  have hw := wholeOk he
  obtain ⟨k, t, hk, htk, htn, _⟩ := goes_ok hc4
  have hkl := (List.getElem?_eq_some_iff.1 htk).1
  have hpt : partM (allM l).1 q.type = some t := by rw [← htn]; exact partM_at hw htk
  have hbd := asks_bound he hc hlv (List.mem_of_getElem? htk) htn [q.key]
  have hrun : runM (m + 1) l q = ((meanM (m + 1) l q).1, asksM l (allM l).1 t [q.key] q.picks, 0) := by unfold runM; rw [if_pos h0, hpt]
  rw [hrun]
  repeat (first | refine RL.vv ?_ | refine RL.p ?_ | refine RL.nil ?_ | refine Sim.seq ?_ | refine Sim.region ?_ | refine Sim.block ?_ | refine Sim.skip ?_ | refine Sim.inBlock ?_ | refine Sim.exit rfl ?_ | refine Sim.condT rfl ?_ | refine Sim.condF rfl ?_)
  refine RL.cx (RAll_any w2 (hl.up hu2) hos) ?_
  rintro _ w3 ⟨pv, rfl, h23, hds, lab, hp⟩
  refine ⟨_, rfl, ?_⟩
  have hparts := hp.parts.mono (S' := fun _ => True) fun _ _ => trivial
  obtain ⟨pa, pc, rfl, hpnc, hpcm, _⟩ := id hparts
  unfold fltV
  have hu3 := hu2.trans h23
  repeat (first | refine RL.vv ?_ | refine RL.p ?_ | refine RL.nil ?_ | refine Sim.seq ?_ | refine Sim.region ?_ | refine Sim.block ?_ | refine Sim.skip ?_ | refine Sim.inBlock ?_ | refine Sim.exit rfl ?_ | refine Sim.condT rfl ?_ | refine Sim.condF rfl ?_)
  refine RL.al hu3 fun b10 w4 he10 hle10 hu4 h34 hb10 => ?_
  refine RL.vv ?_
  refine RL.st hu4 hb10 hle10 fun w5 hu hbt _ => ?_
  have h35 : Up w3 w5 := Up.but h34 hbt (Nat.le_of_eq he10.symm)
  have ha3 := (ha3.up h23).up h35
  have hg := (hg.up h23).up h35
  have hparts := hparts.up h35
  have hsw := hu.size
  clear hbt h34 hu4 hu3 hu2 h12 h23 hp h35
  obtain ⟨tb, to, cs, he2, _, htat, ⟨fv, ov, hv, rfl, hfv, hov, hhv⟩, _⟩ := hparts.at htk
  subst he2
  have htat : At w5 tb (to + k * 4) _ := htat
  have hI : RIn S (fun _ => True) tb (to + k * 4) (.slice la l.length lc) (.slice (some ⟨tb, to, none⟩) (allM l).1.length pc) fv ov hv l (allM l).1 t w5 := ⟨hw, List.mem_of_getElem? htk, hl.up hu, hparts, htat, hfv, hov, hhv⟩
  repeat (first | refine RL.vv ?_ | refine RL.p ?_ | refine RL.nil ?_ | refine Sim.seq ?_ | refine Sim.region ?_ | refine Sim.block ?_ | refine Sim.skip ?_ | refine Sim.inBlock ?_ | refine Sim.exit rfl ?_ | refine Sim.condT rfl ?_ | refine Sim.condF rfl ?_)
  have h4 := Up.drew w5
  refine Sim.ordD [14] (Up w5) (Up w5) ?_ mixed
  refine RD.tk 0 ?_
  refine RD.tk 1 ?_
  refine RD.tk 2 ?_
  refine RD.tk 3 ?_
  refine RD.tk 4 ?_
  refine RD.tk 5 ?_
  refine RD.tk 7 ?_
  refine RD.tk 8 ?_
  refine RD.tk 10 ?_
  refine RD.tk 11 ?_
  refine RD.two 6 9 ?_ ?_
  · refine RL.cs (v := .pointer (some ⟨tb, to + k * 4, none⟩)) (by have := RPart_any q.type _ (hparts.up h4); rw [hk, ptrAt_nat] at this; exact this) ?_
    refine RL.od h4 h4 ?_
    refine RD.one 9 ?_
    refine RL.bu (el := 9) [.string q.key] h4 fun b34 _ he34 hle34 h4 hh hb34 => ?_
    have hk34 : SliceOf strLay (fun b => w.heap.size ≤ b) _ (.slice (some ⟨b34, 0, none⟩) 1 1) [q.key] := SliceOf.one hb34 (Nat.le_trans hsw hle34) rfl
    refine RL.od h4 h4 ?_
    clear hh he34
    refine RD.one 12 ?_
    refine RL.cx (RAsks_any (m + 1) (d := 8) _ he rfl (hI.up h4) (hps.up (hu.trans h4)) (by rw [htn]; exact hc4) hsm hlv hl8 hk34 (by simp only [List.length_cons, List.length_nil]; decide) (Nat.le_trans hbd (by decide))) ?_
    rintro _ w9 ⟨rv, rfl, h49, hr⟩
    refine ⟨_, rfl, ?_⟩
    have h4' := h4.trans h49
    refine RL.od h4' h4' ?_
    refine RD.tk 13 ?_ (h1 := h4') (h2 := h4')
    refine RD.on 14 h4' ?_
    refine RD.on 15 h4' ?_
    refine RD.done (RL.nil ?_)
    repeat (first | refine RL.vv ?_ | refine RL.p ?_ | refine RL.nil ?_ | refine Sim.seq ?_ | refine Sim.region ?_ | refine Sim.block ?_ | refine Sim.skip ?_ | refine Sim.inBlock ?_ | refine Sim.exit rfl ?_ | refine Sim.condT rfl ?_ | refine Sim.condF rfl ?_)
    exact Sim.ret3 Try.func19 rfl rfl rfl rfl ⟨_, _, rfl, hu.trans h4', hg.up h4', hr.sl (fun b hb hlt _ => by
      rcases hb with hb | hb
      · exact hb
      · exact Nat.le_trans (hu.trans h4).size hb) fun g hg => Nat.le_trans (hu.trans h4).size (hr.lt g hg).1⟩
  · refine RL.bu (el := 9) [.string q.key] h4 fun b34 _ he34 hle34 h4 hh hb34 => ?_
    have hk34 : SliceOf strLay (fun b => w.heap.size ≤ b) _ (.slice (some ⟨b34, 0, none⟩) 1 1) [q.key] := SliceOf.one hb34 (Nat.le_trans hsw hle34) rfl
    refine RL.od h4 h4 ?_
    clear hh he34
    refine RD.one 6 ?_
    refine RL.cs (v := .pointer (some ⟨tb, to + k * 4, none⟩)) (by have := RPart_any q.type _ (hparts.up h4); rw [hk, ptrAt_nat] at this; exact this) ?_
    refine RL.od h4 h4 ?_
    refine RD.one 12 ?_
    refine RL.cx (RAsks_any (m + 1) (d := 8) _ he rfl (hI.up h4) (hps.up (hu.trans h4)) (by rw [htn]; exact hc4) hsm hlv hl8 hk34 (by simp only [List.length_cons, List.length_nil]; decide) (Nat.le_trans hbd (by decide))) ?_
    rintro _ w9 ⟨rv, rfl, h49, hr⟩
    refine ⟨_, rfl, ?_⟩
    have h4' := h4.trans h49
    refine RL.od h4' h4' ?_
    refine RD.tk 13 ?_ (h1 := h4') (h2 := h4')
    refine RD.on 14 h4' ?_
    refine RD.on 15 h4' ?_
    refine RD.done (RL.nil ?_)
    repeat (first | refine RL.vv ?_ | refine RL.p ?_ | refine RL.nil ?_ | refine Sim.seq ?_ | refine Sim.region ?_ | refine Sim.block ?_ | refine Sim.skip ?_ | refine Sim.inBlock ?_ | refine Sim.exit rfl ?_ | refine Sim.condT rfl ?_ | refine Sim.condF rfl ?_)
    exact Sim.ret3 Try.func19 rfl rfl rfl rfl ⟨_, _, rfl, hu.trans h4', hg.up h4', hr.sl (fun b hb hlt _ => by
      rcases hb with hb | hb
      · exact hb
      · exact Nat.le_trans (hu.trans h4).size hb) fun g hg => Nat.le_trans (hu.trans h4).size (hr.lt g hg).1⟩
end Go.Proofs.Ytgckpmcdlciibac
