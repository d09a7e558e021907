/- The reference of chapter 6: what is meant. -/
import Derived.Test.YtgckpmcdlciibacYC89
import Derived.Test.YtgckpmcdlciibacZ8
namespace Go.Proofs.Ytgckpmcdlciibac
open Go.RowKit
set_option maxHeartbeats 2000000 in
theorem RMean_any {m : Nat} {S S3 : Nat → Prop} {lv kv : Value} {l : List Svc} (q : Ak) (w : World) (hl : SliceOf svcLay S w lv l) (hos : ∀ s ∈ l, okSvc s) (hps : SliceOf (pckLay (m + 1)) S3 w kv q.picks) (hok : ∀ p ∈ q.picks, okPck (m + 1) p) (hx1 : q.type.size ≤ maxLen) (hx2 : q.key.size ≤ maxLen) :
    Calls Try.prog 40 #[lv, .agg #[.string q.type, .string q.key, kv]] w fun en w' => ∃ v, en = .returned (.tuple #[v, .int .i64 (meanM (m + 1) l q).2]) ∧ Up w w' ∧ Own (gtLay (m + 2)) 77 w.heap.size (fun b => w.heap.size ≤ b) w' v (meanM (m + 1) l q).1 := by
  refine calls_of_sim Try.func40 rfl (Nat.le_of_ble_eq_true rfl) ?_
  obtain ⟨la, lc, rfl, _⟩ := id hl
  obtain ⟨ka, kc, rfl, _⟩ := id hps
  repeat (first | refine RL.vv ?_ | refine RL.p ?_ | refine RL.nil ?_ | refine Sim.seq ?_ | refine Sim.region ?_ | refine Sim.block ?_ | refine Sim.skip ?_ | refine Sim.inBlock ?_ | refine Sim.exit rfl ?_ | refine Sim.condT rfl ?_ | refine Sim.condF rfl ?_)
  refine RL.bx (.refl w) fun b3 w1 he3 hle3 hu _ hb3 => ?_
  have hb3 : Box w1 b3 _ [.string q.type, .string q.key, .slice ka q.picks.length kc] := hb3
  repeat (first | refine RL.vv ?_ | refine RL.p ?_ | refine RL.nil ?_ | refine Sim.seq ?_ | refine Sim.region ?_ | refine Sim.block ?_ | refine Sim.skip ?_ | refine Sim.inBlock ?_ | refine Sim.exit rfl ?_ | refine Sim.condT rfl ?_ | refine Sim.condF rfl ?_)
  refine RL.cx (RAll_any w1 (hl.up hu) hos) ?_
  rintro _ w2 ⟨pv, rfl, h12, hds, lab, hp⟩
  refine ⟨_, rfl, ?_⟩
  have hu2 := hu.trans h12
  have hb3 := hb3.up h12
  have hparts := hp.parts.mono (S' := fun _ => True) fun _ _ => trivial
  obtain ⟨pa, pc, rfl, hpnc, hpcm, _⟩ := id hparts
  unfold fltV
  unfold maxLen at hpcm
  clear h12 hp hu
  repeat (first | refine RL.vv ?_ | refine RL.p ?_ | refine RL.nil ?_ | refine Sim.seq ?_ | refine Sim.region ?_ | refine Sim.block ?_ | refine Sim.skip ?_ | refine Sim.inBlock ?_ | refine Sim.exit rfl ?_ | refine Sim.condT rfl ?_ | refine Sim.condF rfl ?_)
  refine RL.al hu2 fun b7 w3 he7 hle7 hu3 h23 hb7 => ?_
  have hne : b3 ≠ b7 := by have := hb3.lt; omega
  have hb3 := hb3.up h23
  repeat (first | refine RL.vv ?_ | refine RL.p ?_ | refine RL.nil ?_ | refine Sim.seq ?_ | refine Sim.region ?_ | refine Sim.block ?_ | refine Sim.skip ?_ | refine Sim.inBlock ?_ | refine Sim.exit rfl ?_ | refine Sim.condT rfl ?_ | refine Sim.condF rfl ?_)
  refine RL.st hu3 hb7 hle7 fun w4 hu hbt hb7 => ?_
  have h24 := Up.but h23 hbt (Nat.le_of_eq he7.symm)
  have hb7 : Box w4 b7 _ [.int .i64 (allM l).2.err, .int .i64 (allM l).2.at_] := hb7
  have hb3 := hb3.but hbt hne
  have hparts := hparts.up h24
  have ha7 := hb7.at
  have ha3 := hb3.at
  clear hbt h23 h24 hu2 hu3 he7
  unfold meanM
  by_cases he : (allM l).2.err = 0
  rotate_left
  · rw [if_neg he]
    repeat (first | refine RL.vv ?_ | refine RL.p ?_ | refine RL.nil ?_ | refine Sim.seq ?_ | refine Sim.region ?_ | refine Sim.block ?_ | refine Sim.skip ?_ | refine Sim.inBlock ?_ | refine Sim.exit rfl ?_ | refine Sim.condT rfl ?_ | refine Sim.condF rfl ?_)
    refine Sim.q ?_
    repeat (first | refine RQ.vv ?_ | refine RQ.p ?_)
    refine RQ.nil fun w5 h45 => ?_
    repeat (first | refine RL.vv ?_ | refine RL.p ?_ | refine RL.nil ?_ | refine Sim.seq ?_ | refine Sim.region ?_ | refine Sim.block ?_ | refine Sim.skip ?_ | refine Sim.inBlock ?_ | refine Sim.exit rfl ?_ | refine Sim.condT rfl ?_ | refine Sim.condF rfl ?_)
    exact Sim.ret2 Try.func40 rfl rfl rfl ⟨_, rfl, hu.trans h45, Own.nil _ _ _ _ _⟩
  rw [if_pos he]
  repeat (first | refine RL.vv ?_ | refine RL.p ?_ | refine RL.nil ?_ | refine Sim.seq ?_ | refine Sim.region ?_ | refine Sim.block ?_ | refine Sim.skip ?_ | refine Sim.inBlock ?_ | refine Sim.exit rfl ?_ | refine Sim.condT rfl ?_ | refine Sim.condF rfl ?_)
  refine RL.cu hu (RCheck_any q w4 hparts (hps.up hu) hok hx1 hx2) fun w5 hu h45 => ?_
  have hb3 := hb3.up h45
  have hparts := hparts.up h45
  clear ha7 ha3 h45 hb7
  have ha3 := hb3.at
  by_cases hc : checkM (m + 1) (allM l).1 q = 0
  rotate_left
  · rw [if_neg hc]
    repeat (first | refine RL.vv ?_ | refine RL.p ?_ | refine RL.nil ?_ | refine Sim.seq ?_ | refine Sim.region ?_ | refine Sim.block ?_ | refine Sim.skip ?_ | refine Sim.inBlock ?_ | refine Sim.exit rfl ?_ | refine Sim.condT rfl ?_ | refine Sim.condF rfl ?_)
    exact Sim.ret2 Try.func40 rfl rfl rfl ⟨_, rfl, hu, Own.nil _ _ _ _ _⟩
  rw [if_pos hc]
  obtain ⟨hc1, hc2, hc3, hc4⟩ := checkM_zero.1 hc
  have hsm := shapeM_small (m + 1) q.picks 1 0 (by decide) (by decide) hc3
  have hw := wholeOk he
  obtain ⟨k, t, hk, htk, htn, _⟩ := goes_ok hc4
  have hkl := (List.getElem?_eq_some_iff.1 htk).1
  obtain ⟨tb, to, cs, he2, _, htat, ⟨fv, ov, hv, rfl, hfv, hov, hhv⟩, _⟩ := hparts.at htk
  subst he2
  have htat : At w5 tb (to + k * 4) _ := htat
  have hI : RIn S (fun _ => True) tb (to + k * 4) (.slice la l.length lc) (.slice (some ⟨tb, to, none⟩) (allM l).1.length pc) fv ov hv l (allM l).1 t w5 := ⟨hw, List.mem_of_getElem? htk, hl.up hu, hparts, htat, hfv, hov, hhv⟩
  repeat (first | refine RL.vv ?_ | refine RL.p ?_ | refine RL.nil ?_ | refine Sim.seq ?_ | refine Sim.region ?_ | refine Sim.block ?_ | refine Sim.skip ?_ | refine Sim.inBlock ?_ | refine Sim.exit rfl ?_ | refine Sim.condT rfl ?_ | refine Sim.condF rfl ?_)
  refine RL.cs (v := .pointer (some ⟨tb, to + k * 4, none⟩)) (by have := RPart_any q.type w5 hparts; rw [hk, ptrAt_nat] at this; exact this) ?_
  clear htat hparts hfv hov hhv
  repeat (first | refine RL.vv ?_ | refine RL.p ?_ | refine RL.nil ?_ | refine Sim.seq ?_ | refine Sim.region ?_ | refine Sim.block ?_ | refine Sim.skip ?_ | refine Sim.inBlock ?_ | refine Sim.exit rfl ?_ | refine Sim.condT rfl ?_ | refine Sim.condF rfl ?_)
  have hth : (semOf l (allM l).1).there q.type q.key = thereM l t q.key := by rw [← htn]; simp only [semOf, partM_at hw htk]
  refine RL.cu hu (RThere_any t q.key w5 hI.svcs hI.part hI.homes (hw.home t (List.mem_of_getElem? htk))) fun w8 hu h78 => ?_
  have ha3 := ha3.up h78
  have hI := hI.up h78
  rw [hth]
  cases ht : thereM l t q.key with
  | false =>
    rw [if_neg (by decide)]
    repeat (first | refine RL.vv ?_ | refine RL.p ?_ | refine RL.nil ?_ | refine Sim.seq ?_ | refine Sim.region ?_ | refine Sim.block ?_ | refine Sim.skip ?_ | refine Sim.inBlock ?_ | refine Sim.exit rfl ?_ | refine Sim.condT rfl ?_ | refine Sim.condF rfl ?_)
    exact Sim.ret2 Try.func40 rfl rfl rfl ⟨_, rfl, hu, Own.nil _ _ _ _ _⟩
  | true =>
    rw [if_pos rfl]
    repeat (first | refine RL.vv ?_ | refine RL.p ?_ | refine RL.nil ?_ | refine Sim.seq ?_ | refine Sim.region ?_ | refine Sim.block ?_ | refine Sim.skip ?_ | refine Sim.inBlock ?_ | refine Sim.exit rfl ?_ | refine Sim.condT rfl ?_ | refine Sim.condF rfl ?_)
    refine RL.cx (RGet_any (m + 1) q.key w8 hI (hps.up hu) (by rw [htn]; exact hc4) hsm) ?_
    rintro _ w9 ⟨v, rfl, h89, ho⟩
    refine ⟨_, rfl, ?_⟩
    rw [htn] at ho
    have hs8 := hu.size
    repeat (first | refine RL.vv ?_ | refine RL.p ?_ | refine RL.nil ?_ | refine Sim.seq ?_ | refine Sim.region ?_ | refine Sim.block ?_ | refine Sim.skip ?_ | refine Sim.inBlock ?_ | refine Sim.exit rfl ?_ | refine Sim.condT rfl ?_ | refine Sim.condF rfl ?_)
    exact Sim.ret2 Try.func40 rfl rfl rfl ⟨_, rfl, hu.trans h89, (ho.base hs8).shift fun b hb _ _ => Nat.le_trans hs8 hb⟩
end Go.Proofs.Ytgckpmcdlciibac
