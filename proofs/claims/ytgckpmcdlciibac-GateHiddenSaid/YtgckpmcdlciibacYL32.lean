/- The walk of GateRight. -/
import Derived.Test.YtgckpmcdlciibacYL31
import Derived.Test.YtgckpmcdlciibacZG
namespace Go.Proofs.Ytgckpmcdlciibac
open Go.RowKit
theorem run_from {m : Nat} {l : List Svc} {a : Ak} (h : (runM m l a).2.2 = 0) : (allM l).2.err = 0 ∧ ∀ r ∈ (runM m l a).2.1, FromHome (allM l).1 r := by
  unfold runM at h ⊢
  by_cases h0 : (meanM m l a).2 = 0
  · rw [if_pos h0] at h ⊢
    obtain ⟨h1, _, _⟩ := meanM_zero.1 h0
    refine ⟨h1, ?_⟩
    cases hp : partM (allM l).1 a.type with
    | none => rw [hp] at h; simp at h
    | some p => exact asksM_from (partM_in hp).1 (by simp) (by simp)
  · rw [if_neg h0] at h
    exact absurd h h0
set_option maxHeartbeats 4000000 in
theorem GateRight_walk {m : Nat} {S S3 : Nat → Prop} {lv kv : Value} {l : List Svc} (q : Ak) (w : World) (hl : SliceOf svcLay S w lv l) (hok : ∀ s ∈ l, okSvc s) (hps : SliceOf (pckLay (m + 1)) S3 w kv q.picks) :
    Calls Try.prog 5 #[lv, .agg #[.string q.type, .string q.key, kv]] w fun en w' => en = .returned (.bool true) ∧ Up w w' := by
  refine calls_of_sim Try.func5 rfl (Nat.le_of_ble_eq_true rfl) ?_
  obtain ⟨la, lc, rfl, _⟩ := id hl
  obtain ⟨ka, kc, rfl, _⟩ := id hps
  repeat (first | refine RL.vv ?_ | refine RL.p ?_ | refine RL.nil ?_ | refine Sim.seq ?_ | refine Sim.region ?_ | refine Sim.block ?_ | refine Sim.skip ?_ | refine Sim.inBlock ?_ | refine Sim.exit rfl ?_ | refine Sim.condT rfl ?_ | refine Sim.condF rfl ?_)
  refine RL.bx (.refl w) fun b3 w1 he3 hle3 hu1 _ hb3 => ?_
  have hb3 : Box w1 b3 _ [.string q.type, .string q.key, .slice ka q.picks.length kc] := hb3
  repeat (first | refine RL.vv ?_ | refine RL.p ?_ | refine RL.nil ?_ | refine Sim.seq ?_ | refine Sim.region ?_ | refine Sim.block ?_ | refine Sim.skip ?_ | refine Sim.inBlock ?_ | refine Sim.exit rfl ?_ | refine Sim.condT rfl ?_ | refine Sim.condF rfl ?_)
  refine RL.cu hu1 (alive7_any w1) fun w2 hu h12 => ?_
  have ha3 := (hb3.up h12).at
  clear hb3 h12 hu1
  repeat (first | refine RL.vv ?_ | refine RL.p ?_ | refine RL.nil ?_ | refine Sim.seq ?_ | refine Sim.region ?_ | refine Sim.block ?_ | refine Sim.skip ?_ | refine Sim.inBlock ?_ | refine Sim.exit rfl ?_ | refine Sim.condT rfl ?_ | refine Sim.condF rfl ?_)
  refine RL.cx (Run_any q w2 (hl.up hu) hok (hps.up hu)) ?_
  rintro _ w3 ⟨v, rv, rfl, h23, hs, hr⟩
  refine ⟨_, rfl, ?_⟩
  have hu3 := hu.trans h23
  obtain ⟨va, vc, rfl, _⟩ := id hs
  obtain ⟨ra, rc, rfl, hrnc, hrcm, _⟩ := id hr
  unfold maxLen at hrcm
  have hfrom := run_from (m := m + 1) (l := l) (a := q)
  generalize runM (m + 1) l q = R at *
  clear hs ha3
  by_cases h0 : R.2.2 = 0
  rotate_left
  · repeat (first | refine RL.vv ?_ | refine RL.p ?_ | refine RL.nil ?_ | refine Sim.seq ?_ | refine Sim.region ?_ | refine Sim.block ?_ | refine Sim.skip ?_ | refine Sim.inBlock ?_ | refine Sim.exit rfl ?_ | refine Sim.condT rfl ?_ | refine Sim.condF rfl ?_)
    exact Sim.ret1 Try.func5 rfl rfl ⟨rfl, hu3⟩
  obtain ⟨hall, hfrom⟩ := hfrom h0
  have hl3 := hl.up hu3
  repeat (first | refine RL.vv ?_ | refine RL.p ?_ | refine RL.nil ?_ | refine Sim.seq ?_ | refine Sim.region ?_ | refine Sim.block ?_ | refine Sim.skip ?_ | refine Sim.inBlock ?_ | refine Sim.exit rfl ?_ | refine Sim.condT rfl ?_ | refine Sim.condF rfl ?_)
  refine Sim.loop (σ := Nat) (fun i => [(0, .slice la l.length lc), (21, .slice ra R.2.1.length rc), (22, .int .i64 (R.2.1.length : Int)), (23, .int .i64 (i : Int))]) (fun i w' => i ≤ R.2.1.length ∧ Up w3 w') (fun i => R.2.1.length - i) 0 sb ⟨Nat.zero_le _, .refl _⟩ ?_
  rintro i w4 ⟨hi, h34⟩ next
  by_cases hlt : i < R.2.1.length
  rotate_left
  · repeat (first | refine RL.vv ?_ | refine RL.p ?_ | refine RL.nil ?_ | refine Sim.seq ?_ | refine Sim.region ?_ | refine Sim.block ?_ | refine Sim.skip ?_ | refine Sim.inBlock ?_ | refine Sim.exit rfl ?_ | refine Sim.condT rfl ?_ | refine Sim.condF rfl ?_)
    exact Sim.ret1 Try.func5 rfl rfl ⟨rfl, hu3.trans h34⟩
  have hx : R.2.1[i]? = some R.2.1[i] := List.getElem?_eq_getElem hlt
  obtain ⟨rb, ro, cs, rfl, _, hrat, ⟨v1, v2, rfl, hv1, hv2⟩, _⟩ := (hr.up h34).at hx
  have hrat : At w4 rb (ro + i * 4) _ := hrat
  have hfr := hfrom R.2.1[i] (List.getElem_mem hlt)
  generalize R.2.1[i] = r at *
  have hw0 := rq_right hall hfr
  obtain ⟨_, _, _, _, _, _, _, _, _, _, hkne, _⟩ := request_of hall hfr
  have hkl : 0 < r.keys.length := List.length_pos_iff.2 hkne
  have hkn : ¬ (r.keys.length : Int) = 0 := by omega
  obtain ⟨a1, c1, rfl, _⟩ := id hv1
  obtain ⟨a2, c2, rfl, _⟩ := id hv2
  repeat (first | refine RL.vv ?_ | refine RL.p ?_ | refine RL.nil ?_ | refine Sim.seq ?_ | refine Sim.region ?_ | refine Sim.block ?_ | refine Sim.skip ?_ | refine Sim.inBlock ?_ | refine Sim.exit rfl ?_ | refine Sim.condT rfl ?_ | refine Sim.condF rfl ?_)
  refine RL.al h34 fun b9 w5 he9 hle9 h35 h45 hb9 => ?_
  repeat (first | refine RL.vv ?_ | refine RL.p ?_ | refine RL.nil ?_ | refine Sim.seq ?_ | refine Sim.region ?_ | refine Sim.block ?_ | refine Sim.skip ?_ | refine Sim.inBlock ?_ | refine Sim.exit rfl ?_ | refine Sim.condT rfl ?_ | refine Sim.condF rfl ?_)
  refine RL.st h35 hb9 hle9 fun w6 h36 _ hb9 => ?_
  have hb9 : Box w6 b9 _ [.int .i64 r.service, .string r.type, .slice a1 r.keys.length c1, .slice a2 r.fields.length c2] := hb9
  have ha9 := hb9.at
  have h46 : Up w4 w6 := Up.but h45 (by assumption) (Nat.le_of_eq he9.symm)
  clear hrat
  repeat (first | refine RL.vv ?_ | refine RL.p ?_ | refine RL.nil ?_ | refine Sim.seq ?_ | refine Sim.region ?_ | refine Sim.block ?_ | refine Sim.skip ?_ | refine Sim.inBlock ?_ | refine Sim.exit rfl ?_ | refine Sim.condT rfl ?_ | refine Sim.condF rfl ?_)
  refine RL.cu (hu3.trans h36) (SWrong_any r w6 (hl3.up h36) (hv1.up h46) (hv2.up h46)) fun w7 hu7 h67 => ?_
  rw [hw0]
  have ha9 := ha9.up h67
  repeat (first | refine RL.vv ?_ | refine RL.p ?_ | refine RL.nil ?_ | refine Sim.seq ?_ | refine Sim.region ?_ | refine Sim.block ?_ | refine Sim.skip ?_ | refine Sim.inBlock ?_ | refine Sim.exit rfl ?_ | refine Sim.condT rfl ?_ | refine Sim.condF rfl ?_)
  exact next (i + 1) _ _ ⟨by omega, h36.trans h67⟩ (by omega) sb
end Go.Proofs.Ytgckpmcdlciibac
