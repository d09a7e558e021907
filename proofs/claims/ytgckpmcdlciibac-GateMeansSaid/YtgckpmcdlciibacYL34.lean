/- The walk of GateMeans. -/
import Derived.Test.YtgckpmcdlciibacYL31
import Derived.Test.YtgckpmcdlciibacZX
namespace Go.Proofs.Ytgckpmcdlciibac
open Go.RowKit
theorem run_means (m : Nat) (l : List Svc) (a : Ak) : (runM (m + 1) l a).2.2 = (meanM (m + 1) l a).2 ∧ (runM (m + 1) l a).1 = (meanM (m + 1) l a).1 ∧ ((runM (m + 1) l a).2.2 ≠ 0 → (runM (m + 1) l a).2.1 = []) := by
  unfold runM
  by_cases h0 : (meanM (m + 1) l a).2 = 0
  · rw [if_pos h0]
    obtain ⟨h1, hc, _⟩ := meanM_zero.1 h0
    obtain ⟨_, _, _, h4⟩ := checkM_zero.1 hc
    obtain ⟨k, t, hk, htk, htn, _⟩ := goes_ok h4
    have hp : partM (allM l).1 a.type = some t := by rw [← htn]; exact partM_at (wholeOk h1) htk
    rw [hp]
    exact ⟨h0.symm, rfl, fun h => absurd rfl h⟩
  · rw [if_neg h0]
    refine ⟨rfl, ?_, fun _ => rfl⟩
    unfold meanM at h0 ⊢
    by_cases h1 : (allM l).2.err = 0
    · rw [if_pos h1] at h0 ⊢
      by_cases h2 : checkM (m + 1) (allM l).1 a = 0
      · rw [if_pos h2] at h0 ⊢
        by_cases h3 : (semOf l (allM l).1).there a.type a.key = true
        · rw [if_pos h3] at h0
          exact absurd rfl h0
        · rw [if_neg h3]
      · rw [if_neg h2]
    · rw [if_neg h1]
set_option maxHeartbeats 2000000 in
theorem GateMeans_walk {m : Nat} {S S3 : Nat → Prop} {lv kv : Value} {l : List Svc} (q : Ak) (w : World) (hl : SliceOf svcLay S w lv l) (hok : ∀ s ∈ l, okSvc s) (hps : SliceOf (pckLay (m + 1)) S3 w kv q.picks) :
    Calls Try.prog 10 #[lv, .agg #[.string q.type, .string q.key, kv]] w fun en w' => en = .returned (.bool true) ∧ Up w w' := by
  refine calls_of_sim Try.func10 rfl (Nat.le_of_ble_eq_true rfl) ?_
  obtain ⟨la, lc, rfl, _⟩ := id hl
  obtain ⟨ka, kc, rfl, _⟩ := id hps
  repeat (first | refine RL.vv ?_ | refine RL.p ?_ | refine RL.nil ?_ | refine Sim.seq ?_ | refine Sim.region ?_ | refine Sim.block ?_ | refine Sim.skip ?_ | refine Sim.inBlock ?_ | refine Sim.exit rfl ?_ | refine Sim.condT rfl ?_ | refine Sim.condF rfl ?_)
  refine RL.bx (.refl w) fun b3 w1 he3 hle3 hu1 _ hb3 => ?_
  have hb3 : Box w1 b3 _ [.string q.type, .string q.key, .slice ka q.picks.length kc] := hb3
  repeat (first | refine RL.vv ?_ | refine RL.p ?_ | refine RL.nil ?_ | refine Sim.seq ?_ | refine Sim.region ?_ | refine Sim.block ?_ | refine Sim.skip ?_ | refine Sim.inBlock ?_ | refine Sim.exit rfl ?_ | refine Sim.condT rfl ?_ | refine Sim.condF rfl ?_)
  refine RL.cu hu1 (alive7_any w1) fun w2 hu h12 => ?_
  have hb3 := hb3.up h12
  have ha3 := hb3.at
  clear h12 hu1
  repeat (first | refine RL.vv ?_ | refine RL.p ?_ | refine RL.nil ?_ | refine Sim.seq ?_ | refine Sim.region ?_ | refine Sim.block ?_ | refine Sim.skip ?_ | refine Sim.inBlock ?_ | refine Sim.exit rfl ?_ | refine Sim.condT rfl ?_ | refine Sim.condF rfl ?_)
  refine RL.cx (Run_any q w2 (hl.up hu) hok (hps.up hu)) ?_
  rintro _ w3 ⟨v, rv, rfl, h23, hs, hr⟩
  refine ⟨_, rfl, ?_⟩
  have hu3 := hu.trans h23
  obtain ⟨va, vc, rfl, _⟩ := id hs
  obtain ⟨ra, rc, rfl, _⟩ := id hr
  have ha3 := ha3.up h23
  obtain ⟨m1, m2, m3⟩ := run_means m l q
  repeat (first | refine RL.vv ?_ | refine RL.p ?_ | refine RL.nil ?_ | refine Sim.seq ?_ | refine Sim.region ?_ | refine Sim.block ?_ | refine Sim.skip ?_ | refine Sim.inBlock ?_ | refine Sim.exit rfl ?_ | refine Sim.condT rfl ?_ | refine Sim.condF rfl ?_)
  refine RL.cx (Mean_any q w3 (hl.up hu3) (hps.up hu3)) ?_
  rintro _ w4 ⟨gv, rfl, h34, ho⟩
  refine ⟨_, rfl, ?_⟩
  have hu4 := hu3.trans h34
  have hs := hs.up h34
  have hs2 := ho.sl (S' := fun _ => True) (fun _ _ _ _ => trivial) fun _ _ => trivial
  rw [← m2] at hs2
  rw [← m1]
  obtain ⟨ga, gc, rfl, _⟩ := id hs2
  generalize runM (m + 1) l q = R at *
  clear ha3 hb3 ho hr
  have e0 : R.2.2 = R.2.2 := rfl
  by_cases h0 : R.2.2 = 0
  · repeat (first | refine RL.vv ?_ | refine RL.p ?_ | refine RL.nil ?_ | refine Sim.seq ?_ | refine Sim.region ?_ | refine Sim.block ?_ | refine Sim.skip ?_ | refine Sim.inBlock ?_ | refine Sim.exit rfl ?_ | refine Sim.condT rfl ?_ | refine Sim.condF rfl ?_)
    refine RL.cu hu4 (SameGot_any (m + 2) w4 hs hs2) fun w5 hu5 _ => ?_
    repeat (first | refine RL.vv ?_ | refine RL.p ?_ | refine RL.nil ?_ | refine Sim.seq ?_ | refine Sim.region ?_ | refine Sim.block ?_ | refine Sim.skip ?_ | refine Sim.inBlock ?_ | refine Sim.exit rfl ?_ | refine Sim.condT rfl ?_ | refine Sim.condF rfl ?_)
    exact Sim.ret1 Try.func10 rfl rfl ⟨rfl, hu5⟩
  · have m3 := m3 h0
    have m4 : (R.2.1.length : Int) = 0 := by rw [m3]; rfl
    repeat (first | refine RL.vv ?_ | refine RL.p ?_ | refine RL.nil ?_ | refine Sim.seq ?_ | refine Sim.region ?_ | refine Sim.block ?_ | refine Sim.skip ?_ | refine Sim.inBlock ?_ | refine Sim.exit rfl ?_ | refine Sim.condT rfl ?_ | refine Sim.condF rfl ?_)
    refine RL.cu hu4 (SameGot_any (m + 2) w4 hs hs2) fun w5 hu5 _ => ?_
    repeat (first | refine RL.vv ?_ | refine RL.p ?_ | refine RL.nil ?_ | refine Sim.seq ?_ | refine Sim.region ?_ | refine Sim.block ?_ | refine Sim.skip ?_ | refine Sim.inBlock ?_ | refine Sim.exit rfl ?_ | refine Sim.condT rfl ?_ | refine Sim.condF rfl ?_)
    exact Sim.ret1 Try.func10 rfl rfl ⟨rfl, hu5⟩
end Go.Proofs.Ytgckpmcdlciibac
