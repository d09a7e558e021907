/- The walk of TopText. -/
import Derived.Test.YtgckpmcdlciibacZ5
import Derived.Test.YtgckpmcdlciibacYL34
namespace Go.Proofs.Ytgckpmcdlciibac
open Go.RowKit
set_option maxHeartbeats 2000000 in
theorem TopText_walk {S : Nat → Prop} {lv : Value} {l : List Svc} (s : Str) (w : World) (hl : SliceOf svcLay S w lv l) (hok : ∀ x ∈ l, okSvc x) :
    Calls Try.prog 13 #[lv, .string s] w fun en w' => en = .returned (.bool true) ∧ Up w w' := by
  refine calls_of_sim Try.func13 rfl (Nat.le_of_ble_eq_true rfl) ?_
  obtain ⟨la, lc, rfl, _⟩ := id hl
  repeat (first | refine RL.vv ?_ | refine RL.p ?_ | refine RL.nil ?_ | refine Sim.seq ?_ | refine Sim.region ?_ | refine Sim.block ?_ | refine Sim.skip ?_ | refine Sim.inBlock ?_ | refine Sim.exit rfl ?_ | refine Sim.condT rfl ?_ | refine Sim.condF rfl ?_)
  refine RL.cu (.refl w) (aliveT_any w) fun w1 hu1 _ => ?_
  repeat (first | refine RL.vv ?_ | refine RL.p ?_ | refine RL.nil ?_ | refine Sim.seq ?_ | refine Sim.region ?_ | refine Sim.block ?_ | refine Sim.skip ?_ | refine Sim.inBlock ?_ | refine Sim.exit rfl ?_ | refine Sim.condT rfl ?_ | refine Sim.condF rfl ?_)
  refine RL.cx (Parse_any s w1) ?_
  rintro _ w2 ⟨v, rfl, h12, hsl⟩
  refine ⟨_, rfl, ?_⟩
  have hu2 := hu1.trans h12
  obtain ⟨va, vc, rfl, _⟩ := id hsl
  repeat (first | refine RL.vv ?_ | refine RL.p ?_ | refine RL.nil ?_ | refine Sim.seq ?_ | refine Sim.region ?_ | refine Sim.block ?_ | refine Sim.skip ?_ | refine Sim.inBlock ?_ | refine Sim.exit rfl ?_ | refine Sim.condT rfl ?_ | refine Sim.condF rfl ?_)
  refine RL.al hu2 fun b5 w3 he5 hB5 hu3 h23 hb5 => ?_
  refine RL.al hu3 fun b6 w4 he6 hB6 hu4 h34 hb6 => ?_
  have hn : b5 ≠ b6 := by have := hb5.lt; omega
  refine RL.st hu4 (hb5.up h34) hB5 fun w5 hu5 hbt5 hb5 => ?_
  refine RL.st hu5 (hb6.but hbt5 hn.symm) hB6 fun w6 hu6 hbt6 hb6 => ?_
  have hb5 : Box w6 b5 25 [.string (parseM s).1.type, .string (parseM s).1.key, .slice va (parseM s).1.picks.length vc] := hb5.but hbt6 hn
  have hb6 : Box w6 b6 35 [.int .i64 (parseM s).2.1, .int .i64 (parseM s).2.2] := hb6
  have hsl6 : SliceOf (pckLay 8) (fun b => w1.heap.size ≤ b ∧ b < w2.heap.size) w6 (.slice va (parseM s).1.picks.length vc) (parseM s).1.picks := by
    have hz := h23.size
    exact (((hsl.old.up h23).up h34).bt hbt5 (fun k hk => by have := hk.2; omega)).bt hbt6 (fun k hk => by have := hk.2; omega)
  clear hbt5 hbt6 h12 h23 h34 hu1 hu2 hu3 hu4 hu5 hsl
  repeat (first | refine RL.vv ?_ | refine RL.p ?_ | refine RL.nil ?_ | refine Sim.seq ?_ | refine Sim.region ?_ | refine Sim.block ?_ | refine Sim.skip ?_ | refine Sim.inBlock ?_ | refine Sim.exit rfl ?_ | refine Sim.condT rfl ?_ | refine Sim.condF rfl ?_)
  refine RL.cx (run_top s w6 (hl.up hu6) hok) ?_
  rintro _ w7 ⟨gv, rv, rfl, h67, hs, _⟩
  refine ⟨_, rfl, ?_⟩
  have hu7 := hu6.trans h67
  have hb5 := hb5.up h67
  have hb6 := hb6.up h67
  have hsl := hsl6.up h67
  have ha5 := hb5.at
  have ha6 := hb6.at
  unfold topM at hs ⊢
  generalize parseM s = pr at *
  obtain ⟨a, pe, pa⟩ := pr
  simp only at hs hsl ha5 ha6 ⊢
  by_cases h0 : pe = 0
  rotate_left
  · rw [if_neg h0] at hs ⊢
    simp only at hs ⊢
    obtain ⟨ga, gc, rfl, _⟩ := id hs
    have k0 : (([] : List Gt).length : Int) = 0 := rfl
    repeat (first | refine RL.vv ?_ | refine RL.p ?_ | refine RL.nil ?_ | refine Sim.seq ?_ | refine Sim.region ?_ | refine Sim.block ?_ | refine Sim.skip ?_ | refine Sim.inBlock ?_ | refine Sim.exit rfl ?_ | refine Sim.condT rfl ?_ | refine Sim.condF rfl ?_)
    exact Sim.ret1 Try.func13 rfl rfl ⟨rfl, hu7⟩
  rw [if_pos h0] at hs ⊢
  obtain ⟨m1, m2, _⟩ := run_means 8 l a
  obtain ⟨ga, gc, rfl, _⟩ := id hs
  repeat (first | refine RL.vv ?_ | refine RL.p ?_ | refine RL.nil ?_ | refine Sim.seq ?_ | refine Sim.region ?_ | refine Sim.block ?_ | refine Sim.skip ?_ | refine Sim.inBlock ?_ | refine Sim.exit rfl ?_ | refine Sim.condT rfl ?_ | refine Sim.condF rfl ?_)
  refine RL.cx (Mean_any (m := 8) a w7 (hl.up hu7) hsl.pck) ?_
  rintro _ w8 ⟨mv, rfl, h78, ho⟩
  refine ⟨_, rfl, ?_⟩
  have hu8 := hu7.trans h78
  have hs := hs.up h78
  have hs2 := ho.sl (S' := fun _ => True) (fun _ _ _ _ => trivial) fun _ _ => trivial
  rw [← m2] at hs2
  rw [← m1]
  obtain ⟨xa, xc, rfl, _⟩ := id hs2
  generalize runM 9 l a = R at *
  clear ha5 ha6 hb5 hb6 ho hsl6
  have e0 : R.2.2 = R.2.2 := rfl
  repeat (first | refine RL.vv ?_ | refine RL.p ?_ | refine RL.nil ?_ | refine Sim.seq ?_ | refine Sim.region ?_ | refine Sim.block ?_ | refine Sim.skip ?_ | refine Sim.inBlock ?_ | refine Sim.exit rfl ?_ | refine Sim.condT rfl ?_ | refine Sim.condF rfl ?_)
  refine RL.cu hu8 (SameGot_any 10 w8 hs hs2) fun w9 hu9 _ => ?_
  repeat (first | refine RL.vv ?_ | refine RL.p ?_ | refine RL.nil ?_ | refine Sim.seq ?_ | refine Sim.region ?_ | refine Sim.block ?_ | refine Sim.skip ?_ | refine Sim.inBlock ?_ | refine Sim.exit rfl ?_ | refine Sim.condT rfl ?_ | refine Sim.condF rfl ?_)
  exact Sim.ret1 Try.func13 rfl rfl ⟨rfl, hu9⟩
end Go.Proofs.Ytgckpmcdlciibac
