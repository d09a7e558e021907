/- The walk of QueryLess. -/
import Derived.Test.YtgckpmcdlciibabYL54
import Derived.Test.YtgckpmcdlciibabZE
import Derived.Test.YtgckpmcdlciibabZV
namespace Go.Proofs.Ytgckpmcdlciibab
open Go.RowKit
set_option maxHeartbeats 2000000 in
theorem QueryLess_walk {m : Nat} {S S' : Nat → Prop} {lv v : Value} {l : List Prt} (q : Ak) (n : Int) (w : World) (hl : SliceOf prtLay S' w lv l) (hps : SliceOf (pckLay (m + 1)) S w v q.picks) :
    Calls Try.prog 5 #[lv, .agg #[.string q.type, .string q.key, v], .int .i64 n] w fun en w' => en = .returned (.bool true) ∧ Up w w' := by
  refine calls_of_sim Try.func5 rfl (Nat.le_of_ble_eq_true rfl) ?_
  obtain ⟨a, c, rfl, hnc, hcm, hel⟩ := id hps
  obtain ⟨la, lc, rfl, hlnc, hlcm, _⟩ := id hl
  repeat (first | refine RL.vv ?_ | refine RL.p ?_ | refine RL.nil ?_ | refine Sim.seq ?_ | refine Sim.region ?_ | refine Sim.block ?_ | refine Sim.skip ?_ | refine Sim.inBlock ?_ | refine Sim.exit rfl ?_ | refine Sim.condT rfl ?_ | refine Sim.condF rfl ?_)
  refine RL.bx (.refl w) fun b1 w1 he1 hle1 hu1 _ hb1 => ?_
  have hb1 : Box w1 b1 37 [.string q.type, .string q.key, .slice a q.picks.length c] := hb1
  repeat (first | refine RL.vv ?_ | refine RL.p ?_ | refine RL.nil ?_ | refine Sim.seq ?_ | refine Sim.region ?_ | refine Sim.block ?_ | refine Sim.skip ?_ | refine Sim.inBlock ?_ | refine Sim.exit rfl ?_ | refine Sim.condT rfl ?_ | refine Sim.condF rfl ?_)
  refine RL.cu hu1 (alive4_any w1) fun w2 hu2 h12 => ?_
  have hb1 := hb1.up h12
  have ha1 := hb1.at
  repeat (first | refine RL.vv ?_ | refine RL.p ?_ | refine RL.nil ?_ | refine Sim.seq ?_ | refine Sim.region ?_ | refine Sim.block ?_ | refine Sim.skip ?_ | refine Sim.inBlock ?_ | refine Sim.exit rfl ?_ | refine Sim.condT rfl ?_ | refine Sim.condF rfl ?_)
  refine RL.cu hu2 (Check_any q w2 (hl.up hu2) (hps.up hu2)) fun w3 hu3 h23 => ?_
  have hb1 := hb1.up h23
  have ha1 := hb1.at
  by_cases hc : checkM (m + 1) l q = 0
  rotate_left
  · repeat (first | refine RL.vv ?_ | refine RL.p ?_ | refine RL.nil ?_ | refine Sim.seq ?_ | refine Sim.region ?_ | refine Sim.block ?_ | refine Sim.skip ?_ | refine Sim.inBlock ?_ | refine Sim.exit rfl ?_ | refine Sim.condT rfl ?_ | refine Sim.condF rfl ?_)
    exact Sim.ret1 Try.func5 rfl rfl ⟨rfl, hu3⟩
  have hc' : ¬ ¬ checkM (m + 1) l q = 0 := fun h => h hc
  by_cases h1 : n < 1
  · repeat (first | refine RL.vv ?_ | refine RL.p ?_ | refine RL.nil ?_ | refine Sim.seq ?_ | refine Sim.region ?_ | refine Sim.block ?_ | refine Sim.skip ?_ | refine Sim.inBlock ?_ | refine Sim.exit rfl ?_ | refine Sim.condT rfl ?_ | refine Sim.condF rfl ?_)
    exact Sim.ret1 Try.func5 rfl rfl ⟨rfl, hu3⟩
  by_cases h2 : (q.picks.length : Int) < n
  · repeat (first | refine RL.vv ?_ | refine RL.p ?_ | refine RL.nil ?_ | refine Sim.seq ?_ | refine Sim.region ?_ | refine Sim.block ?_ | refine Sim.skip ?_ | refine Sim.inBlock ?_ | refine Sim.exit rfl ?_ | refine Sim.condT rfl ?_ | refine Sim.condF rfl ?_)
    exact Sim.ret1 Try.func5 rfl rfl ⟨rfl, hu3⟩
  obtain ⟨i, rfl⟩ := Int.eq_ofNat_of_zero_le (show 0 ≤ n by omega)
  have hi1 : 1 ≤ i := by omega
  have hi2 : i ≤ q.picks.length := by omega
  have hfin : checkM (m + 1) l ⟨q.type, q.key, q.picks.take i⟩ = 0 := check_take (t := q.type) (k := q.key) (ps := q.picks) hc hi1 hi2
  repeat (first | refine RL.vv ?_ | refine RL.p ?_ | refine RL.nil ?_ | refine Sim.seq ?_ | refine Sim.region ?_ | refine Sim.block ?_ | refine Sim.skip ?_ | refine Sim.inBlock ?_ | refine Sim.exit rfl ?_ | refine Sim.condT rfl ?_ | refine Sim.condF rfl ?_)
  refine RL.al hu3 fun b2 w4 he2 hB2 hu4 h34 hb2 => ?_
  refine RL.st hu4 hb2 hB2 fun w5 hu5 hbt5 hb2 => ?_
  have hb2 : Box w5 b2 37 [.string q.type, .string q.key, .slice a q.picks.length c] := hb2
  have hn : b1 ≠ b2 := by have := hb1.lt; omega
  have hb1 := (hb1.up h34).but hbt5 hn
  have ha1 := hb1.at
  repeat (first | refine RL.vv ?_ | refine RL.p ?_ | refine RL.nil ?_ | refine Sim.seq ?_ | refine Sim.region ?_ | refine Sim.block ?_ | refine Sim.skip ?_ | refine Sim.inBlock ?_ | refine Sim.exit rfl ?_ | refine Sim.condT rfl ?_ | refine Sim.condF rfl ?_)
  refine RL.st hu5 hb2 hB2 fun w6 hu6 _ hb2 => ?_
  have hb2 : Box w6 b2 37 [.string q.type, .string q.key, .slice a i c] := hb2
  have ha2 := hb2.at
  repeat (first | refine RL.vv ?_ | refine RL.p ?_ | refine RL.nil ?_ | refine Sim.seq ?_ | refine Sim.region ?_ | refine Sim.block ?_ | refine Sim.skip ?_ | refine Sim.inBlock ?_ | refine Sim.exit rfl ?_ | refine Sim.condT rfl ?_ | refine Sim.condF rfl ?_)
  refine RL.cu hu6 (Check_any ⟨q.type, q.key, q.picks.take i⟩ w6 (hl.up hu6) ((hps.up hu6).take hi2)) fun w7 hu7 _ => ?_
  rw [hfin]
  repeat (first | refine RL.vv ?_ | refine RL.p ?_ | refine RL.nil ?_ | refine Sim.seq ?_ | refine Sim.region ?_ | refine Sim.block ?_ | refine Sim.skip ?_ | refine Sim.inBlock ?_ | refine Sim.exit rfl ?_ | refine Sim.condT rfl ?_ | refine Sim.condF rfl ?_)
  exact Sim.ret1 Try.func5 rfl rfl ⟨rfl, hu7⟩
end Go.Proofs.Ytgckpmcdlciibab
