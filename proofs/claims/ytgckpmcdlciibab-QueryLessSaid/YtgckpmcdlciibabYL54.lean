/- The closed fact of chapter 4. -/
import Derived.Test.YtgckpmcdlciibabZC3
import Derived.Test.YtgckpmcdlciibabZ4
import Derived.Test.YtgckpmcdlciibabZK
namespace Go.Proofs.Ytgckpmcdlciibab
open Go.RowKit
set_option maxHeartbeats 1000000 in
theorem alive4_any (w : World) : Calls Try.prog 19 #[] w fun en w' => en = .returned (.bool true) ∧ Up w w' := by
  refine calls_of_sim Try.func19 rfl (Nat.le_of_ble_eq_true rfl) ?_
  repeat (first | refine RL.vv ?_ | refine RL.p ?_ | refine RL.nil ?_ | refine Sim.seq ?_ | refine Sim.region ?_ | refine Sim.block ?_ | refine Sim.skip ?_ | refine Sim.inBlock ?_ | refine Sim.exit rfl ?_ | refine Sim.condT rfl ?_ | refine Sim.condF rfl ?_)
  refine RL.cx (Parse_any aliveS w) ?_
  rw [alive_parse]
  rintro _ w1 ⟨v, rfl, hu1, hsl⟩
  refine ⟨_, rfl, ?_⟩
  have hsl : SliceOf (pckLay 8) (fun k => w.heap.size ≤ k) w1 v aliveA.picks := hsl
  obtain ⟨va, vc, rfl, _⟩ := id hsl
  repeat (first | refine RL.vv ?_ | refine RL.p ?_ | refine RL.nil ?_ | refine Sim.seq ?_ | refine Sim.region ?_ | refine Sim.block ?_ | refine Sim.skip ?_ | refine Sim.inBlock ?_ | refine Sim.exit rfl ?_ | refine Sim.condT rfl ?_ | refine Sim.condF rfl ?_)
  refine RL.al hu1 fun b1 w2 he1 hB1 hu2 h12 hb1 => ?_
  refine RL.al hu2 fun b2 w3 he2 hB2 hu3 h23 hb2 => ?_
  have hn : b1 ≠ b2 := by have := hb1.lt; omega
  refine RL.st hu3 (hb1.up h23) hB1 fun w4 hu4 hbt4 hb1 => ?_
  refine RL.st hu4 (hb2.but hbt4 hn.symm) hB2 fun w5 hu5 hbt5 hb2 => ?_
  have hb1 : Box w5 b1 37 [.string aliveA.type, .string aliveA.key, .slice va aliveA.picks.length vc] := hb1.but hbt5 hn
  have hb2 : Box w5 b2 41 [.int .i64 0, .int .i64 0] := hb2
  have hsl : SliceOf (pckLay 8) (fun b => w.heap.size ≤ b ∧ b < w1.heap.size) w5 (.slice va aliveA.picks.length vc) aliveA.picks := by
    have hz := h12.size
    exact (((hsl.old.up h12).up h23).bt hbt4 (fun k hk => by have := hk.2; omega)).bt hbt5 (fun k hk => by have := hk.2; omega)
  clear hbt4 hbt5 h12 h23 hu1 hu2 hu3 hu4
  have ha1 := hb1.at
  repeat (first | refine RL.vv ?_ | refine RL.p ?_ | refine RL.nil ?_ | refine Sim.seq ?_ | refine Sim.region ?_ | refine Sim.block ?_ | refine Sim.skip ?_ | refine Sim.inBlock ?_ | refine Sim.exit rfl ?_ | refine Sim.condT rfl ?_ | refine Sim.condF rfl ?_)
  refine RL.cu hu5 (Print_any (m := 7) aliveA w5 hsl) fun w6 hu6 h56 => ?_
  rw [alive_print]
  have hsl := hsl.up h56
  have ha1 := (hb1.up h56).at
  have ha2 := (hb2.up h56).at
  have e1 : aliveS = (⟨#[117, 115, 101, 114, 40, 97, 110, 110, 41, 123, 110, 97, 109, 101, 32, 99, 104, 105, 101, 102, 58, 98, 111, 115, 115, 123, 110, 97, 109, 101, 125, 125]⟩ : Str) := rfl
  have e2 : ((aliveA.picks.length : Nat) : Int) = 2 := rfl
  obtain ⟨pb, po, cs, rfl, _, hat, his, _⟩ := hsl.at (i := 1) (x := .mk ⟨#[99, 104, 105, 101, 102]⟩ ⟨#[98, 111, 115, 115]⟩ [.mk ⟨#[]⟩ ⟨#[110, 97, 109, 101]⟩ []]) rfl
  obtain ⟨kv, rfl, hkv⟩ := pckLay_succ his
  have hat : At w6 pb (po + 1 * 3) _ := hat
  repeat (first | refine RL.vv ?_ | refine RL.p ?_ | refine RL.nil ?_ | refine Sim.seq ?_ | refine Sim.region ?_ | refine Sim.block ?_ | refine Sim.skip ?_ | refine Sim.inBlock ?_ | refine Sim.exit rfl ?_ | refine Sim.condT rfl ?_ | refine Sim.condF rfl ?_)
  refine RL.cu hu6 (Called_any (.mk ⟨#[99, 104, 105, 101, 102]⟩ ⟨#[98, 111, 115, 115]⟩ [.mk ⟨#[]⟩ ⟨#[110, 97, 109, 101]⟩ []]) kv w6) fun w7 hu7 _ => ?_
  have e3 : calledM (.mk ⟨#[99, 104, 105, 101, 102]⟩ ⟨#[98, 111, 115, 115]⟩ [.mk ⟨#[]⟩ ⟨#[110, 97, 109, 101]⟩ []]) = (⟨#[99, 104, 105, 101, 102]⟩ : Str) := by decide
  rw [e3]
  have e4 : (⟨#[99, 104, 105, 101, 102]⟩ : Str) = (⟨#[99, 104, 105, 101, 102]⟩ : Str) := rfl
  repeat (first | refine RL.vv ?_ | refine RL.p ?_ | refine RL.nil ?_ | refine Sim.seq ?_ | refine Sim.region ?_ | refine Sim.block ?_ | refine Sim.skip ?_ | refine Sim.inBlock ?_ | refine Sim.exit rfl ?_ | refine Sim.condT rfl ?_ | refine Sim.condF rfl ?_)
  exact Sim.ret1 Try.func19 rfl rfl ⟨rfl, hu7⟩
end Go.Proofs.Ytgckpmcdlciibab
