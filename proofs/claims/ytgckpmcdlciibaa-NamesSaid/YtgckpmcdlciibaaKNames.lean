/- stitchtop.Names answers true: each constant of package api has its value. Its conditions: none beyond those that the given row states. -/
import Derived.Test.YtgckpmcdlciibaaRow
import Derived.Test.YtgckpmcdlciibaaEng6
namespace Go.Proofs.Ytgckpmcdlciibaa
open Go.ChangeShapes Go.WideShapes Go.ChangeAt Go.RowKit

def names1 : List Int := [0, 1, 2, 3, 4, 5, 6, 7]
def names2 : List Int := [1, 2, 3, 8, 10, 12, 5, 60, 20, 40, 1, 2, 3, 1000, 8, 60, 12]
theorem names1_at : ∀ i : Nat, i < 8 → names1[i]? = some (i : Int) := by decide
theorem names_cell {w : World} {b : Nat} {xs : List Int} (h : At w b 0 (xs.map (Value.int .i64))) {i : Nat} {x : Int} (hx : xs[i]? = some x) : w.cell? ⟨b, 0 + i * 1, none⟩ = some (.int .i64 x) := by
  rw [Nat.mul_one]
  exact h i _ (by simp [hx])

set_option maxHeartbeats 2000000 in
theorem Names_walk (w : World) : Calls Try.prog 11 #[] w fun en w' => en = .returned (.bool true) ∧ Up w w' := by
  refine calls_of_sim Try.func11 rfl (Nat.le_of_ble_eq_true rfl) ?_
  repeat (first | refine RL.vv ?_ | refine RL.p ?_ | refine RL.nil ?_ | refine Sim.seq ?_ | refine Sim.region ?_ | refine Sim.block ?_ | refine Sim.skip ?_ | refine Sim.inBlock ?_ | refine Sim.exit rfl ?_ | refine Sim.condT rfl ?_ | refine Sim.condF rfl ?_)
  refine RL.build (el := 30) (names1.map (Value.int .i64)) trivial rfl rfl (fun w => by kernel_rfl) fun w1 hu hb hs => ?_
  repeat (first | refine RL.vv ?_ | refine RL.p ?_ | refine RL.nil ?_ | refine Sim.seq ?_ | refine Sim.region ?_ | refine Sim.block ?_ | refine Sim.skip ?_ | refine Sim.inBlock ?_ | refine Sim.exit rfl ?_ | refine Sim.condT rfl ?_ | refine Sim.condF rfl ?_)
  refine Sim.loop (σ := Nat) (fun i => [(8, .slice (some ⟨w.heap.size, 0, none⟩) 8 8), (9, .int .i64 8), (10, .int .i64 (i : Int))]) (fun i w' => i ≤ 8 ∧ Up w w' ∧ Box w' w.heap.size 30 (names1.map (Value.int .i64))) (fun i => 8 - i) 0 sb ⟨by omega, hu, hb⟩ ?_
  clear hu hb hs w1
  rintro i w1 ⟨hi, hu, hb⟩ next
  by_cases hlt : (i : Int) < 8
  · have hc := names_cell hb.at (names1_at i (by omega))
    repeat (first | refine RL.vv ?_ | refine RL.p ?_ | refine RL.nil ?_ | refine Sim.seq ?_ | refine Sim.region ?_ | refine Sim.block ?_ | refine Sim.skip ?_ | refine Sim.inBlock ?_ | refine Sim.exit rfl ?_ | refine Sim.condT rfl ?_ | refine Sim.condF rfl ?_)
    exact next (i + 1) _ _ ⟨by omega, hu, hb⟩ (by omega) sb
  repeat (first | refine RL.vv ?_ | refine RL.p ?_ | refine RL.nil ?_ | refine Sim.seq ?_ | refine Sim.region ?_ | refine Sim.block ?_ | refine Sim.skip ?_ | refine Sim.inBlock ?_ | refine Sim.exit rfl ?_ | refine Sim.condT rfl ?_ | refine Sim.condF rfl ?_)
  clear next hlt hi hb
  refine RL.build (el := 3) (names2.map (Value.int .i64)) trivial rfl rfl (fun w => by kernel_rfl) fun w2 hu2 hb2 hs2 => ?_
  repeat (first | refine RL.vv ?_ | refine RL.p ?_ | refine RL.nil ?_ | refine Sim.seq ?_ | refine Sim.region ?_ | refine Sim.block ?_ | refine Sim.skip ?_ | refine Sim.inBlock ?_ | refine Sim.exit rfl ?_ | refine Sim.condT rfl ?_ | refine Sim.condF rfl ?_)
  refine RL.build (el := 3) (names2.map (Value.int .i64)) trivial rfl rfl (fun w => by kernel_rfl) fun w3 hu3 hb3 hs3 => ?_
  repeat (first | refine RL.vv ?_ | refine RL.p ?_ | refine RL.nil ?_ | refine Sim.seq ?_ | refine Sim.region ?_ | refine Sim.block ?_ | refine Sim.skip ?_ | refine Sim.inBlock ?_ | refine Sim.exit rfl ?_ | refine Sim.condT rfl ?_ | refine Sim.condF rfl ?_)
  have hu := (hu.trans hu2).trans hu3
  have hb2 := hb2.up hu3
  clear hu2 hu3 hs2 hs3
  generalize w1.heap.size = p1 at *
  generalize w2.heap.size = p2 at *
  refine Sim.loop (σ := Nat) (fun i => [(4, .slice (some ⟨p1, 0, none⟩) 17 17), (5, .slice (some ⟨p2, 0, none⟩) 17 17), (22, .int .i64 17), (23, .int .i64 (i : Int))]) (fun i w' => i ≤ 17 ∧ Up w w' ∧ Box w' p1 3 (names2.map (Value.int .i64)) ∧ Box w' p2 3 (names2.map (Value.int .i64))) (fun i => 17 - i) 0 sb ⟨by omega, hu, hb2, hb3⟩ ?_
  clear hu hb2 hb3
  rintro i w4 ⟨hi, hu, hb2, hb3⟩ next
  by_cases hlt : (i : Int) < 17
  · have hx : names2[i]? = some (names2[i]'(by simp [names2]; omega)) := List.getElem?_eq_getElem _
    generalize names2[i]'(by simp [names2]; omega) = x at hx
    have hc2 : ∀ wq, Up w4 wq → wq.cell? ⟨p1, 0 + i * 1, none⟩ = some (.int .i64 x) := fun wq hq => names_cell (hb2.up hq).at hx
    have hc3 : ∀ wq, Up w4 wq → wq.cell? ⟨p2, 0 + i * 1, none⟩ = some (.int .i64 x) := fun wq hq => names_cell (hb3.up hq).at hx
    repeat (first | refine RL.vv ?_ | refine RL.p ?_ | refine RL.nil ?_ | refine Sim.seq ?_ | refine Sim.region ?_ | refine Sim.block ?_ | refine Sim.skip ?_ | refine Sim.inBlock ?_ | refine Sim.exit rfl ?_ | refine Sim.condT rfl ?_ | refine Sim.condF rfl ?_)
    refine Sim.quiet (Up w4) mixed (by kernel_rfl) (Up.drew _) ?_
    repeat (first | refine RQ.vv ?_ | refine RQ.p ?_)
    refine RQ.val trivial rfl (fun wq hq => y_load1 rfl (hc2 wq hq)) ?_
    repeat (first | refine RQ.vv ?_ | refine RQ.p ?_)
    refine RQ.val trivial rfl (fun wq hq => y_load1 rfl (hc3 wq hq)) ?_
    repeat (first | refine RQ.vv ?_ | refine RQ.p ?_)
    refine RQ.nil fun w5 hq => ?_
    repeat (first | refine RL.vv ?_ | refine RL.p ?_ | refine RL.nil ?_ | refine Sim.seq ?_ | refine Sim.region ?_ | refine Sim.block ?_ | refine Sim.skip ?_ | refine Sim.inBlock ?_ | refine Sim.exit rfl ?_ | refine Sim.condT rfl ?_ | refine Sim.condF rfl ?_)
    exact next (i + 1) _ _ ⟨by omega, hu.trans hq, hb2.up hq, hb3.up hq⟩ (by omega) sb
  repeat (first | refine RL.vv ?_ | refine RL.p ?_ | refine RL.nil ?_ | refine Sim.seq ?_ | refine Sim.region ?_ | refine Sim.block ?_ | refine Sim.skip ?_ | refine Sim.inBlock ?_ | refine Sim.exit rfl ?_ | refine Sim.condT rfl ?_ | refine Sim.condF rfl ?_)
  exact Sim.ret1 Try.func11 rfl rfl ⟨rfl, hu⟩

set_option maxRecDepth 100000 in
theorem names_lifted (os : Os) (started : os.Started) (H : Type) (enc : TypeId × Value → H) :
    ReturnsInHanded {} Try.checked os 11 .any (Rows.namesSpec.pre6 enc Try.prog Try.f11 Rows.namesRow.domain false) (Rows.namesSpec.post enc Try.prog Try.f11 false true false false) := by
  refine returnsInHanded_of_change (C := Try.checked) own started (by kernel_rfl) Try.func11
    (ChangeSpec.witness6 (enc := enc) (C := Try.checked) false ⟨#[], #[], []⟩ 8 (by kernel_rfl) (by kernel_rfl) (by kernel_rfl) (by kernel_rfl)) ?_
  intro W base args ds gs before hval0 hW hcnd _
  have hW' := hW
  obtain ⟨p, q, hA0, hV, rfl, hfz, hnd⟩ := hW
  have hA : DataW.TrodAll enc Try.prog W 0 (fun _ => true) true Try.f11.params.toList args.toList ds p := hA0
  rw [Try.params11] at hA
  obtain ⟨rfl, rfl, rfl⟩ := trodAll_none hA
  refine (Names_walk W).mono fun e W' ⟨he, hu⟩ => ?_
  subst he
  exact ⟨_, rfl, law_post hW' rfl rfl (fun gs hg => by subst hg; rfl) (by kernel_rfl) hu⟩
theorem names_holds : Rows.NamesSaid :=
  OpenClaim.holds_of_wide 11 Try.f11 rfl rfl rfl rfl rfl rfl rfl ⟨rfl, rfl, rfl, rfl, rfl⟩ rfl rfl rfl rfl rfl (by kernel_rfl) Try.func11 (by kernel_rfl)
    (of_decide_eq_true (by kernel_rfl)) (by unfold Func.isWrapper; first | (rw [if_pos (by decide +kernel)]; kernel_rfl) | (rw [if_neg (by decide +kernel)]; exact ⟨rfl, rfl⟩))
    (fun os started H enc _ => names_lifted os started H enc)
end Go.Proofs.Ytgckpmcdlciibaa
