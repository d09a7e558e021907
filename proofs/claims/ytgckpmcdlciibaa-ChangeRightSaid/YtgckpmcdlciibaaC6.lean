import Derived.Test.YtgckpmcdlciibaaC5
namespace Go.Proofs.Ytgckpmcdlciibaa
open Go.RowKit

def fltV (f : Flt) : Value := .agg #[.int .i64 f.err, .int .i64 f.at_]
theorem goodTo {α : Type} {g : Nat → α → Int} {l : List α} {i : Nat} {x : α} (hx : l[i]? = some x) (hno : ∀ (j : Nat) y, j < i → l[j]? = some y → g j y = 0) (h0 : g i x = 0) : ∀ (j : Nat) y, j < i + 1 → l[j]? = some y → g j y = 0 := fun j y hj hy => by
  by_cases hji : j = i
  · subst hji; rw [hx] at hy; cases hy; exact h0
  · exact hno j y (by omega) hy
theorem goodAll {α : Type} {g : Nat → α → Int} {l : List α} {i : Nat} (hno : ∀ (j : Nat) y, j < i → l[j]? = some y → g j y = 0) (hi : ¬ i < l.length) : ∀ (j : Nat) y, l[j]? = some y → g j y = 0 := fun j y hy =>
  hno j y (by have := (List.getElem?_eq_some_iff.1 hy).1; omega) hy

set_option maxHeartbeats 1000000 in
theorem Wrong_any {S : Nat → Prop} {v : Value} {l : List Typ} (w : World) (hl : SliceOf typLay S w v l) :
    Calls Try.prog 27 #[v] w fun en w' => en = .returned (fltV (wrongT l)) ∧ Up w w' := by
  refine calls_of_sim Try.func27 rfl (Nat.le_of_ble_eq_true rfl) ?_
  obtain ⟨a, c, rfl, hnc, hcm, hel⟩ := id hl
  unfold maxLen at hcm
  repeat (first | refine RL.vv ?_ | refine RL.p ?_ | refine RL.nil ?_ | refine Sim.seq ?_ | refine Sim.region ?_ | refine Sim.block ?_ | refine Sim.skip ?_ | refine Sim.inBlock ?_ | refine Sim.exit rfl ?_ | refine Sim.condT rfl ?_ | refine Sim.condF rfl ?_)
  refine RL.alloc trivial rfl fun w1 hu hb hsz => ?_
  have hlt0 : w.heap.size < w1.heap.size := by omega
  by_cases hbig : (8 : Int) < l.length
  · repeat (first | refine RL.vv ?_ | refine RL.p ?_ | refine RL.nil ?_ | refine Sim.seq ?_ | refine Sim.region ?_ | refine Sim.block ?_ | refine Sim.skip ?_ | refine Sim.inBlock ?_ | refine Sim.exit rfl ?_ | refine Sim.condT rfl ?_ | refine Sim.condF rfl ?_)
    refine RL.val trivial rfl (y_build (v := .agg #[.int .i64 4, .int .i64 0]) rfl (fun w => by kernel_rfl)) ?_
    refine RL.store trivial rfl rfl hb rfl rfl (by simp [Value.oneCell']) (Nat.le_of_ble_eq_true rfl) rfl fun w2 hb2 hb3 => ?_
    have hu := hu.but hb2 (Nat.le_refl _)
    repeat (first | refine RL.vv ?_ | refine RL.p ?_ | refine RL.nil ?_ | refine Sim.seq ?_ | refine Sim.region ?_ | refine Sim.block ?_ | refine Sim.skip ?_ | refine Sim.inBlock ?_ | refine Sim.exit rfl ?_ | refine Sim.condT rfl ?_ | refine Sim.condF rfl ?_)
    exact Sim.retC Try.func27 rfl rfl hb3.at rfl ⟨by rw [wrongT, if_pos (by omega)]; rfl, hu⟩
  have hw : wrongT l = _ := if_neg (by omega)
  repeat (first | refine RL.vv ?_ | refine RL.p ?_ | refine RL.nil ?_ | refine Sim.seq ?_ | refine Sim.region ?_ | refine Sim.block ?_ | refine Sim.skip ?_ | refine Sim.inBlock ?_ | refine Sim.exit rfl ?_ | refine Sim.condT rfl ?_ | refine Sim.condF rfl ?_)
  refine Sim.loop (σ := Nat) (fun i => [(0, .slice a l.length c), (2, .pointer (some ⟨w.heap.size, 0, none⟩)), (11, .int .i64 (l.length : Int)), (12, .int .i64 (i : Int))]) (fun i w' => i ≤ l.length ∧ Up w w' ∧ Box w' w.heap.size 51 [.int .i64 0, .int .i64 0] ∧ ∀ (j : Nat) x, j < i → l[j]? = some x → nameErr l j x = 0) (fun i => l.length - i) 0 sb ⟨Nat.zero_le _, hu, hb, fun j x hj => absurd hj (Nat.not_lt_zero _)⟩ ?_
  clear hu hb hlt0 hsz w1
  rintro i w1 ⟨hi, hu, hb, hno⟩ next
  by_cases hlt : i < l.length
  · have hx : l[i]? = some l[i] := List.getElem?_eq_getElem hlt
    obtain ⟨b, o, cs, rfl, _, hat, ⟨fv, rfl, _⟩, _⟩ := hl.at hx
    have hat : At w b (o + i * 2) _ := hat
    have htk := (hl.take (i := i) (by omega))
    have bad : nameErr l i l[i] = 6 → wrongT l = ⟨6, i⟩ := fun h => by rw [hw, firstBad_hit hx hno (by rw [h]; decide), h]
    have good := goodTo (g := nameErr l) hx hno
    unfold nameErr at bad good
    generalize l[i] = t at *
    clear hno
    repeat (first | refine RL.vv ?_ | refine RL.p ?_ | refine RL.nil ?_ | refine Sim.seq ?_ | refine Sim.region ?_ | refine Sim.block ?_ | refine Sim.skip ?_ | refine Sim.inBlock ?_ | refine Sim.exit rfl ?_ | refine Sim.condT rfl ?_ | refine Sim.condF rfl ?_)
    refine Sim.quiet (Up w1) mixed (by kernel_rfl) (Up.drew _) ?_
    repeat (first | refine RQ.vv ?_ | refine RQ.p ?_)
    rcases Bool.eq_false_or_eq_true (named t.name) with hn | hn
    · refine RQ.call trivial rfl (fun wq hq => c_static rfl) (fun wq hq => q_call (c_val (Named_any t.name wq) (by rw [hn])) hq) ?_
      repeat (first | refine RQ.vv ?_ | refine RQ.p ?_)
      refine RQ.call ⟨_, _, rfl, rfl, rfl⟩ rfl (fun wq hq => c_static rfl) (fun wq hq => q_call (Find_any t.name wq (htk.up (hu.trans hq))) hq) ?_
      by_cases hF : 0 ≤ findT (l.take i) t.name
      · repeat (first | refine RQ.vv ?_ | refine RQ.p ?_)
        refine RQ.nil fun w4 hq => ?_
        have hu := hu.trans hq
        have hb := hb.up hq
        repeat (first | refine RL.vv ?_ | refine RL.p ?_ | refine RL.nil ?_ | refine Sim.seq ?_ | refine Sim.region ?_ | refine Sim.block ?_ | refine Sim.skip ?_ | refine Sim.inBlock ?_ | refine Sim.exit rfl ?_ | refine Sim.condT rfl ?_ | refine Sim.condF rfl ?_)
        refine RL.val trivial rfl (y_build (v := .agg #[.int .i64 6, .int .i64 (i : Int)]) rfl (fun w => by kernel_rfl)) ?_
        refine RL.store trivial rfl rfl hb rfl rfl (by simp [Value.oneCell']) (Nat.le_of_ble_eq_true rfl) rfl fun w2 hb2 hb3 => ?_
        have hu := hu.but hb2 (Nat.le_refl _)
        repeat (first | refine RL.vv ?_ | refine RL.p ?_ | refine RL.nil ?_ | refine Sim.seq ?_ | refine Sim.region ?_ | refine Sim.block ?_ | refine Sim.skip ?_ | refine Sim.inBlock ?_ | refine Sim.exit rfl ?_ | refine Sim.condT rfl ?_ | refine Sim.condF rfl ?_)
        exact Sim.retC Try.func27 rfl rfl hb3.at rfl ⟨by rw [bad (if_neg (fun h => h.2 hF))]; rfl, hu⟩
      repeat (first | refine RQ.vv ?_ | refine RQ.p ?_)
      refine RQ.nil fun w4 hq => ?_
      repeat (first | refine RL.vv ?_ | refine RL.p ?_ | refine RL.nil ?_ | refine Sim.seq ?_ | refine Sim.region ?_ | refine Sim.block ?_ | refine Sim.skip ?_ | refine Sim.inBlock ?_ | refine Sim.exit rfl ?_ | refine Sim.condT rfl ?_ | refine Sim.condF rfl ?_)
      exact next (i + 1) _ _ ⟨by omega, hu.trans hq, hb.up hq, good (if_pos ⟨hn, hF⟩)⟩ (by omega) sb
    · refine RQ.call trivial rfl (fun wq hq => c_static rfl) (fun wq hq => q_call (c_val (Named_any t.name wq) (by rw [hn])) hq) ?_
      repeat (first | refine RQ.vv ?_ | refine RQ.p ?_)
      refine RQ.nil fun w4 hq => ?_
      have hu := hu.trans hq
      have hb := hb.up hq
      repeat (first | refine RL.vv ?_ | refine RL.p ?_ | refine RL.nil ?_ | refine Sim.seq ?_ | refine Sim.region ?_ | refine Sim.block ?_ | refine Sim.skip ?_ | refine Sim.inBlock ?_ | refine Sim.exit rfl ?_ | refine Sim.condT rfl ?_ | refine Sim.condF rfl ?_)
      refine RL.val trivial rfl (y_build (v := .agg #[.int .i64 6, .int .i64 (i : Int)]) rfl (fun w => by kernel_rfl)) ?_
      refine RL.store trivial rfl rfl hb rfl rfl (by simp [Value.oneCell']) (Nat.le_of_ble_eq_true rfl) rfl fun w2 hb2 hb3 => ?_
      have hu := hu.but hb2 (Nat.le_refl _)
      repeat (first | refine RL.vv ?_ | refine RL.p ?_ | refine RL.nil ?_ | refine Sim.seq ?_ | refine Sim.region ?_ | refine Sim.block ?_ | refine Sim.skip ?_ | refine Sim.inBlock ?_ | refine Sim.exit rfl ?_ | refine Sim.condT rfl ?_ | refine Sim.condF rfl ?_)
      exact Sim.retC Try.func27 rfl rfl hb3.at rfl ⟨by rw [bad (if_neg (fun h => by rw [hn] at h; cases h.1))]; rfl, hu⟩
  clear next
  rw [firstBad_none (goodAll hno hlt)] at hw
  clear hno hi
  simp only at hw
  repeat (first | refine RL.vv ?_ | refine RL.p ?_ | refine RL.nil ?_ | refine Sim.seq ?_ | refine Sim.region ?_ | refine Sim.block ?_ | refine Sim.skip ?_ | refine Sim.inBlock ?_ | refine Sim.exit rfl ?_ | refine Sim.condT rfl ?_ | refine Sim.condF rfl ?_)
  clear hlt
  refine Sim.loop (σ := Nat) (fun i => [(0, .slice a l.length c), (2, .pointer (some ⟨w.heap.size, 0, none⟩)), (38, .int .i64 (l.length : Int)), (39, .int .i64 (i : Int))]) (fun i w' => i ≤ l.length ∧ Up w w' ∧ Box w' w.heap.size 51 [.int .i64 0, .int .i64 0] ∧ ∀ (j : Nat) x, j < i → l[j]? = some x → (fun _ t => fieldsErr l t) j x = 0) (fun i => l.length - i) 0 sb ⟨Nat.zero_le _, hu, hb, fun j x hj => absurd hj (Nat.not_lt_zero _)⟩ ?_
  clear hu hb w1
  rintro i w1 ⟨hi, hu, hb, hno⟩ next
  by_cases hlt : i < l.length
  · have hx : l[i]? = some l[i] := List.getElem?_eq_getElem hlt
    obtain ⟨b, o, cs, rfl, _, hat, ⟨fv, rfl, hfv⟩, _⟩ := hl.at hx
    have hat : At w b (o + i * 2) _ := hat
    have bad : fieldsErr l l[i] ≠ 0 → wrongT l = ⟨fieldsErr l l[i], i⟩ := fun h => by rw [hw, firstBad_hit hx hno h]
    have good := goodTo (g := fun _ t => fieldsErr l t) hx hno
    generalize l[i] = t at *
    clear hno
    repeat (first | refine RL.vv ?_ | refine RL.p ?_ | refine RL.nil ?_ | refine Sim.seq ?_ | refine Sim.region ?_ | refine Sim.block ?_ | refine Sim.skip ?_ | refine Sim.inBlock ?_ | refine Sim.exit rfl ?_ | refine Sim.condT rfl ?_ | refine Sim.condF rfl ?_)
    refine RL.call trivial rfl (c_static rfl) (fields_any w1 (hl.up hu) (hat.up hu) (hfv.up hu)) ?_
    rintro _ w2 ⟨rfl, hu2⟩
    refine ⟨_, rfl, ?_⟩
    have hu := hu.trans hu2
    have hb := hb.up hu2
    by_cases h0 : fieldsErr l t = 0
    · repeat (first | refine RL.vv ?_ | refine RL.p ?_ | refine RL.nil ?_ | refine Sim.seq ?_ | refine Sim.region ?_ | refine Sim.block ?_ | refine Sim.skip ?_ | refine Sim.inBlock ?_ | refine Sim.exit rfl ?_ | refine Sim.condT rfl ?_ | refine Sim.condF rfl ?_)
      exact next (i + 1) _ _ ⟨by omega, hu, hb, good h0⟩ (by omega) sb
    · repeat (first | refine RL.vv ?_ | refine RL.p ?_ | refine RL.nil ?_ | refine Sim.seq ?_ | refine Sim.region ?_ | refine Sim.block ?_ | refine Sim.skip ?_ | refine Sim.inBlock ?_ | refine Sim.exit rfl ?_ | refine Sim.condT rfl ?_ | refine Sim.condF rfl ?_)
      refine RL.val trivial rfl (y_build (v := .agg #[.int .i64 (fieldsErr l t), .int .i64 (i : Int)]) rfl (fun w => by kernel_rfl)) ?_
      refine RL.store trivial rfl rfl hb rfl rfl (by simp [Value.oneCell']) (Nat.le_of_ble_eq_true rfl) rfl fun w2 hb2 hb3 => ?_
      have hu := hu.but hb2 (Nat.le_refl _)
      repeat (first | refine RL.vv ?_ | refine RL.p ?_ | refine RL.nil ?_ | refine Sim.seq ?_ | refine Sim.region ?_ | refine Sim.block ?_ | refine Sim.skip ?_ | refine Sim.inBlock ?_ | refine Sim.exit rfl ?_ | refine Sim.condT rfl ?_ | refine Sim.condF rfl ?_)
      exact Sim.retC Try.func27 rfl rfl hb3.at rfl ⟨by rw [bad h0]; rfl, hu⟩
  clear next
  rw [firstBad_none (goodAll hno hlt)] at hw
  repeat (first | refine RL.vv ?_ | refine RL.p ?_ | refine RL.nil ?_ | refine Sim.seq ?_ | refine Sim.region ?_ | refine Sim.block ?_ | refine Sim.skip ?_ | refine Sim.inBlock ?_ | refine Sim.exit rfl ?_ | refine Sim.condT rfl ?_ | refine Sim.condF rfl ?_)
  refine RL.val trivial rfl (y_build (v := .agg #[.int .i64 0, .int .i64 0]) rfl (fun w => by kernel_rfl)) ?_
  refine RL.store trivial rfl rfl hb rfl rfl (by simp [Value.oneCell']) (Nat.le_of_ble_eq_true rfl) rfl fun w2 hb2 hb3 => ?_
  have hu := hu.but hb2 (Nat.le_refl _)
  repeat (first | refine RL.vv ?_ | refine RL.p ?_ | refine RL.nil ?_ | refine Sim.seq ?_ | refine Sim.region ?_ | refine Sim.block ?_ | refine Sim.skip ?_ | refine Sim.inBlock ?_ | refine Sim.exit rfl ?_ | refine Sim.condT rfl ?_ | refine Sim.condF rfl ?_)
  exact Sim.retC Try.func27 rfl rfl hb3.at rfl ⟨by rw [hw]; rfl, hu⟩
end Go.Proofs.Ytgckpmcdlciibaa
