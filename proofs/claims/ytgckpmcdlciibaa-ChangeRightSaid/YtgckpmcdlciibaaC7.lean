import Derived.Test.YtgckpmcdlciibaaC6
namespace Go.Proofs.Ytgckpmcdlciibaa
open Go.RowKit

set_option maxHeartbeats 400000 in
theorem RWrong1_any (x i : Int) (b : Nat) (w : World) (hb : At w b 0 [.int .i64 i]) :
    Calls Try.prog 62 #[.int .i64 x, .pointer (some ⟨b, 0, none⟩)] w fun en w' => en = .returned (.agg #[.int .i64 x, .int .i64 i]) ∧ Up w w' := by
  refine calls_of_sim Try.func62 rfl (Nat.le_of_ble_eq_true rfl) ?_
  repeat (first | refine RL.vv ?_ | refine RL.p ?_ | refine RL.nil ?_ | refine Sim.seq ?_ | refine Sim.region ?_ | refine Sim.block ?_ | refine Sim.skip ?_ | refine Sim.inBlock ?_ | refine Sim.exit rfl ?_ | refine Sim.condT rfl ?_ | refine Sim.condF rfl ?_)
  refine RL.alloc trivial rfl fun w1 hu hb1 hsz => ?_
  have hb := hb.up hu
  repeat (first | refine RL.vv ?_ | refine RL.p ?_ | refine RL.nil ?_ | refine Sim.seq ?_ | refine Sim.region ?_ | refine Sim.block ?_ | refine Sim.skip ?_ | refine Sim.inBlock ?_ | refine Sim.exit rfl ?_ | refine Sim.condT rfl ?_ | refine Sim.condF rfl ?_)
  refine RL.val trivial rfl (y_build (v := .agg #[.int .i64 x, .int .i64 i]) rfl (fun w => by kernel_rfl)) ?_
  refine RL.store trivial rfl rfl hb1 rfl rfl (by simp [Value.oneCell']) (Nat.le_of_ble_eq_true rfl) rfl fun w2 hb2 hb3 => ?_
  have hu := hu.but hb2 (Nat.le_refl _)
  repeat (first | refine RL.vv ?_ | refine RL.p ?_ | refine RL.nil ?_ | refine Sim.seq ?_ | refine Sim.region ?_ | refine Sim.block ?_ | refine Sim.skip ?_ | refine Sim.inBlock ?_ | refine Sim.exit rfl ?_ | refine Sim.condT rfl ?_ | refine Sim.condF rfl ?_)
  exact Sim.retC Try.func62 rfl rfl hb3.at rfl ⟨rfl, hu⟩

set_option maxHeartbeats 1000000 in
theorem Things1_any (t k t2 k2 : Str) (vs : Value) (b bo oo : Nat) (v2 : Value) (w : World) (hb : At w b 0 [.pointer (some ⟨bo, oo, none⟩)]) (ho : At w bo oo [.string t2, .string k2, v2]) :
    Calls Try.prog 66 #[.agg #[.string t, .string k, vs], .pointer (some ⟨b, 0, none⟩)] w fun en w' => en = .returned (.bool (decide (t = t2 ∧ k = k2))) ∧ Up w w' := by
  refine calls_of_sim Try.func66 rfl (Nat.le_of_ble_eq_true rfl) ?_
  repeat (first | refine RL.vv ?_ | refine RL.p ?_ | refine RL.nil ?_ | refine Sim.seq ?_ | refine Sim.region ?_ | refine Sim.block ?_ | refine Sim.skip ?_ | refine Sim.inBlock ?_ | refine Sim.exit rfl ?_ | refine Sim.condT rfl ?_ | refine Sim.condF rfl ?_)
  refine RL.box trivial rfl rfl fun w1 hu hb1 hsz => ?_
  have hb := hb.up hu
  have ho := ho.up hu
  repeat (first | refine RL.vv ?_ | refine RL.p ?_ | refine RL.nil ?_ | refine Sim.seq ?_ | refine Sim.region ?_ | refine Sim.block ?_ | refine Sim.skip ?_ | refine Sim.inBlock ?_ | refine Sim.exit rfl ?_ | refine Sim.condT rfl ?_ | refine Sim.condF rfl ?_)
  refine Sim.quiet (Up w1) mixed (by kernel_rfl) (Up.drew _) ?_
  by_cases h1 : t = t2
  · by_cases h2 : k = k2
    · repeat (first | refine RQ.vv ?_ | refine RQ.p ?_)
      refine RQ.nil fun w4 hq => ?_
      repeat (first | refine RL.vv ?_ | refine RL.p ?_ | refine RL.nil ?_ | refine Sim.seq ?_ | refine Sim.region ?_ | refine Sim.block ?_ | refine Sim.skip ?_ | refine Sim.inBlock ?_ | refine Sim.exit rfl ?_ | refine Sim.condT rfl ?_ | refine Sim.condF rfl ?_)
      exact Sim.ret1 Try.func66 rfl rfl ⟨by rw [decide_eq_true ⟨h1, h2⟩], hu.trans hq⟩
    · repeat (first | refine RQ.vv ?_ | refine RQ.p ?_)
      refine RQ.nil fun w4 hq => ?_
      repeat (first | refine RL.vv ?_ | refine RL.p ?_ | refine RL.nil ?_ | refine Sim.seq ?_ | refine Sim.region ?_ | refine Sim.block ?_ | refine Sim.skip ?_ | refine Sim.inBlock ?_ | refine Sim.exit rfl ?_ | refine Sim.condT rfl ?_ | refine Sim.condF rfl ?_)
      exact Sim.ret1 Try.func66 rfl rfl ⟨by rw [decide_eq_false (fun h => h2 h.2)], hu.trans hq⟩
  · repeat (first | refine RQ.vv ?_ | refine RQ.p ?_)
    refine RQ.nil fun w4 hq => ?_
    repeat (first | refine RL.vv ?_ | refine RL.p ?_ | refine RL.nil ?_ | refine Sim.seq ?_ | refine Sim.region ?_ | refine Sim.block ?_ | refine Sim.skip ?_ | refine Sim.inBlock ?_ | refine Sim.exit rfl ?_ | refine Sim.condT rfl ?_ | refine Sim.condF rfl ?_)
    exact Sim.ret1 Try.func66 rfl rfl ⟨by rw [decide_eq_false (fun h => h1 h.1)], hu.trans hq⟩

set_option maxHeartbeats 400000 in
theorem vals1_any (s : Str) (w : World) : Calls Try.prog 103 #[.string s] w fun en w' => en = .returned (.bool (!named s)) ∧ Up w w' := by
  refine calls_of_sim Try.func103 rfl (Nat.le_of_ble_eq_true rfl) ?_
  repeat (first | refine RL.vv ?_ | refine RL.p ?_ | refine RL.nil ?_ | refine Sim.seq ?_ | refine Sim.region ?_ | refine Sim.block ?_ | refine Sim.skip ?_ | refine Sim.inBlock ?_ | refine Sim.exit rfl ?_ | refine Sim.condT rfl ?_ | refine Sim.condF rfl ?_)
  refine RL.call trivial rfl (c_static rfl) (Named_any s w) ?_
  rintro _ w2 ⟨rfl, hu⟩
  refine ⟨_, rfl, ?_⟩
  repeat (first | refine RL.vv ?_ | refine RL.p ?_ | refine RL.nil ?_ | refine Sim.seq ?_ | refine Sim.region ?_ | refine Sim.block ?_ | refine Sim.skip ?_ | refine Sim.inBlock ?_ | refine Sim.exit rfl ?_ | refine Sim.condT rfl ?_ | refine Sim.condF rfl ?_)
  exact Sim.ret1 Try.func103 rfl rfl ⟨rfl, hu⟩

theorem idx_nonneg {p : Nat → Bool} {n : Nat} : 0 ≤ idx p n ↔ ∃ i, i < n ∧ p i = true := by
  unfold idx
  cases h : (List.range n).find? p with
  | some i =>
    rw [List.find?_range_eq_some] at h
    simp
    exact ⟨i, by simpa using h.2.1, h.1⟩
  | none =>
    rw [List.find?_range_eq_none] at h
    simp
    intro i hi
    simpa using h i hi
set_option maxHeartbeats 400000 in
theorem ContainsFunc_Str {g : FuncId} [Fun Try.prog g] {caps : Array Value} {sv : Value} {n : Nat} {cells : Nat → List Value} {xs : Nat → Value} {p : Nat → Bool} {w : World} (hs : Elems 1 w sv n cells) (hone : ∀ i, i < n → cells i = [xs i])
    (hp : ∀ i, i < n → ∀ w', Up w w' → Calls Try.prog g (#[xs i] ++ caps) w' fun en w'' => en = .returned (.bool (p i)) ∧ Up w' w'') :
    Calls Try.prog 102 #[sv, .func (.func g) #[] caps] w fun en w' => en = .returned (.bool (decide (0 ≤ idx p n))) ∧ Up w w' := by
  refine calls_of_sim Try.func102 rfl (Nat.le_of_ble_eq_true rfl) ?_
  repeat (first | refine RL.vv ?_ | refine RL.p ?_ | refine RL.nil ?_ | refine Sim.seq ?_ | refine Sim.region ?_ | refine Sim.block ?_ | refine Sim.skip ?_ | refine Sim.inBlock ?_ | refine Sim.exit rfl ?_ | refine Sim.condT rfl ?_ | refine Sim.condF rfl ?_)
  refine RL.call trivial rfl (c_static rfl) (IndexFunc_Str hs hone hp) ?_
  rintro _ w2 ⟨rfl, hu⟩
  refine ⟨_, rfl, ?_⟩
  repeat (first | refine RL.vv ?_ | refine RL.p ?_ | refine RL.nil ?_ | refine Sim.seq ?_ | refine Sim.region ?_ | refine Sim.block ?_ | refine Sim.skip ?_ | refine Sim.inBlock ?_ | refine Sim.exit rfl ?_ | refine Sim.condT rfl ?_ | refine Sim.condF rfl ?_)
  exact Sim.ret1 Try.func102 rfl rfl ⟨rfl, hu⟩
set_option maxHeartbeats 400000 in
theorem ContainsFunc_Thing {g : FuncId} [Fun Try.prog g] {caps : Array Value} {sv : Value} {n : Nat} {cells : Nat → List Value} {p : Nat → Bool} {w : World} (hs : Elems 3 w sv n cells)
    (hp : ∀ i, i < n → ∀ w', Up w w' → Calls Try.prog g (#[.agg (cells i).toArray] ++ caps) w' fun en w'' => en = .returned (.bool (p i)) ∧ Up w' w'') :
    Calls Try.prog 65 #[sv, .func (.func g) #[] caps] w fun en w' => en = .returned (.bool (decide (0 ≤ idx p n))) ∧ Up w w' := by
  refine calls_of_sim Try.func65 rfl (Nat.le_of_ble_eq_true rfl) ?_
  repeat (first | refine RL.vv ?_ | refine RL.p ?_ | refine RL.nil ?_ | refine Sim.seq ?_ | refine Sim.region ?_ | refine Sim.block ?_ | refine Sim.skip ?_ | refine Sim.inBlock ?_ | refine Sim.exit rfl ?_ | refine Sim.condT rfl ?_ | refine Sim.condF rfl ?_)
  refine RL.call trivial rfl (c_static rfl) (IndexFunc_Thing hs hp) ?_
  rintro _ w2 ⟨rfl, hu⟩
  refine ⟨_, rfl, ?_⟩
  repeat (first | refine RL.vv ?_ | refine RL.p ?_ | refine RL.nil ?_ | refine Sim.seq ?_ | refine Sim.region ?_ | refine Sim.block ?_ | refine Sim.skip ?_ | refine Sim.inBlock ?_ | refine Sim.exit rfl ?_ | refine Sim.condT rfl ?_ | refine Sim.condF rfl ?_)
  exact Sim.ret1 Try.func65 rfl rfl ⟨rfl, hu⟩
set_option maxHeartbeats 400000 in
theorem ContainsFunc_Pick {g : FuncId} [Fun Try.prog g] {caps : Array Value} {sv : Value} {n : Nat} {cells : Nat → List Value} {p : Nat → Bool} {w : World} (hs : Elems 3 w sv n cells)
    (hp : ∀ i, i < n → ∀ w', Up w w' → Calls Try.prog g (#[.agg (cells i).toArray] ++ caps) w' fun en w'' => en = .returned (.bool (p i)) ∧ Up w' w'') :
    Calls Try.prog 99 #[sv, .func (.func g) #[] caps] w fun en w' => en = .returned (.bool (decide (0 ≤ idx p n))) ∧ Up w w' := by
  refine calls_of_sim Try.func99 rfl (Nat.le_of_ble_eq_true rfl) ?_
  repeat (first | refine RL.vv ?_ | refine RL.p ?_ | refine RL.nil ?_ | refine Sim.seq ?_ | refine Sim.region ?_ | refine Sim.block ?_ | refine Sim.skip ?_ | refine Sim.inBlock ?_ | refine Sim.exit rfl ?_ | refine Sim.condT rfl ?_ | refine Sim.condF rfl ?_)
  refine RL.call trivial rfl (c_static rfl) (IndexFunc_Pick hs hp) ?_
  rintro _ w2 ⟨rfl, hu⟩
  refine ⟨_, rfl, ?_⟩
  repeat (first | refine RL.vv ?_ | refine RL.p ?_ | refine RL.nil ?_ | refine Sim.seq ?_ | refine Sim.region ?_ | refine Sim.block ?_ | refine Sim.skip ?_ | refine Sim.inBlock ?_ | refine Sim.exit rfl ?_ | refine Sim.condT rfl ?_ | refine Sim.condF rfl ?_)
  exact Sim.ret1 Try.func99 rfl rfl ⟨rfl, hu⟩

set_option maxHeartbeats 1000000 in
theorem RThing_any {S : Nat → Prop} {v : Value} {l : List Thg} (t k : Str) (w : World) (hl : SliceOf thgLay S w v l) :
    Calls Try.prog 53 #[v, .string t, .string k] w fun en w' => en = .returned (ptrAt v 3 (thingAt l t k)) ∧ w' = w := by
  refine calls_of_sim Try.func53 rfl (Nat.le_of_ble_eq_true rfl) ?_
  obtain ⟨a, c, rfl, hnc, hcm, hel⟩ := id hl
  unfold maxLen at hcm
  repeat (first | refine RL.vv ?_ | refine RL.p ?_ | refine RL.nil ?_ | refine Sim.seq ?_ | refine Sim.region ?_ | refine Sim.block ?_ | refine Sim.skip ?_ | refine Sim.inBlock ?_ | refine Sim.exit rfl ?_ | refine Sim.condT rfl ?_ | refine Sim.condF rfl ?_)
  refine Sim.loop (σ := Nat) (fun i => [(0, .slice a l.length c), (1, .string t), (2, .string k), (8, .slice a l.length c), (9, .int .i64 (l.length : Int)), (10, .int .i64 (i : Int))]) (fun i w' => i ≤ l.length ∧ w' = w ∧ ∀ (j : Nat) x, j < i → l[j]? = some x → decide (x.type = t ∧ x.key = k) = false) (fun i => l.length - i) 0 sb ⟨Nat.zero_le _, rfl, fun j x hj => absurd hj (Nat.not_lt_zero _)⟩ ?_
  rintro i w1 ⟨hi, rfl, hno⟩ next
  by_cases hlt : i < l.length
  · have hx : l[i]? = some l[i] := List.getElem?_eq_getElem hlt
    obtain ⟨b, o, cs, rfl, _, hat, ⟨fv, rfl, _⟩, _⟩ := hl.at hx
    have hat : At w1 b (o + i * 3) _ := hat
    have good : ¬ (l[i].type = t ∧ l[i].key = k) → ∀ (j : Nat) x, j < i + 1 → l[j]? = some x → decide (x.type = t ∧ x.key = k) = false := fun hn j x hj hxj => by
      by_cases hji : j = i
      · subst hji; rw [hx] at hxj; cases hxj; exact decide_eq_false hn
      · exact hno j x (by omega) hxj
    by_cases hn : l[i].type = t
    · by_cases hk : l[i].key = k
      · repeat (first | refine RL.vv ?_ | refine RL.p ?_ | refine RL.nil ?_ | refine Sim.seq ?_ | refine Sim.region ?_ | refine Sim.block ?_ | refine Sim.skip ?_ | refine Sim.inBlock ?_ | refine Sim.exit rfl ?_ | refine Sim.condT rfl ?_ | refine Sim.condF rfl ?_)
        exact Sim.ret1 Try.func53 rfl rfl ⟨by rw [thingAt, firstIdx_hit hx (decide_eq_true ⟨hn, hk⟩) hno, ptrAt_nat], rfl⟩
      · clear hno
        repeat (first | refine RL.vv ?_ | refine RL.p ?_ | refine RL.nil ?_ | refine Sim.seq ?_ | refine Sim.region ?_ | refine Sim.block ?_ | refine Sim.skip ?_ | refine Sim.inBlock ?_ | refine Sim.exit rfl ?_ | refine Sim.condT rfl ?_ | refine Sim.condF rfl ?_)
        exact next (i + 1) w1 _ ⟨by omega, rfl, good (fun h => hk h.2)⟩ (by omega) sb
    · clear hno
      repeat (first | refine RL.vv ?_ | refine RL.p ?_ | refine RL.nil ?_ | refine Sim.seq ?_ | refine Sim.region ?_ | refine Sim.block ?_ | refine Sim.skip ?_ | refine Sim.inBlock ?_ | refine Sim.exit rfl ?_ | refine Sim.condT rfl ?_ | refine Sim.condF rfl ?_)
      exact next (i + 1) w1 _ ⟨by omega, rfl, good (fun h => hn h.1)⟩ (by omega) sb
  · repeat (first | refine RL.vv ?_ | refine RL.p ?_ | refine RL.nil ?_ | refine Sim.seq ?_ | refine Sim.region ?_ | refine Sim.block ?_ | refine Sim.skip ?_ | refine Sim.inBlock ?_ | refine Sim.exit rfl ?_ | refine Sim.condT rfl ?_ | refine Sim.condF rfl ?_)
    exact Sim.ret1 Try.func53 rfl rfl ⟨by rw [thingAt, firstIdx_miss (fun j x hxj => hno j x (by have := (List.getElem?_eq_some_iff.1 hxj).1; omega) hxj), ptrAt_neg], rfl⟩
end Go.Proofs.Ytgckpmcdlciibaa
