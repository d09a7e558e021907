/- Several texts in one:  -/
import Derived.Test.YtgckpmcdlciibabZB
import Derived.Test.YtgckpmcdlciibabZP
namespace Go.Proofs.Ytgckpmcdlciibab
open Go.RowKit

set_option maxHeartbeats 400000 in
theorem IndexFunc_Type {g : FuncId} [Fun Try.prog g] {caps : Array Value} {sv : Value} {n : Nat} {cells : Nat → List Value} {p : Nat → Bool} {w : World} (hs : Elems 2 w sv n cells)
    (hp : ∀ i, i < n → ∀ w', Up w w' → Calls Try.prog g (#[.agg (cells i).toArray] ++ caps) w' fun en w'' => en = .returned (.bool (p i)) ∧ Up w' w'') :
    Calls Try.prog 125 #[sv, .func (.func g) #[] caps] w fun en w' => en = .returned (.int .i64 (idx p n)) ∧ Up w w' := by
  obtain ⟨a, c, rfl, hnc, hcm, hel⟩ := hs
  unfold maxLen at hcm
  refine calls_of_sim Try.func125 rfl (Nat.le_of_ble_eq_true rfl) ?_
  repeat (first | refine RL.vv ?_ | refine RL.p ?_ | refine RL.nil ?_ | refine Sim.seq ?_ | refine Sim.region ?_ | refine Sim.block ?_ | refine Sim.skip ?_ | refine Sim.inBlock ?_ | refine Sim.exit rfl ?_ | refine Sim.condT rfl ?_ | refine Sim.condF rfl ?_)
  refine Sim.loop (σ := Nat) (fun i => [(0, .slice a n c), (1, .func (.func g) #[] caps), (6, .slice a n c), (7, .int .i64 (n : Int)), (8, .int .i64 (i : Int))]) (fun i w' => i ≤ n ∧ Up w w' ∧ ∀ j, j < i → p j = false) (fun i => n - i) 0 sb ⟨Nat.zero_le _, Up.refl _, fun j hj => absurd hj (Nat.not_lt_zero _)⟩ ?_
  rintro i w1 ⟨hi, hu, hno⟩ next
  by_cases hlt : i < n
  · obtain ⟨b, o, rfl, hc⟩ := hel (by omega)
    obtain ⟨hk, hcell⟩ := hc i hlt
    have hcell := hcell.up hu
    repeat (first | refine RL.vv ?_ | refine RL.p ?_ | refine RL.nil ?_ | refine Sim.seq ?_ | refine Sim.region ?_ | refine Sim.block ?_ | refine Sim.skip ?_ | refine Sim.inBlock ?_ | refine Sim.exit rfl ?_ | refine Sim.condT rfl ?_ | refine Sim.condF rfl ?_)
    refine RL.call trivial rfl (c_closure rfl rfl) (hp i hlt w1 hu) ?_
    rintro _ w2 ⟨rfl, hu2⟩
    refine ⟨_, rfl, ?_⟩
    refine RL.nil ?_
    refine Sim.cond rfl (fun ht => ?_) (fun hf => ?_)
    · repeat (first | refine RL.vv ?_ | refine RL.p ?_ | refine RL.nil ?_ | refine Sim.seq ?_ | refine Sim.region ?_ | refine Sim.block ?_ | refine Sim.skip ?_ | refine Sim.inBlock ?_ | refine Sim.exit rfl ?_ | refine Sim.condT rfl ?_ | refine Sim.condF rfl ?_)
      exact Sim.ret1 Try.func125 rfl rfl ⟨by rw [idx_hit hlt ht hno], hu.trans hu2⟩
    · repeat (first | refine RL.vv ?_ | refine RL.p ?_ | refine RL.nil ?_ | refine Sim.seq ?_ | refine Sim.region ?_ | refine Sim.block ?_ | refine Sim.skip ?_ | refine Sim.inBlock ?_ | refine Sim.exit rfl ?_ | refine Sim.condT rfl ?_ | refine Sim.condF rfl ?_)
      refine next (i + 1) w2 _ ⟨by omega, hu.trans hu2, fun j hj => ?_⟩ (by omega) sb
      by_cases hji : j = i
      · subst hji; exact hf
      · exact hno j (by omega)
  · repeat (first | refine RL.vv ?_ | refine RL.p ?_ | refine RL.nil ?_ | refine Sim.seq ?_ | refine Sim.region ?_ | refine Sim.block ?_ | refine Sim.skip ?_ | refine Sim.inBlock ?_ | refine Sim.exit rfl ?_ | refine Sim.condT rfl ?_ | refine Sim.condF rfl ?_)
    exact Sim.ret1 Try.func125 rfl rfl ⟨by rw [idx_miss (fun j hj => hno j (by omega))], hu⟩
set_option maxHeartbeats 400000 in
theorem IndexFunc_Field {g : FuncId} [Fun Try.prog g] {caps : Array Value} {sv : Value} {n : Nat} {cells : Nat → List Value} {p : Nat → Bool} {w : World} (hs : Elems 3 w sv n cells)
    (hp : ∀ i, i < n → ∀ w', Up w w' → Calls Try.prog g (#[.agg (cells i).toArray] ++ caps) w' fun en w'' => en = .returned (.bool (p i)) ∧ Up w' w'') :
    Calls Try.prog 73 #[sv, .func (.func g) #[] caps] w fun en w' => en = .returned (.int .i64 (idx p n)) ∧ Up w w' := by
  obtain ⟨a, c, rfl, hnc, hcm, hel⟩ := hs
  unfold maxLen at hcm
  refine calls_of_sim Try.func73 rfl (Nat.le_of_ble_eq_true rfl) ?_
  repeat (first | refine RL.vv ?_ | refine RL.p ?_ | refine RL.nil ?_ | refine Sim.seq ?_ | refine Sim.region ?_ | refine Sim.block ?_ | refine Sim.skip ?_ | refine Sim.inBlock ?_ | refine Sim.exit rfl ?_ | refine Sim.condT rfl ?_ | refine Sim.condF rfl ?_)
  refine Sim.loop (σ := Nat) (fun i => [(0, .slice a n c), (1, .func (.func g) #[] caps), (6, .slice a n c), (7, .int .i64 (n : Int)), (8, .int .i64 (i : Int))]) (fun i w' => i ≤ n ∧ Up w w' ∧ ∀ j, j < i → p j = false) (fun i => n - i) 0 sb ⟨Nat.zero_le _, Up.refl _, fun j hj => absurd hj (Nat.not_lt_zero _)⟩ ?_
  rintro i w1 ⟨hi, hu, hno⟩ next
  by_cases hlt : i < n
  · obtain ⟨b, o, rfl, hc⟩ := hel (by omega)
    obtain ⟨hk, hcell⟩ := hc i hlt
    have hcell := hcell.up hu
    repeat (first | refine RL.vv ?_ | refine RL.p ?_ | refine RL.nil ?_ | refine Sim.seq ?_ | refine Sim.region ?_ | refine Sim.block ?_ | refine Sim.skip ?_ | refine Sim.inBlock ?_ | refine Sim.exit rfl ?_ | refine Sim.condT rfl ?_ | refine Sim.condF rfl ?_)
    refine RL.call trivial rfl (c_closure rfl rfl) (hp i hlt w1 hu) ?_
    rintro _ w2 ⟨rfl, hu2⟩
    refine ⟨_, rfl, ?_⟩
    refine RL.nil ?_
    refine Sim.cond rfl (fun ht => ?_) (fun hf => ?_)
    · repeat (first | refine RL.vv ?_ | refine RL.p ?_ | refine RL.nil ?_ | refine Sim.seq ?_ | refine Sim.region ?_ | refine Sim.block ?_ | refine Sim.skip ?_ | refine Sim.inBlock ?_ | refine Sim.exit rfl ?_ | refine Sim.condT rfl ?_ | refine Sim.condF rfl ?_)
      exact Sim.ret1 Try.func73 rfl rfl ⟨by rw [idx_hit hlt ht hno], hu.trans hu2⟩
    · repeat (first | refine RL.vv ?_ | refine RL.p ?_ | refine RL.nil ?_ | refine Sim.seq ?_ | refine Sim.region ?_ | refine Sim.block ?_ | refine Sim.skip ?_ | refine Sim.inBlock ?_ | refine Sim.exit rfl ?_ | refine Sim.condT rfl ?_ | refine Sim.condF rfl ?_)
      refine next (i + 1) w2 _ ⟨by omega, hu.trans hu2, fun j hj => ?_⟩ (by omega) sb
      by_cases hji : j = i
      · subst hji; exact hf
      · exact hno j (by omega)
  · repeat (first | refine RL.vv ?_ | refine RL.p ?_ | refine RL.nil ?_ | refine Sim.seq ?_ | refine Sim.region ?_ | refine Sim.block ?_ | refine Sim.skip ?_ | refine Sim.inBlock ?_ | refine Sim.exit rfl ?_ | refine Sim.condT rfl ?_ | refine Sim.condF rfl ?_)
    exact Sim.ret1 Try.func73 rfl rfl ⟨by rw [idx_miss (fun j hj => hno j (by omega))], hu⟩
set_option maxHeartbeats 400000 in
theorem IndexFunc_Thing {g : FuncId} [Fun Try.prog g] {caps : Array Value} {sv : Value} {n : Nat} {cells : Nat → List Value} {p : Nat → Bool} {w : World} (hs : Elems 3 w sv n cells)
    (hp : ∀ i, i < n → ∀ w', Up w w' → Calls Try.prog g (#[.agg (cells i).toArray] ++ caps) w' fun en w'' => en = .returned (.bool (p i)) ∧ Up w' w'') :
    Calls Try.prog 94 #[sv, .func (.func g) #[] caps] w fun en w' => en = .returned (.int .i64 (idx p n)) ∧ Up w w' := by
  obtain ⟨a, c, rfl, hnc, hcm, hel⟩ := hs
  unfold maxLen at hcm
  refine calls_of_sim Try.func94 rfl (Nat.le_of_ble_eq_true rfl) ?_
  repeat (first | refine RL.vv ?_ | refine RL.p ?_ | refine RL.nil ?_ | refine Sim.seq ?_ | refine Sim.region ?_ | refine Sim.block ?_ | refine Sim.skip ?_ | refine Sim.inBlock ?_ | refine Sim.exit rfl ?_ | refine Sim.condT rfl ?_ | refine Sim.condF rfl ?_)
  refine Sim.loop (σ := Nat) (fun i => [(0, .slice a n c), (1, .func (.func g) #[] caps), (6, .slice a n c), (7, .int .i64 (n : Int)), (8, .int .i64 (i : Int))]) (fun i w' => i ≤ n ∧ Up w w' ∧ ∀ j, j < i → p j = false) (fun i => n - i) 0 sb ⟨Nat.zero_le _, Up.refl _, fun j hj => absurd hj (Nat.not_lt_zero _)⟩ ?_
  rintro i w1 ⟨hi, hu, hno⟩ next
  by_cases hlt : i < n
  · obtain ⟨b, o, rfl, hc⟩ := hel (by omega)
    obtain ⟨hk, hcell⟩ := hc i hlt
    have hcell := hcell.up hu
    repeat (first | refine RL.vv ?_ | refine RL.p ?_ | refine RL.nil ?_ | refine Sim.seq ?_ | refine Sim.region ?_ | refine Sim.block ?_ | refine Sim.skip ?_ | refine Sim.inBlock ?_ | refine Sim.exit rfl ?_ | refine Sim.condT rfl ?_ | refine Sim.condF rfl ?_)
    refine RL.call trivial rfl (c_closure rfl rfl) (hp i hlt w1 hu) ?_
    rintro _ w2 ⟨rfl, hu2⟩
    refine ⟨_, rfl, ?_⟩
    refine RL.nil ?_
    refine Sim.cond rfl (fun ht => ?_) (fun hf => ?_)
    · repeat (first | refine RL.vv ?_ | refine RL.p ?_ | refine RL.nil ?_ | refine Sim.seq ?_ | refine Sim.region ?_ | refine Sim.block ?_ | refine Sim.skip ?_ | refine Sim.inBlock ?_ | refine Sim.exit rfl ?_ | refine Sim.condT rfl ?_ | refine Sim.condF rfl ?_)
      exact Sim.ret1 Try.func94 rfl rfl ⟨by rw [idx_hit hlt ht hno], hu.trans hu2⟩
    · repeat (first | refine RL.vv ?_ | refine RL.p ?_ | refine RL.nil ?_ | refine Sim.seq ?_ | refine Sim.region ?_ | refine Sim.block ?_ | refine Sim.skip ?_ | refine Sim.inBlock ?_ | refine Sim.exit rfl ?_ | refine Sim.condT rfl ?_ | refine Sim.condF rfl ?_)
      refine next (i + 1) w2 _ ⟨by omega, hu.trans hu2, fun j hj => ?_⟩ (by omega) sb
      by_cases hji : j = i
      · subst hji; exact hf
      · exact hno j (by omega)
  · repeat (first | refine RL.vv ?_ | refine RL.p ?_ | refine RL.nil ?_ | refine Sim.seq ?_ | refine Sim.region ?_ | refine Sim.block ?_ | refine Sim.skip ?_ | refine Sim.inBlock ?_ | refine Sim.exit rfl ?_ | refine Sim.condT rfl ?_ | refine Sim.condF rfl ?_)
    exact Sim.ret1 Try.func94 rfl rfl ⟨by rw [idx_miss (fun j hj => hno j (by omega))], hu⟩
set_option maxHeartbeats 400000 in
theorem IndexFunc_Part {g : FuncId} [Fun Try.prog g] {caps : Array Value} {sv : Value} {n : Nat} {cells : Nat → List Value} {p : Nat → Bool} {w : World} (hs : Elems 4 w sv n cells)
    (hp : ∀ i, i < n → ∀ w', Up w w' → Calls Try.prog g (#[.agg (cells i).toArray] ++ caps) w' fun en w'' => en = .returned (.bool (p i)) ∧ Up w' w'') :
    Calls Try.prog 70 #[sv, .func (.func g) #[] caps] w fun en w' => en = .returned (.int .i64 (idx p n)) ∧ Up w w' := by
  obtain ⟨a, c, rfl, hnc, hcm, hel⟩ := hs
  unfold maxLen at hcm
  refine calls_of_sim Try.func70 rfl (Nat.le_of_ble_eq_true rfl) ?_
  repeat (first | refine RL.vv ?_ | refine RL.p ?_ | refine RL.nil ?_ | refine Sim.seq ?_ | refine Sim.region ?_ | refine Sim.block ?_ | refine Sim.skip ?_ | refine Sim.inBlock ?_ | refine Sim.exit rfl ?_ | refine Sim.condT rfl ?_ | refine Sim.condF rfl ?_)
  refine Sim.loop (σ := Nat) (fun i => [(0, .slice a n c), (1, .func (.func g) #[] caps), (6, .slice a n c), (7, .int .i64 (n : Int)), (8, .int .i64 (i : Int))]) (fun i w' => i ≤ n ∧ Up w w' ∧ ∀ j, j < i → p j = false) (fun i => n - i) 0 sb ⟨Nat.zero_le _, Up.refl _, fun j hj => absurd hj (Nat.not_lt_zero _)⟩ ?_
  rintro i w1 ⟨hi, hu, hno⟩ next
  by_cases hlt : i < n
  · obtain ⟨b, o, rfl, hc⟩ := hel (by omega)
    obtain ⟨hk, hcell⟩ := hc i hlt
    have hcell := hcell.up hu
    repeat (first | refine RL.vv ?_ | refine RL.p ?_ | refine RL.nil ?_ | refine Sim.seq ?_ | refine Sim.region ?_ | refine Sim.block ?_ | refine Sim.skip ?_ | refine Sim.inBlock ?_ | refine Sim.exit rfl ?_ | refine Sim.condT rfl ?_ | refine Sim.condF rfl ?_)
    refine RL.call trivial rfl (c_closure rfl rfl) (hp i hlt w1 hu) ?_
    rintro _ w2 ⟨rfl, hu2⟩
    refine ⟨_, rfl, ?_⟩
    refine RL.nil ?_
    refine Sim.cond rfl (fun ht => ?_) (fun hf => ?_)
    · repeat (first | refine RL.vv ?_ | refine RL.p ?_ | refine RL.nil ?_ | refine Sim.seq ?_ | refine Sim.region ?_ | refine Sim.block ?_ | refine Sim.skip ?_ | refine Sim.inBlock ?_ | refine Sim.exit rfl ?_ | refine Sim.condT rfl ?_ | refine Sim.condF rfl ?_)
      exact Sim.ret1 Try.func70 rfl rfl ⟨by rw [idx_hit hlt ht hno], hu.trans hu2⟩
    · repeat (first | refine RL.vv ?_ | refine RL.p ?_ | refine RL.nil ?_ | refine Sim.seq ?_ | refine Sim.region ?_ | refine Sim.block ?_ | refine Sim.skip ?_ | refine Sim.inBlock ?_ | refine Sim.exit rfl ?_ | refine Sim.condT rfl ?_ | refine Sim.condF rfl ?_)
      refine next (i + 1) w2 _ ⟨by omega, hu.trans hu2, fun j hj => ?_⟩ (by omega) sb
      by_cases hji : j = i
      · subst hji; exact hf
      · exact hno j (by omega)
  · repeat (first | refine RL.vv ?_ | refine RL.p ?_ | refine RL.nil ?_ | refine Sim.seq ?_ | refine Sim.region ?_ | refine Sim.block ?_ | refine Sim.skip ?_ | refine Sim.inBlock ?_ | refine Sim.exit rfl ?_ | refine Sim.condT rfl ?_ | refine Sim.condF rfl ?_)
    exact Sim.ret1 Try.func70 rfl rfl ⟨by rw [idx_miss (fun j hj => hno j (by omega))], hu⟩
set_option maxHeartbeats 400000 in
theorem IndexFunc_Pick {g : FuncId} [Fun Try.prog g] {caps : Array Value} {sv : Value} {n : Nat} {cells : Nat → List Value} {p : Nat → Bool} {w : World} (hs : Elems 3 w sv n cells)
    (hp : ∀ i, i < n → ∀ w', Up w w' → Calls Try.prog g (#[.agg (cells i).toArray] ++ caps) w' fun en w'' => en = .returned (.bool (p i)) ∧ Up w' w'') :
    Calls Try.prog 124 #[sv, .func (.func g) #[] caps] w fun en w' => en = .returned (.int .i64 (idx p n)) ∧ Up w w' := by
  obtain ⟨a, c, rfl, hnc, hcm, hel⟩ := hs
  unfold maxLen at hcm
  refine calls_of_sim Try.func124 rfl (Nat.le_of_ble_eq_true rfl) ?_
  repeat (first | refine RL.vv ?_ | refine RL.p ?_ | refine RL.nil ?_ | refine Sim.seq ?_ | refine Sim.region ?_ | refine Sim.block ?_ | refine Sim.skip ?_ | refine Sim.inBlock ?_ | refine Sim.exit rfl ?_ | refine Sim.condT rfl ?_ | refine Sim.condF rfl ?_)
  refine Sim.loop (σ := Nat) (fun i => [(0, .slice a n c), (1, .func (.func g) #[] caps), (6, .slice a n c), (7, .int .i64 (n : Int)), (8, .int .i64 (i : Int))]) (fun i w' => i ≤ n ∧ Up w w' ∧ ∀ j, j < i → p j = false) (fun i => n - i) 0 sb ⟨Nat.zero_le _, Up.refl _, fun j hj => absurd hj (Nat.not_lt_zero _)⟩ ?_
  rintro i w1 ⟨hi, hu, hno⟩ next
  by_cases hlt : i < n
  · obtain ⟨b, o, rfl, hc⟩ := hel (by omega)
    obtain ⟨hk, hcell⟩ := hc i hlt
    have hcell := hcell.up hu
    repeat (first | refine RL.vv ?_ | refine RL.p ?_ | refine RL.nil ?_ | refine Sim.seq ?_ | refine Sim.region ?_ | refine Sim.block ?_ | refine Sim.skip ?_ | refine Sim.inBlock ?_ | refine Sim.exit rfl ?_ | refine Sim.condT rfl ?_ | refine Sim.condF rfl ?_)
    refine RL.call trivial rfl (c_closure rfl rfl) (hp i hlt w1 hu) ?_
    rintro _ w2 ⟨rfl, hu2⟩
    refine ⟨_, rfl, ?_⟩
    refine RL.nil ?_
    refine Sim.cond rfl (fun ht => ?_) (fun hf => ?_)
    · repeat (first | refine RL.vv ?_ | refine RL.p ?_ | refine RL.nil ?_ | refine Sim.seq ?_ | refine Sim.region ?_ | refine Sim.block ?_ | refine Sim.skip ?_ | refine Sim.inBlock ?_ | refine Sim.exit rfl ?_ | refine Sim.condT rfl ?_ | refine Sim.condF rfl ?_)
      exact Sim.ret1 Try.func124 rfl rfl ⟨by rw [idx_hit hlt ht hno], hu.trans hu2⟩
    · repeat (first | refine RL.vv ?_ | refine RL.p ?_ | refine RL.nil ?_ | refine Sim.seq ?_ | refine Sim.region ?_ | refine Sim.block ?_ | refine Sim.skip ?_ | refine Sim.inBlock ?_ | refine Sim.exit rfl ?_ | refine Sim.condT rfl ?_ | refine Sim.condF rfl ?_)
      refine next (i + 1) w2 _ ⟨by omega, hu.trans hu2, fun j hj => ?_⟩ (by omega) sb
      by_cases hji : j = i
      · subst hji; exact hf
      · exact hno j (by omega)
  · repeat (first | refine RL.vv ?_ | refine RL.p ?_ | refine RL.nil ?_ | refine Sim.seq ?_ | refine Sim.region ?_ | refine Sim.block ?_ | refine Sim.skip ?_ | refine Sim.inBlock ?_ | refine Sim.exit rfl ?_ | refine Sim.condT rfl ?_ | refine Sim.condF rfl ?_)
    exact Sim.ret1 Try.func124 rfl rfl ⟨by rw [idx_miss (fun j hj => hno j (by omega))], hu⟩
set_option maxHeartbeats 400000 in
theorem IndexFunc_Str {g : FuncId} [Fun Try.prog g] {caps : Array Value} {sv : Value} {n : Nat} {cells : Nat → List Value} {xs : Nat → Value} {p : Nat → Bool} {w : World} (hs : Elems 1 w sv n cells) (hone : ∀ i, i < n → cells i = [xs i])
    (hp : ∀ i, i < n → ∀ w', Up w w' → Calls Try.prog g (#[xs i] ++ caps) w' fun en w'' => en = .returned (.bool (p i)) ∧ Up w' w'') :
    Calls Try.prog 140 #[sv, .func (.func g) #[] caps] w fun en w' => en = .returned (.int .i64 (idx p n)) ∧ Up w w' := by
  obtain ⟨a, c, rfl, hnc, hcm, hel⟩ := hs
  unfold maxLen at hcm
  refine calls_of_sim Try.func140 rfl (Nat.le_of_ble_eq_true rfl) ?_
  repeat (first | refine RL.vv ?_ | refine RL.p ?_ | refine RL.nil ?_ | refine Sim.seq ?_ | refine Sim.region ?_ | refine Sim.block ?_ | refine Sim.skip ?_ | refine Sim.inBlock ?_ | refine Sim.exit rfl ?_ | refine Sim.condT rfl ?_ | refine Sim.condF rfl ?_)
  refine Sim.loop (σ := Nat) (fun i => [(0, .slice a n c), (1, .func (.func g) #[] caps), (6, .slice a n c), (7, .int .i64 (n : Int)), (8, .int .i64 (i : Int))]) (fun i w' => i ≤ n ∧ Up w w' ∧ ∀ j, j < i → p j = false) (fun i => n - i) 0 sb ⟨Nat.zero_le _, Up.refl _, fun j hj => absurd hj (Nat.not_lt_zero _)⟩ ?_
  rintro i w1 ⟨hi, hu, hno⟩ next
  by_cases hlt : i < n
  · obtain ⟨b, o, rfl, hc⟩ := hel (by omega)
    obtain ⟨_, hcell⟩ := hc i hlt
    rw [hone i hlt] at hcell
    have hcell := hcell.up hu
    repeat (first | refine RL.vv ?_ | refine RL.p ?_ | refine RL.nil ?_ | refine Sim.seq ?_ | refine Sim.region ?_ | refine Sim.block ?_ | refine Sim.skip ?_ | refine Sim.inBlock ?_ | refine Sim.exit rfl ?_ | refine Sim.condT rfl ?_ | refine Sim.condF rfl ?_)
    refine RL.call trivial rfl (c_closure rfl rfl) (hp i hlt w1 hu) ?_
    rintro _ w2 ⟨rfl, hu2⟩
    refine ⟨_, rfl, ?_⟩
    refine RL.nil ?_
    refine Sim.cond rfl (fun ht => ?_) (fun hf => ?_)
    · repeat (first | refine RL.vv ?_ | refine RL.p ?_ | refine RL.nil ?_ | refine Sim.seq ?_ | refine Sim.region ?_ | refine Sim.block ?_ | refine Sim.skip ?_ | refine Sim.inBlock ?_ | refine Sim.exit rfl ?_ | refine Sim.condT rfl ?_ | refine Sim.condF rfl ?_)
      exact Sim.ret1 Try.func140 rfl rfl ⟨by rw [idx_hit hlt ht hno], hu.trans hu2⟩
    · repeat (first | refine RL.vv ?_ | refine RL.p ?_ | refine RL.nil ?_ | refine Sim.seq ?_ | refine Sim.region ?_ | refine Sim.block ?_ | refine Sim.skip ?_ | refine Sim.inBlock ?_ | refine Sim.exit rfl ?_ | refine Sim.condT rfl ?_ | refine Sim.condF rfl ?_)
      refine next (i + 1) w2 _ ⟨by omega, hu.trans hu2, fun j hj => ?_⟩ (by omega) sb
      by_cases hji : j = i
      · subst hji; exact hf
      · exact hno j (by omega)
  · repeat (first | refine RL.vv ?_ | refine RL.p ?_ | refine RL.nil ?_ | refine Sim.seq ?_ | refine Sim.region ?_ | refine Sim.block ?_ | refine Sim.skip ?_ | refine Sim.inBlock ?_ | refine Sim.exit rfl ?_ | refine Sim.condT rfl ?_ | refine Sim.condF rfl ?_)
    exact Sim.ret1 Try.func140 rfl rfl ⟨by rw [idx_miss (fun j hj => hno j (by omega))], hu⟩
end Go.Proofs.Ytgckpmcdlciibab

namespace Go.Proofs.Ytgckpmcdlciibab
open Go.RowKit

theorem Keep.trans {S : Nat → Prop} {a b c : World} (h : Keep S a b) (hs : a.heap.size ≤ b.heap.size) (k : Keep S b c) : Keep S a c := fun i hi hlt => (k i hi (by omega)).trans (h i hi hlt)

theorem namedTo_mono {s : Str} {m n : Nat} (h : namedTo s n) (hmn : m ≤ n) : namedTo s m := fun i c hi hc => h i c (by omega) hc
theorem namedTo_succ {s : Str} {n : Nat} {c : UInt8} (h : namedTo s n) (hc : s[n]? = some c) (ho : okc n c = true) : namedTo s (n + 1) := fun i d hi hd => by
  by_cases he : i = n
  · subst he; rw [hc] at hd; cases hd; exact ho
  · exact h i d (by omega) hd
theorem okc_t1 {i : Nat} {c : UInt8} (h1 : ¬ (c.toNat : Int) < 97) (h2 : ¬ (122 : Int) < c.toNat) : okc i c = true := by
  simp [okc]; omega
theorem okc_t2 {i : Nat} {c : UInt8} (h0 : ¬ (i : Int) = 0) (h1 : ¬ (c.toNat : Int) < 48) (h2 : ¬ (57 : Int) < c.toNat) : okc i c = true := by
  simp [okc]; omega
theorem okc_f {i : Nat} {c : UInt8} (h : (c.toNat : Int) < 97 ∨ (122 : Int) < c.toNat) (h' : (i : Int) = 0 ∨ (c.toNat : Int) < 48 ∨ (57 : Int) < c.toNat) : okc i c = false := by
  rw [← Bool.not_eq_true]
  simp [okc]; omega
theorem not_named_size {s : Str} (h : ¬ (1 ≤ s.size ∧ s.size ≤ 12)) : named s = false := not_named_of (fun hn => h ⟨hn.1, hn.2.1⟩)
theorem not_named_at {s : Str} {i : Nat} {c : UInt8} (hc : s[i]? = some c) (hi : i < s.size) (ho : okc i c = false) : named s = false :=
  not_named_of (fun hn => by have := hn.2.2 i c hi hc; rw [ho] at this; cases this)

set_option maxHeartbeats 1000000 in
theorem Named_any (s : Str) (w : World) : Calls Try.prog 56 #[.string s] w fun en w' => en = .returned (.bool (named s)) ∧ Up w w' := by
  refine calls_of_sim Try.func56 rfl (Nat.le_of_ble_eq_true rfl) ?_
  by_cases h1 : (s.size : Int) < 1
  · repeat (first | refine RL.vv ?_ | refine RL.p ?_ | refine RL.nil ?_ | refine Sim.seq ?_ | refine Sim.region ?_ | refine Sim.block ?_ | refine Sim.skip ?_ | refine Sim.inBlock ?_ | refine Sim.exit rfl ?_ | refine Sim.condT rfl ?_ | refine Sim.condF rfl ?_)
    exact Sim.ret1 Try.func56 rfl rfl ⟨by rw [not_named_size (by omega)], Up.refl _⟩
  by_cases h2 : (12 : Int) < s.size
  · repeat (first | refine RL.vv ?_ | refine RL.p ?_ | refine RL.nil ?_ | refine Sim.seq ?_ | refine Sim.region ?_ | refine Sim.block ?_ | refine Sim.skip ?_ | refine Sim.inBlock ?_ | refine Sim.exit rfl ?_ | refine Sim.condT rfl ?_ | refine Sim.condF rfl ?_)
    exact Sim.ret1 Try.func56 rfl rfl ⟨by rw [not_named_size (by omega)], Up.refl _⟩
  repeat (first | refine RL.vv ?_ | refine RL.p ?_ | refine RL.nil ?_ | refine Sim.seq ?_ | refine Sim.region ?_ | refine Sim.block ?_ | refine Sim.skip ?_ | refine Sim.inBlock ?_ | refine Sim.exit rfl ?_ | refine Sim.condT rfl ?_ | refine Sim.condF rfl ?_)
  refine Sim.loop (σ := Nat) (fun i => [(0, .string s), (14, .int .i64 (s.size : Int)), (15, .int .i64 (i : Int))]) (fun i w' => i ≤ s.size ∧ w' = w ∧ namedTo s i) (fun i => s.size - i) 0 sb ⟨Nat.zero_le _, rfl, fun j c hj => absurd hj (Nat.not_lt_zero _)⟩ ?_
  rintro i w1 ⟨hi, rfl, hno⟩ next
  by_cases hlt : i < s.size
  · obtain ⟨c, hc⟩ := str_get? s i hlt
    have go : okc i c = true → ∀ e', Env.Sub [(0, .string s), (14, .int .i64 (s.size : Int)), (15, .int .i64 ((i + 1 : Nat) : Int))] e' → Sim Try.prog 56 _ _ e' w1 _ :=
      fun ho e' hs => next (i + 1) w1 e' ⟨by omega, rfl, namedTo_succ hno hc ho⟩ (by omega) hs
    clear next
    by_cases c1 : (c.toNat : Int) < 97
    · by_cases c3 : (i : Int) = 0
      · repeat (first | refine RL.vv ?_ | refine RL.p ?_ | refine RL.nil ?_ | refine Sim.seq ?_ | refine Sim.region ?_ | refine Sim.block ?_ | refine Sim.skip ?_ | refine Sim.inBlock ?_ | refine Sim.exit rfl ?_ | refine Sim.condT rfl ?_ | refine Sim.condF rfl ?_)
        exact Sim.ret1 Try.func56 rfl rfl ⟨by rw [not_named_at hc hlt (okc_f (.inl c1) (.inl c3))], Up.refl _⟩
      by_cases c4 : (c.toNat : Int) < 48
      · repeat (first | refine RL.vv ?_ | refine RL.p ?_ | refine RL.nil ?_ | refine Sim.seq ?_ | refine Sim.region ?_ | refine Sim.block ?_ | refine Sim.skip ?_ | refine Sim.inBlock ?_ | refine Sim.exit rfl ?_ | refine Sim.condT rfl ?_ | refine Sim.condF rfl ?_)
        exact Sim.ret1 Try.func56 rfl rfl ⟨by rw [not_named_at hc hlt (okc_f (.inl c1) (.inr (.inl c4)))], Up.refl _⟩
      by_cases c5 : (57 : Int) < c.toNat
      · repeat (first | refine RL.vv ?_ | refine RL.p ?_ | refine RL.nil ?_ | refine Sim.seq ?_ | refine Sim.region ?_ | refine Sim.block ?_ | refine Sim.skip ?_ | refine Sim.inBlock ?_ | refine Sim.exit rfl ?_ | refine Sim.condT rfl ?_ | refine Sim.condF rfl ?_)
        exact Sim.ret1 Try.func56 rfl rfl ⟨by rw [not_named_at hc hlt (okc_f (.inl c1) (.inr (.inr c5)))], Up.refl _⟩
      · repeat (first | refine RL.vv ?_ | refine RL.p ?_ | refine RL.nil ?_ | refine Sim.seq ?_ | refine Sim.region ?_ | refine Sim.block ?_ | refine Sim.skip ?_ | refine Sim.inBlock ?_ | refine Sim.exit rfl ?_ | refine Sim.condT rfl ?_ | refine Sim.condF rfl ?_)
        exact go (okc_t2 c3 c4 c5) _ sb
    by_cases c2 : (122 : Int) < c.toNat
    · by_cases c3 : (i : Int) = 0
      · repeat (first | refine RL.vv ?_ | refine RL.p ?_ | refine RL.nil ?_ | refine Sim.seq ?_ | refine Sim.region ?_ | refine Sim.block ?_ | refine Sim.skip ?_ | refine Sim.inBlock ?_ | refine Sim.exit rfl ?_ | refine Sim.condT rfl ?_ | refine Sim.condF rfl ?_)
        exact Sim.ret1 Try.func56 rfl rfl ⟨by rw [not_named_at hc hlt (okc_f (.inr c2) (.inl c3))], Up.refl _⟩
      have c5 : (57 : Int) < c.toNat := by omega
      · repeat (first | refine RL.vv ?_ | refine RL.p ?_ | refine RL.nil ?_ | refine Sim.seq ?_ | refine Sim.region ?_ | refine Sim.block ?_ | refine Sim.skip ?_ | refine Sim.inBlock ?_ | refine Sim.exit rfl ?_ | refine Sim.condT rfl ?_ | refine Sim.condF rfl ?_)
        exact Sim.ret1 Try.func56 rfl rfl ⟨by rw [not_named_at hc hlt (okc_f (.inr c2) (.inr (.inr c5)))], Up.refl _⟩
    · repeat (first | refine RL.vv ?_ | refine RL.p ?_ | refine RL.nil ?_ | refine Sim.seq ?_ | refine Sim.region ?_ | refine Sim.block ?_ | refine Sim.skip ?_ | refine Sim.inBlock ?_ | refine Sim.exit rfl ?_ | refine Sim.condT rfl ?_ | refine Sim.condF rfl ?_)
      exact go (okc_t1 c1 c2) _ sb
  · repeat (first | refine RL.vv ?_ | refine RL.p ?_ | refine RL.nil ?_ | refine Sim.seq ?_ | refine Sim.region ?_ | refine Sim.block ?_ | refine Sim.skip ?_ | refine Sim.inBlock ?_ | refine Sim.exit rfl ?_ | refine Sim.condT rfl ?_ | refine Sim.condF rfl ?_)
    exact Sim.ret1 Try.func56 rfl rfl ⟨by rw [named_of ⟨by omega, by omega, namedTo_mono hno (by omega)⟩], Up.refl _⟩
end Go.Proofs.Ytgckpmcdlciibab

namespace Go.Proofs.Ytgckpmcdlciibab
open Go.RowKit
/-- what IndexFunc's index is, of a list -/
theorem idx_firstIdx {α : Type} (l : List α) (q : α → Bool) (p : Nat → Bool) (h : ∀ (i : Nat) x, l[i]? = some x → p i = q x) : idx p l.length = firstIdx l q := by
  by_cases hex : 0 ≤ firstIdx l q
  · obtain ⟨i, x, hi, hx, hq, hlt⟩ := firstIdx_lt hex
    rw [hi]
    refine idx_hit hlt (by rw [h i x hx]; exact hq) fun j hj => ?_
    have hj' : j < l.length := by omega
    rw [h j l[j] (List.getElem?_eq_getElem hj')]
    cases hqj : q l[j] with
    | false => rfl
    | true =>
      exfalso
      have : firstIdx l q ≤ j := by
        unfold firstIdx at hi ⊢
        cases hf : l.findIdx? q with
        | none => simp [hf] at hi
        | some k =>
          obtain ⟨hk, _, hmin⟩ := List.findIdx?_eq_some_iff_getElem.1 hf
          simp only [Int.ofNat_le]
          by_cases hkj : k ≤ j
          · exact hkj
          · have := hmin j (by omega)
            rw [hqj] at this
            simp at this
      omega
  · rw [firstIdx_neg hex]
    refine idx_miss fun j hj => ?_
    rw [h j l[j] (List.getElem?_eq_getElem hj)]
    cases hqj : q l[j] with
    | false => rfl
    | true => exact absurd (firstIdx_nonneg_iff.2 (List.any_eq_true.2 ⟨_, List.getElem_mem hj, hqj⟩)) hex

set_option maxHeartbeats 400000 in
theorem Find1_any (nm nm2 : ByteArray) (fs : Value) (b : Nat) (w : World) (hb : At w b 0 [.string nm2]) :
    Calls Try.prog 126 #[.agg #[.string nm, fs], .pointer (some ⟨b, 0, none⟩)] w fun en w' => en = .returned (.bool (decide (nm = nm2))) ∧ Up w w' := by
  refine calls_of_sim Try.func126 rfl (Nat.le_of_ble_eq_true rfl) ?_
  repeat (first | refine RL.vv ?_ | refine RL.p ?_ | refine RL.nil ?_ | refine Sim.seq ?_ | refine Sim.region ?_ | refine Sim.block ?_ | refine Sim.skip ?_ | refine Sim.inBlock ?_ | refine Sim.exit rfl ?_ | refine Sim.condT rfl ?_ | refine Sim.condF rfl ?_)
  refine RL.eff trivial rfl (e_box rfl) ?_
  have h1 : At _ _ 0 [.string nm, fs] := At.box w (.agg #[.string nm, fs]) 80
  have hb := hb.up (Up.alloc w (.cells #[.string nm, fs] 80))
  repeat (first | refine RL.vv ?_ | refine RL.p ?_ | refine RL.nil ?_ | refine Sim.seq ?_ | refine Sim.region ?_ | refine Sim.block ?_ | refine Sim.skip ?_ | refine Sim.inBlock ?_ | refine Sim.exit rfl ?_ | refine Sim.condT rfl ?_ | refine Sim.condF rfl ?_)
  exact Sim.ret1 Try.func126 rfl rfl ⟨rfl, Up.alloc _ _⟩
set_option maxHeartbeats 400000 in
theorem Field1_any (nm nm2 ty : ByteArray) (k : Int) (b : Nat) (w : World) (hb : At w b 0 [.string nm2]) :
    Calls Try.prog 74 #[.agg #[.string nm, .int .i64 k, .string ty], .pointer (some ⟨b, 0, none⟩)] w fun en w' => en = .returned (.bool (decide (nm = nm2))) ∧ Up w w' := by
  refine calls_of_sim Try.func74 rfl (Nat.le_of_ble_eq_true rfl) ?_
  repeat (first | refine RL.vv ?_ | refine RL.p ?_ | refine RL.nil ?_ | refine Sim.seq ?_ | refine Sim.region ?_ | refine Sim.block ?_ | refine Sim.skip ?_ | refine Sim.inBlock ?_ | refine Sim.exit rfl ?_ | refine Sim.condT rfl ?_ | refine Sim.condF rfl ?_)
  refine RL.eff trivial rfl (e_box rfl) ?_
  have h1 : At _ _ 0 [.string nm, .int .i64 k, .string ty] := At.box w (.agg #[.string nm, .int .i64 k, .string ty]) 86
  have hb := hb.up (Up.alloc w (.cells #[.string nm, .int .i64 k, .string ty] 86))
  repeat (first | refine RL.vv ?_ | refine RL.p ?_ | refine RL.nil ?_ | refine Sim.seq ?_ | refine Sim.region ?_ | refine Sim.block ?_ | refine Sim.skip ?_ | refine Sim.inBlock ?_ | refine Sim.exit rfl ?_ | refine Sim.condT rfl ?_ | refine Sim.condF rfl ?_)
  exact Sim.ret1 Try.func74 rfl rfl ⟨rfl, Up.alloc _ _⟩


set_option maxHeartbeats 400000 in
theorem Find_any {S : Nat → Prop} {v : Value} {l : List Typ} (n : Str) (w : World) (hl : SliceOf typLay S w v l) :
    Calls Try.prog 92 #[v, .string n] w fun en w' => en = .returned (.int .i64 (findT l n)) ∧ Up w w' := by
  refine calls_of_sim Try.func92 rfl (Nat.le_of_ble_eq_true rfl) ?_
  repeat (first | refine RL.vv ?_ | refine RL.p ?_ | refine RL.nil ?_ | refine Sim.seq ?_ | refine Sim.region ?_ | refine Sim.block ?_ | refine Sim.skip ?_ | refine Sim.inBlock ?_ | refine Sim.exit rfl ?_ | refine Sim.condT rfl ?_ | refine Sim.condF rfl ?_)
  refine RL.eff trivial rfl (e_box rfl) ?_
  have h1 : At _ _ 0 [.string n] := At.box w (.string n) 9
  have hu := Up.alloc w (.cells (Value.string n).cells 9)
  have hl := hl.up hu
  generalize w.alloc (.cells (Value.string n).cells 9) = w1 at *
  repeat (first | refine RL.vv ?_ | refine RL.p ?_ | refine RL.nil ?_ | refine Sim.seq ?_ | refine Sim.region ?_ | refine Sim.block ?_ | refine Sim.skip ?_ | refine Sim.inBlock ?_ | refine Sim.exit rfl ?_ | refine Sim.condT rfl ?_ | refine Sim.condF rfl ?_)
  obtain ⟨cells, hel, his⟩ := hl.elems
  refine RL.call trivial rfl (c_static rfl) (IndexFunc_Type (p := fun i => match l[i]? with | some t => decide (t.name = n) | none => false) hel ?_) ?_
  · intro i hi w2 hu2
    obtain ⟨fs, hcs, hfs⟩ := his i l[i] (List.getElem?_eq_getElem hi)
    rw [hcs]
    refine (Find1_any _ n _ _ _ (h1.up hu2)).mono ?_
    rintro _ w3 ⟨rfl, hu3⟩
    exact ⟨by simp [List.getElem?_eq_getElem hi], hu3⟩
  rintro _ w2 ⟨rfl, hu2⟩
  refine ⟨_, rfl, ?_⟩
  repeat (first | refine RL.vv ?_ | refine RL.p ?_ | refine RL.nil ?_ | refine Sim.seq ?_ | refine Sim.region ?_ | refine Sim.block ?_ | refine Sim.skip ?_ | refine Sim.inBlock ?_ | refine Sim.exit rfl ?_ | refine Sim.condT rfl ?_ | refine Sim.condF rfl ?_)
  exact Sim.ret1 Try.func92 rfl rfl ⟨by rw [idx_firstIdx l (fun t => decide (t.name = n)) _ (fun i x hx => by simp only [hx])]; rfl, hu.trans hu2⟩
set_option maxHeartbeats 400000 in
theorem Field_any {S : Nat → Prop} {v : Value} {l : List Fld} (n : Str) (w : World) (hl : SliceOf fldLay S w v l) :
    Calls Try.prog 35 #[v, .string n] w fun en w' => en = .returned (.int .i64 (fieldF l n)) ∧ Up w w' := by
  refine calls_of_sim Try.func35 rfl (Nat.le_of_ble_eq_true rfl) ?_
  repeat (first | refine RL.vv ?_ | refine RL.p ?_ | refine RL.nil ?_ | refine Sim.seq ?_ | refine Sim.region ?_ | refine Sim.block ?_ | refine Sim.skip ?_ | refine Sim.inBlock ?_ | refine Sim.exit rfl ?_ | refine Sim.condT rfl ?_ | refine Sim.condF rfl ?_)
  refine RL.eff trivial rfl (e_box rfl) ?_
  have h1 : At _ _ 0 [.string n] := At.box w (.string n) 9
  have hu := Up.alloc w (.cells (Value.string n).cells 9)
  have hl := hl.up hu
  generalize w.alloc (.cells (Value.string n).cells 9) = w1 at *
  repeat (first | refine RL.vv ?_ | refine RL.p ?_ | refine RL.nil ?_ | refine Sim.seq ?_ | refine Sim.region ?_ | refine Sim.block ?_ | refine Sim.skip ?_ | refine Sim.inBlock ?_ | refine Sim.exit rfl ?_ | refine Sim.condT rfl ?_ | refine Sim.condF rfl ?_)
  obtain ⟨cells, hel, his⟩ := hl.elems
  refine RL.call trivial rfl (c_static rfl) (IndexFunc_Field (p := fun i => match l[i]? with | some t => decide (t.name = n) | none => false) hel ?_) ?_
  · intro i hi w2 hu2
    have hcs : cells i = _ := his i l[i] (List.getElem?_eq_getElem hi)
    rw [hcs]
    refine (Field1_any _ n _ _ _ _ (h1.up hu2)).mono ?_
    rintro _ w3 ⟨rfl, hu3⟩
    exact ⟨by simp [List.getElem?_eq_getElem hi], hu3⟩
  rintro _ w2 ⟨rfl, hu2⟩
  refine ⟨_, rfl, ?_⟩
  repeat (first | refine RL.vv ?_ | refine RL.p ?_ | refine RL.nil ?_ | refine Sim.seq ?_ | refine Sim.region ?_ | refine Sim.block ?_ | refine Sim.skip ?_ | refine Sim.inBlock ?_ | refine Sim.exit rfl ?_ | refine Sim.condT rfl ?_ | refine Sim.condF rfl ?_)
  exact Sim.ret1 Try.func35 rfl rfl ⟨by rw [idx_firstIdx l (fun t => decide (t.name = n)) _ (fun i x hx => by simp only [hx])]; rfl, hu.trans hu2⟩

/-- the address of an element, if there is one -/
def ptrAt (v : Value) (k : Nat) (i : Int) : Value := match v with
  | .slice (some ⟨b, o, _⟩) _ _ => if i < 0 then .pointer none else .pointer (some ⟨b, o + i.toNat * k, none⟩)
  | _ => .pointer none
theorem ptrAt_nat (b o n c k i : Nat) : ptrAt (.slice (some ⟨b, o, none⟩) n c) k (i : Int) = .pointer (some ⟨b, o + i * k, none⟩) := by
  simp only [ptrAt, Int.toNat_natCast]
  rw [if_neg (by omega)]
theorem ptrAt_neg (v : Value) (k : Nat) : ptrAt v k (-1) = .pointer none := by
  unfold ptrAt
  split <;> simp
end Go.Proofs.Ytgckpmcdlciibab

namespace Go.Proofs.Ytgckpmcdlciibab
open Go.RowKit

set_option maxHeartbeats 1000000 in
theorem fields_any {S : Nat → Prop} {v fv : Value} {l : List Typ} {t : Typ} {tb to : Nat} (w : World) (hl : SliceOf typLay S w v l) (hat : At w tb to [.string t.name, fv]) (hf : SliceOf fldLay S w fv t.fields) :
    Calls Try.prog 111 #[v, .pointer (some ⟨tb, to, none⟩)] w fun en w' => en = .returned (.int .i64 (fieldsErr l t)) ∧ Up w w' := by
  refine calls_of_sim Try.func111 rfl (Nat.le_of_ble_eq_true rfl) ?_
  obtain ⟨a, c, rfl, hnc, hcm, hel⟩ := id hf
  unfold maxLen at hcm
  by_cases hbig : (10 : Int) < t.fields.length
  · repeat (first | refine RL.vv ?_ | refine RL.p ?_ | refine RL.nil ?_ | refine Sim.seq ?_ | refine Sim.region ?_ | refine Sim.block ?_ | refine Sim.skip ?_ | refine Sim.inBlock ?_ | refine Sim.exit rfl ?_ | refine Sim.condT rfl ?_ | refine Sim.condF rfl ?_)
    exact Sim.ret1 Try.func111 rfl rfl ⟨by rw [fieldsErr, if_pos (by omega)], Up.refl _⟩
  repeat (first | refine RL.vv ?_ | refine RL.p ?_ | refine RL.nil ?_ | refine Sim.seq ?_ | refine Sim.region ?_ | refine Sim.block ?_ | refine Sim.skip ?_ | refine Sim.inBlock ?_ | refine Sim.exit rfl ?_ | refine Sim.condT rfl ?_ | refine Sim.condF rfl ?_)
  refine Sim.loop (σ := Nat) (fun i => [(0, v), (1, .pointer (some ⟨tb, to, none⟩)), (16, .slice a t.fields.length c), (17, .int .i64 (t.fields.length : Int)), (18, .int .i64 (i : Int))]) (fun i w' => i ≤ t.fields.length ∧ Up w w' ∧ ∀ (j : Nat) x, j < i → t.fields[j]? = some x → fieldErr l t.fields j x = 0) (fun i => t.fields.length - i) 0 sb ⟨Nat.zero_le _, Up.refl _, fun j x hj => absurd hj (Nat.not_lt_zero _)⟩ ?_
  rintro i w1 ⟨hi, hu, hno⟩ next
  by_cases hlt : i < t.fields.length
  · have hx : t.fields[i]? = some t.fields[i] := List.getElem?_eq_getElem hlt
    obtain ⟨b, o, cs, rfl, _, hat2, rfl, _⟩ := hf.at hx
    have hat2 : At w b (o + i * 3) _ := hat2
    have bad : ∀ r, fieldErr l t.fields i t.fields[i] = r → r ≠ 0 → fieldsErr l t = r := fun r hr hne => by rw [fieldsErr, if_neg (by omega), firstBad_hit hx hno (by rw [hr]; exact hne)]; exact hr
    have good : fieldErr l t.fields i t.fields[i] = 0 → ∀ (j : Nat) x, j < i + 1 → t.fields[j]? = some x → fieldErr l t.fields j x = 0 := fun h0 j x hj hxj => by
      by_cases hji : j = i
      · subst hji; rw [hx] at hxj; cases hxj; exact h0
      · exact hno j x (by omega) hxj
    unfold fieldErr at bad good
    generalize t.fields[i] = f at *
    have htk := (hf.take (i := i) (by omega))
    repeat (first | refine RL.vv ?_ | refine RL.p ?_ | refine RL.nil ?_ | refine Sim.seq ?_ | refine Sim.region ?_ | refine Sim.block ?_ | refine Sim.skip ?_ | refine Sim.inBlock ?_ | refine Sim.exit rfl ?_ | refine Sim.condT rfl ?_ | refine Sim.condF rfl ?_)
    refine RL.alloc trivial rfl fun w2 hu2 hb2 _ => ?_
    repeat (first | refine RL.vv ?_ | refine RL.p ?_ | refine RL.nil ?_ | refine Sim.seq ?_ | refine Sim.region ?_ | refine Sim.block ?_ | refine Sim.skip ?_ | refine Sim.inBlock ?_ | refine Sim.exit rfl ?_ | refine Sim.condT rfl ?_ | refine Sim.condF rfl ?_)
    refine RL.store trivial rfl rfl hb2 rfl rfl (by simp [Value.oneCell']) (Nat.le_of_ble_eq_true rfl) rfl fun w3 hb3 hb4 => ?_
    have hu := (hu.trans hu2).but hb3 hu.size
    clear hb2 hb3 hu2 hno
    repeat (first | refine RL.vv ?_ | refine RL.p ?_ | refine RL.nil ?_ | refine Sim.seq ?_ | refine Sim.region ?_ | refine Sim.block ?_ | refine Sim.skip ?_ | refine Sim.inBlock ?_ | refine Sim.exit rfl ?_ | refine Sim.condT rfl ?_ | refine Sim.condF rfl ?_)
    refine Sim.quiet (Up w3) mixed (by kernel_rfl) (Up.drew _) ?_
    repeat (first | refine RQ.vv ?_ | refine RQ.p ?_)
    rcases Bool.eq_false_or_eq_true (named f.name) with hn | hn
    · refine RQ.call trivial rfl (fun wq hq => c_static rfl) (fun wq hq => q_call (c_val (Named_any f.name wq) (by rw [hn])) hq) ?_
      repeat (first | refine RQ.vv ?_ | refine RQ.p ?_)
      refine RQ.call ⟨_, _, rfl, rfl, rfl⟩ rfl (fun wq hq => c_static rfl) (fun wq hq => q_call (Field_any f.name wq (htk.up (hu.trans hq))) hq) ?_
      by_cases hF : 0 ≤ fieldF (t.fields.take i) f.name
      · repeat (first | refine RQ.vv ?_ | refine RQ.p ?_)
        refine RQ.nil fun w4 hq => ?_
        have hu := hu.trans hq
        repeat (first | refine RL.vv ?_ | refine RL.p ?_ | refine RL.nil ?_ | refine Sim.seq ?_ | refine Sim.region ?_ | refine Sim.block ?_ | refine Sim.skip ?_ | refine Sim.inBlock ?_ | refine Sim.exit rfl ?_ | refine Sim.condT rfl ?_ | refine Sim.condF rfl ?_)
        exact Sim.ret1 Try.func111 rfl rfl ⟨by rw [bad 6 (if_neg (fun h => h.2 hF)) (by decide)], hu⟩
      repeat (first | refine RQ.vv ?_ | refine RQ.p ?_)
      refine RQ.nil fun w4 hq => ?_
      have hu := hu.trans hq
      have hb4 := hb4.up hq
      rw [if_pos ⟨hn, hF⟩] at bad good
      by_cases k1 : f.kind < 1
      · repeat (first | refine RL.vv ?_ | refine RL.p ?_ | refine RL.nil ?_ | refine Sim.seq ?_ | refine Sim.region ?_ | refine Sim.block ?_ | refine Sim.skip ?_ | refine Sim.inBlock ?_ | refine Sim.exit rfl ?_ | refine Sim.condT rfl ?_ | refine Sim.condF rfl ?_)
        exact Sim.ret1 Try.func111 rfl rfl ⟨by rw [bad 1 (if_pos (.inl k1)) (by decide)], hu⟩
      by_cases k3 : 3 < f.kind
      · repeat (first | refine RL.vv ?_ | refine RL.p ?_ | refine RL.nil ?_ | refine Sim.seq ?_ | refine Sim.region ?_ | refine Sim.block ?_ | refine Sim.skip ?_ | refine Sim.inBlock ?_ | refine Sim.exit rfl ?_ | refine Sim.condT rfl ?_ | refine Sim.condF rfl ?_)
        exact Sim.ret1 Try.func111 rfl rfl ⟨by rw [bad 1 (if_pos (.inr k3)) (by decide)], hu⟩
      rw [if_neg (by omega)] at bad good
      by_cases kw : f.kind = 1
      · rw [if_pos kw] at bad good
        by_cases ht : f.type = ⟨#[]⟩
        · rw [if_pos ht] at bad good
          repeat (first | refine RL.vv ?_ | refine RL.p ?_ | refine RL.nil ?_ | refine Sim.seq ?_ | refine Sim.region ?_ | refine Sim.block ?_ | refine Sim.skip ?_ | refine Sim.inBlock ?_ | refine Sim.exit rfl ?_ | refine Sim.condT rfl ?_ | refine Sim.condF rfl ?_)
          exact next (i + 1) _ _ ⟨by omega, hu, good rfl⟩ (by omega) sb
        · repeat (first | refine RL.vv ?_ | refine RL.p ?_ | refine RL.nil ?_ | refine Sim.seq ?_ | refine Sim.region ?_ | refine Sim.block ?_ | refine Sim.skip ?_ | refine Sim.inBlock ?_ | refine Sim.exit rfl ?_ | refine Sim.condT rfl ?_ | refine Sim.condF rfl ?_)
          exact Sim.ret1 Try.func111 rfl rfl ⟨by rw [bad 7 (if_neg ht) (by decide)], hu⟩
      · rw [if_neg kw] at bad good
        repeat (first | refine RL.vv ?_ | refine RL.p ?_ | refine RL.nil ?_ | refine Sim.seq ?_ | refine Sim.region ?_ | refine Sim.block ?_ | refine Sim.skip ?_ | refine Sim.inBlock ?_ | refine Sim.exit rfl ?_ | refine Sim.condT rfl ?_ | refine Sim.condF rfl ?_)
        refine RL.call ⟨_, _, rfl, rfl, rfl⟩ rfl (c_static rfl) (Find_any f.type w4 (hl.up hu)) ?_
        rintro _ w5 ⟨rfl, hu5⟩
        have hu := hu.trans hu5
        refine ⟨_, rfl, ?_⟩
        by_cases hT : findT l f.type < 0
        · repeat (first | refine RL.vv ?_ | refine RL.p ?_ | refine RL.nil ?_ | refine Sim.seq ?_ | refine Sim.region ?_ | refine Sim.block ?_ | refine Sim.skip ?_ | refine Sim.inBlock ?_ | refine Sim.exit rfl ?_ | refine Sim.condT rfl ?_ | refine Sim.condF rfl ?_)
          exact Sim.ret1 Try.func111 rfl rfl ⟨by rw [bad 5 (if_pos hT) (by decide)], hu⟩
        · rw [if_neg hT] at bad good
          repeat (first | refine RL.vv ?_ | refine RL.p ?_ | refine RL.nil ?_ | refine Sim.seq ?_ | refine Sim.region ?_ | refine Sim.block ?_ | refine Sim.skip ?_ | refine Sim.inBlock ?_ | refine Sim.exit rfl ?_ | refine Sim.condT rfl ?_ | refine Sim.condF rfl ?_)
          exact next (i + 1) _ _ ⟨by omega, hu, good rfl⟩ (by omega) sb
    · refine RQ.call trivial rfl (fun wq hq => c_static rfl) (fun wq hq => q_call (c_val (Named_any f.name wq) (by rw [hn])) hq) ?_
      repeat (first | refine RQ.vv ?_ | refine RQ.p ?_)
      refine RQ.nil fun w4 hq => ?_
      have hu := hu.trans hq
      repeat (first | refine RL.vv ?_ | refine RL.p ?_ | refine RL.nil ?_ | refine Sim.seq ?_ | refine Sim.region ?_ | refine Sim.block ?_ | refine Sim.skip ?_ | refine Sim.inBlock ?_ | refine Sim.exit rfl ?_ | refine Sim.condT rfl ?_ | refine Sim.condF rfl ?_)
      exact Sim.ret1 Try.func111 rfl rfl ⟨by rw [bad 6 (if_neg (fun h => by rw [hn] at h; cases h.1)) (by decide)], hu⟩
  · repeat (first | refine RL.vv ?_ | refine RL.p ?_ | refine RL.nil ?_ | refine Sim.seq ?_ | refine Sim.region ?_ | refine Sim.block ?_ | refine Sim.skip ?_ | refine Sim.inBlock ?_ | refine Sim.exit rfl ?_ | refine Sim.condT rfl ?_ | refine Sim.condF rfl ?_)
    exact Sim.ret1 Try.func111 rfl rfl ⟨by rw [fieldsErr, if_neg (by omega), firstBad_none (fun j x hxj => hno j x (by have := (List.getElem?_eq_some_iff.1 hxj).1; omega) hxj)], hu⟩
end Go.Proofs.Ytgckpmcdlciibab

namespace Go.Proofs.Ytgckpmcdlciibab
open Go.RowKit

def fltV (f : Flt) : Value := .agg #[.int .i64 f.err, .int .i64 f.at_]
theorem goodTo {α : Type} {g : Nat → α → Int} {l : List α} {i : Nat} {x : α} (hx : l[i]? = some x) (hno : ∀ (j : Nat) y, j < i → l[j]? = some y → g j y = 0) (h0 : g i x = 0) : ∀ (j : Nat) y, j < i + 1 → l[j]? = some y → g j y = 0 := fun j y hj hy => by
  by_cases hji : j = i
  · subst hji; rw [hx] at hy; cases hy; exact h0
  · exact hno j y (by omega) hy
theorem goodAll {α : Type} {g : Nat → α → Int} {l : List α} {i : Nat} (hno : ∀ (j : Nat) y, j < i → l[j]? = some y → g j y = 0) (hi : ¬ i < l.length) : ∀ (j : Nat) y, l[j]? = some y → g j y = 0 := fun j y hy =>
  hno j y (by have := (List.getElem?_eq_some_iff.1 hy).1; omega) hy

set_option maxHeartbeats 1000000 in
theorem Wrong_any {S : Nat → Prop} {v : Value} {l : List Typ} (w : World) (hl : SliceOf typLay S w v l) :
    Calls Try.prog 75 #[v] w fun en w' => en = .returned (fltV (wrongT l)) ∧ Up w w' := by
  refine calls_of_sim Try.func75 rfl (Nat.le_of_ble_eq_true rfl) ?_
  obtain ⟨a, c, rfl, hnc, hcm, hel⟩ := id hl
  unfold maxLen at hcm
  repeat (first | refine RL.vv ?_ | refine RL.p ?_ | refine RL.nil ?_ | refine Sim.seq ?_ | refine Sim.region ?_ | refine Sim.block ?_ | refine Sim.skip ?_ | refine Sim.inBlock ?_ | refine Sim.exit rfl ?_ | refine Sim.condT rfl ?_ | refine Sim.condF rfl ?_)
  refine RL.alloc trivial rfl fun w1 hu hb hsz => ?_
  have hlt0 : w.heap.size < w1.heap.size := by omega
  by_cases hbig : (8 : Int) < l.length
  · repeat (first | refine RL.vv ?_ | refine RL.p ?_ | refine RL.nil ?_ | refine Sim.seq ?_ | refine Sim.region ?_ | refine Sim.block ?_ | refine Sim.skip ?_ | refine Sim.inBlock ?_ | refine Sim.exit rfl ?_ | refine Sim.condT rfl ?_ | refine Sim.condF rfl ?_)
    refine RL.val trivial rfl (y_build (v := .agg #[.int .i64 4, .int .i64 0]) rfl (fun w => by kernel_rfl)) ?_
    refine RL.store trivial rfl rfl hb rfl rfl (by simp [Value.oneCell']) (Nat.le_of_ble_eq_true rfl) rfl fun w2 hb2 hb3 => ?_
    have hu := hu.but hb2 (Nat.le_refl _)
    repeat (first | refine RL.vv ?_ | refine RL.p ?_ | refine RL.nil ?_ | refine Sim.seq ?_ | refine Sim.region ?_ | refine Sim.block ?_ | refine Sim.skip ?_ | refine Sim.inBlock ?_ | refine Sim.exit rfl ?_ | refine Sim.condT rfl ?_ | refine Sim.condF rfl ?_)
    exact Sim.retC Try.func75 rfl rfl hb3.at rfl ⟨by rw [wrongT, if_pos (by omega)]; rfl, hu⟩
  have hw : wrongT l = _ := if_neg (by omega)
  repeat (first | refine RL.vv ?_ | refine RL.p ?_ | refine RL.nil ?_ | refine Sim.seq ?_ | refine Sim.region ?_ | refine Sim.block ?_ | refine Sim.skip ?_ | refine Sim.inBlock ?_ | refine Sim.exit rfl ?_ | refine Sim.condT rfl ?_ | refine Sim.condF rfl ?_)
  refine Sim.loop (σ := Nat) (fun i => [(0, .slice a l.length c), (2, .pointer (some ⟨w.heap.size, 0, none⟩)), (11, .int .i64 (l.length : Int)), (12, .int .i64 (i : Int))]) (fun i w' => i ≤ l.length ∧ Up w w' ∧ Box w' w.heap.size 41 [.int .i64 0, .int .i64 0] ∧ ∀ (j : Nat) x, j < i → l[j]? = some x → nameErr l j x = 0) (fun i => l.length - i) 0 sb ⟨Nat.zero_le _, hu, hb, fun j x hj => absurd hj (Nat.not_lt_zero _)⟩ ?_
  clear hu hb hlt0 hsz w1
  rintro i w1 ⟨hi, hu, hb, hno⟩ next
  by_cases hlt : i < l.length
  · have hx : l[i]? = some l[i] := List.getElem?_eq_getElem hlt
    obtain ⟨b, o, cs, rfl, _, hat, ⟨fv, rfl, _⟩, _⟩ := hl.at hx
    have hat : At w b (o + i * 2) _ := hat
    have htk := (hl.take (i := i) (by omega))
    have bad : nameErr l i l[i] = 6 → wrongT l = ⟨6, i⟩ := fun h => by rw [hw, firstBad_hit hx hno (by rw [h]; decide), h]
    have good := goodTo (g := nameErr l) hx hno
    unfold nameErr at bad good
    generalize l[i] = t at *
    clear hno
    repeat (first | refine RL.vv ?_ | refine RL.p ?_ | refine RL.nil ?_ | refine Sim.seq ?_ | refine Sim.region ?_ | refine Sim.block ?_ | refine Sim.skip ?_ | refine Sim.inBlock ?_ | refine Sim.exit rfl ?_ | refine Sim.condT rfl ?_ | refine Sim.condF rfl ?_)
    refine Sim.quiet (Up w1) mixed (by kernel_rfl) (Up.drew _) ?_
    repeat (first | refine RQ.vv ?_ | refine RQ.p ?_)
    rcases Bool.eq_false_or_eq_true (named t.name) with hn | hn
    · refine RQ.call trivial rfl (fun wq hq => c_static rfl) (fun wq hq => q_call (c_val (Named_any t.name wq) (by rw [hn])) hq) ?_
      repeat (first | refine RQ.vv ?_ | refine RQ.p ?_)
      refine RQ.call ⟨_, _, rfl, rfl, rfl⟩ rfl (fun wq hq => c_static rfl) (fun wq hq => q_call (Find_any t.name wq (htk.up (hu.trans hq))) hq) ?_
      by_cases hF : 0 ≤ findT (l.take i) t.name
      · repeat (first | refine RQ.vv ?_ | refine RQ.p ?_)
        refine RQ.nil fun w4 hq => ?_
        have hu := hu.trans hq
        have hb := hb.up hq
        repeat (first | refine RL.vv ?_ | refine RL.p ?_ | refine RL.nil ?_ | refine Sim.seq ?_ | refine Sim.region ?_ | refine Sim.block ?_ | refine Sim.skip ?_ | refine Sim.inBlock ?_ | refine Sim.exit rfl ?_ | refine Sim.condT rfl ?_ | refine Sim.condF rfl ?_)
        refine RL.val trivial rfl (y_build (v := .agg #[.int .i64 6, .int .i64 (i : Int)]) rfl (fun w => by kernel_rfl)) ?_
        refine RL.store trivial rfl rfl hb rfl rfl (by simp [Value.oneCell']) (Nat.le_of_ble_eq_true rfl) rfl fun w2 hb2 hb3 => ?_
        have hu := hu.but hb2 (Nat.le_refl _)
        repeat (first | refine RL.vv ?_ | refine RL.p ?_ | refine RL.nil ?_ | refine Sim.seq ?_ | refine Sim.region ?_ | refine Sim.block ?_ | refine Sim.skip ?_ | refine Sim.inBlock ?_ | refine Sim.exit rfl ?_ | refine Sim.condT rfl ?_ | refine Sim.condF rfl ?_)
        exact Sim.retC Try.func75 rfl rfl hb3.at rfl ⟨by rw [bad (if_neg (fun h => h.2 hF))]; rfl, hu⟩
      repeat (first | refine RQ.vv ?_ | refine RQ.p ?_)
      refine RQ.nil fun w4 hq => ?_
      repeat (first | refine RL.vv ?_ | refine RL.p ?_ | refine RL.nil ?_ | refine Sim.seq ?_ | refine Sim.region ?_ | refine Sim.block ?_ | refine Sim.skip ?_ | refine Sim.inBlock ?_ | refine Sim.exit rfl ?_ | refine Sim.condT rfl ?_ | refine Sim.condF rfl ?_)
      exact next (i + 1) _ _ ⟨by omega, hu.trans hq, hb.up hq, good (if_pos ⟨hn, hF⟩)⟩ (by omega) sb
    · refine RQ.call trivial rfl (fun wq hq => c_static rfl) (fun wq hq => q_call (c_val (Named_any t.name wq) (by rw [hn])) hq) ?_
      repeat (first | refine RQ.vv ?_ | refine RQ.p ?_)
      refine RQ.nil fun w4 hq => ?_
      have hu := hu.trans hq
      have hb := hb.up hq
      repeat (first | refine RL.vv ?_ | refine RL.p ?_ | refine RL.nil ?_ | refine Sim.seq ?_ | refine Sim.region ?_ | refine Sim.block ?_ | refine Sim.skip ?_ | refine Sim.inBlock ?_ | refine Sim.exit rfl ?_ | refine Sim.condT rfl ?_ | refine Sim.condF rfl ?_)
      refine RL.val trivial rfl (y_build (v := .agg #[.int .i64 6, .int .i64 (i : Int)]) rfl (fun w => by kernel_rfl)) ?_
      refine RL.store trivial rfl rfl hb rfl rfl (by simp [Value.oneCell']) (Nat.le_of_ble_eq_true rfl) rfl fun w2 hb2 hb3 => ?_
      have hu := hu.but hb2 (Nat.le_refl _)
      repeat (first | refine RL.vv ?_ | refine RL.p ?_ | refine RL.nil ?_ | refine Sim.seq ?_ | refine Sim.region ?_ | refine Sim.block ?_ | refine Sim.skip ?_ | refine Sim.inBlock ?_ | refine Sim.exit rfl ?_ | refine Sim.condT rfl ?_ | refine Sim.condF rfl ?_)
      exact Sim.retC Try.func75 rfl rfl hb3.at rfl ⟨by rw [bad (if_neg (fun h => by rw [hn] at h; cases h.1))]; rfl, hu⟩
  clear next
  rw [firstBad_none (goodAll hno hlt)] at hw
  clear hno hi
  simp only at hw
  repeat (first | refine RL.vv ?_ | refine RL.p ?_ | refine RL.nil ?_ | refine Sim.seq ?_ | refine Sim.region ?_ | refine Sim.block ?_ | refine Sim.skip ?_ | refine Sim.inBlock ?_ | refine Sim.exit rfl ?_ | refine Sim.condT rfl ?_ | refine Sim.condF rfl ?_)
  clear hlt
  refine Sim.loop (σ := Nat) (fun i => [(0, .slice a l.length c), (2, .pointer (some ⟨w.heap.size, 0, none⟩)), (38, .int .i64 (l.length : Int)), (39, .int .i64 (i : Int))]) (fun i w' => i ≤ l.length ∧ Up w w' ∧ Box w' w.heap.size 41 [.int .i64 0, .int .i64 0] ∧ ∀ (j : Nat) x, j < i → l[j]? = some x → (fun _ t => fieldsErr l t) j x = 0) (fun i => l.length - i) 0 sb ⟨Nat.zero_le _, hu, hb, fun j x hj => absurd hj (Nat.not_lt_zero _)⟩ ?_
  clear hu hb w1
  rintro i w1 ⟨hi, hu, hb, hno⟩ next
  by_cases hlt : i < l.length
  · have hx : l[i]? = some l[i] := List.getElem?_eq_getElem hlt
    obtain ⟨b, o, cs, rfl, _, hat, ⟨fv, rfl, hfv⟩, _⟩ := hl.at hx
    have hat : At w b (o + i * 2) _ := hat
    have bad : fieldsErr l l[i] ≠ 0 → wrongT l = ⟨fieldsErr l l[i], i⟩ := fun h => by rw [hw, firstBad_hit hx hno h]
    have good := goodTo (g := fun _ t => fieldsErr l t) hx hno
    generalize l[i] = t at *
    clear hno
    repeat (first | refine RL.vv ?_ | refine RL.p ?_ | refine RL.nil ?_ | refine Sim.seq ?_ | refine Sim.region ?_ | refine Sim.block ?_ | refine Sim.skip ?_ | refine Sim.inBlock ?_ | refine Sim.exit rfl ?_ | refine Sim.condT rfl ?_ | refine Sim.condF rfl ?_)
    refine RL.call trivial rfl (c_static rfl) (fields_any w1 (hl.up hu) (hat.up hu) (hfv.up hu)) ?_
    rintro _ w2 ⟨rfl, hu2⟩
    refine ⟨_, rfl, ?_⟩
    have hu := hu.trans hu2
    have hb := hb.up hu2
    by_cases h0 : fieldsErr l t = 0
    · repeat (first | refine RL.vv ?_ | refine RL.p ?_ | refine RL.nil ?_ | refine Sim.seq ?_ | refine Sim.region ?_ | refine Sim.block ?_ | refine Sim.skip ?_ | refine Sim.inBlock ?_ | refine Sim.exit rfl ?_ | refine Sim.condT rfl ?_ | refine Sim.condF rfl ?_)
      exact next (i + 1) _ _ ⟨by omega, hu, hb, good h0⟩ (by omega) sb
    · repeat (first | refine RL.vv ?_ | refine RL.p ?_ | refine RL.nil ?_ | refine Sim.seq ?_ | refine Sim.region ?_ | refine Sim.block ?_ | refine Sim.skip ?_ | refine Sim.inBlock ?_ | refine Sim.exit rfl ?_ | refine Sim.condT rfl ?_ | refine Sim.condF rfl ?_)
      refine RL.val trivial rfl (y_build (v := .agg #[.int .i64 (fieldsErr l t), .int .i64 (i : Int)]) rfl (fun w => by kernel_rfl)) ?_
      refine RL.store trivial rfl rfl hb rfl rfl (by simp [Value.oneCell']) (Nat.le_of_ble_eq_true rfl) rfl fun w2 hb2 hb3 => ?_
      have hu := hu.but hb2 (Nat.le_refl _)
      repeat (first | refine RL.vv ?_ | refine RL.p ?_ | refine RL.nil ?_ | refine Sim.seq ?_ | refine Sim.region ?_ | refine Sim.block ?_ | refine Sim.skip ?_ | refine Sim.inBlock ?_ | refine Sim.exit rfl ?_ | refine Sim.condT rfl ?_ | refine Sim.condF rfl ?_)
      exact Sim.retC Try.func75 rfl rfl hb3.at rfl ⟨by rw [bad h0]; rfl, hu⟩
  clear next
  rw [firstBad_none (goodAll hno hlt)] at hw
  repeat (first | refine RL.vv ?_ | refine RL.p ?_ | refine RL.nil ?_ | refine Sim.seq ?_ | refine Sim.region ?_ | refine Sim.block ?_ | refine Sim.skip ?_ | refine Sim.inBlock ?_ | refine Sim.exit rfl ?_ | refine Sim.condT rfl ?_ | refine Sim.condF rfl ?_)
  refine RL.val trivial rfl (y_build (v := .agg #[.int .i64 0, .int .i64 0]) rfl (fun w => by kernel_rfl)) ?_
  refine RL.store trivial rfl rfl hb rfl rfl (by simp [Value.oneCell']) (Nat.le_of_ble_eq_true rfl) rfl fun w2 hb2 hb3 => ?_
  have hu := hu.but hb2 (Nat.le_refl _)
  repeat (first | refine RL.vv ?_ | refine RL.p ?_ | refine RL.nil ?_ | refine Sim.seq ?_ | refine Sim.region ?_ | refine Sim.block ?_ | refine Sim.skip ?_ | refine Sim.inBlock ?_ | refine Sim.exit rfl ?_ | refine Sim.condT rfl ?_ | refine Sim.condF rfl ?_)
  exact Sim.retC Try.func75 rfl rfl hb3.at rfl ⟨by rw [hw]; rfl, hu⟩
end Go.Proofs.Ytgckpmcdlciibab
