/- Several texts in one:  -/
import Derived.Test.YtgckpmcdlciibabZB
import Derived.Test.YtgckpmcdlciibabZP
namespace Go.Proofs.Ytgckpmcdlciibab
open Go.RowKit

set_option maxHeartbeats 400000 in
theorem IndexFunc_Type {g : FuncId} [Fun Try.prog g] {caps : Array Value} {sv : Value} {n : Nat} {cells : Nat → List Value} {p : Nat → Bool} {w : World} (hs : Elems 2 w sv n cells)
    (hp : ∀ i, i < n → ∀ w', Up w w' → Calls Try.prog g (#[.agg (cells i).toArray] ++ caps) w' fun en w'' => en = .returned (.bool (p i)) ∧ Up w' w'') :
    Calls Try.prog 125 #[sv, .func (.func g) #[] caps] w fun en w' => en = .returned (.int .i64 (idx p n)) ∧ Up w w' := by
  obtain ⟨a, c, rfl, hnc, hcm, hel⟩ := hs
  unfold maxLen at hcm
  refine calls_of_sim Try.func125 rfl (Nat.le_of_ble_eq_true rfl) ?_
  repeat (first | refine RL.vv ?_ | refine RL.p ?_ | refine RL.nil ?_ | refine Sim.seq ?_ | refine Sim.region ?_ | refine Sim.block ?_ | refine Sim.skip ?_ | refine Sim.inBlock ?_ | refine Sim.exit rfl ?_ | refine Sim.condT rfl ?_ | refine Sim.condF rfl ?_)
  refine Sim.loop (σ := Nat) (fun i => [(0, .slice a n c), (1, .func (.func g) #[] caps), (6, .slice a n c), (7, .int .i64 (n : Int)), (8, .int .i64 (i : Int))]) (fun i w' => i ≤ n ∧ Up w w' ∧ ∀ j, j < i → p j = false) (fun i => n - i) 0 sb ⟨Nat.zero_le _, Up.refl _, fun j hj => absurd hj (Nat.not_lt_zero _)⟩ ?_
  rintro i w1 ⟨hi, hu, hno⟩ next
  by_cases hlt : i < n
  · obtain ⟨b, o, rfl, hc⟩ := hel (by omega)
    obtain ⟨hk, hcell⟩ := hc i hlt
    have hcell := hcell.up hu
    repeat (first | refine RL.vv ?_ | refine RL.p ?_ | refine RL.nil ?_ | refine Sim.seq ?_ | refine Sim.region ?_ | refine Sim.block ?_ | refine Sim.skip ?_ | refine Sim.inBlock ?_ | refine Sim.exit rfl ?_ | refine Sim.condT rfl ?_ | refine Sim.condF rfl ?_)
    refine RL.call trivial rfl (c_closure rfl rfl) (hp i hlt w1 hu) ?_
    rintro _ w2 ⟨rfl, hu2⟩
    refine ⟨_, rfl, ?_⟩
    refine RL.nil ?_
    refine Sim.cond rfl (fun ht => ?_) (fun hf => ?_)
    · repeat (first | refine RL.vv ?_ | refine RL.p ?_ | refine RL.nil ?_ | refine Sim.seq ?_ | refine Sim.region ?_ | refine Sim.block ?_ | refine Sim.skip ?_ | refine Sim.inBlock ?_ | refine Sim.exit rfl ?_ | refine Sim.condT rfl ?_ | refine Sim.condF rfl ?_)
      exact Sim.ret1 Try.func125 rfl rfl ⟨by rw [idx_hit hlt ht hno], hu.trans hu2⟩
    · repeat (first | refine RL.vv ?_ | refine RL.p ?_ | refine RL.nil ?_ | refine Sim.seq ?_ | refine Sim.region ?_ | refine Sim.block ?_ | refine Sim.skip ?_ | refine Sim.inBlock ?_ | refine Sim.exit rfl ?_ | refine Sim.condT rfl ?_ | refine Sim.condF rfl ?_)
      refine next (i + 1) w2 _ ⟨by omega, hu.trans hu2, fun j hj => ?_⟩ (by omega) sb
      by_cases hji : j = i
      · subst hji; exact hf
      · exact hno j (by omega)
  · repeat (first | refine RL.vv ?_ | refine RL.p ?_ | refine RL.nil ?_ | refine Sim.seq ?_ | refine Sim.region ?_ | refine Sim.block ?_ | refine Sim.skip ?_ | refine Sim.inBlock ?_ | refine Sim.exit rfl ?_ | refine Sim.condT rfl ?_ | refine Sim.condF rfl ?_)
    exact Sim.ret1 Try.func125 rfl rfl ⟨by rw [idx_miss (fun j hj => hno j (by omega))], hu⟩
set_option maxHeartbeats 400000 in
theorem IndexFunc_Field {g : FuncId} [Fun Try.prog g] {caps : Array Value} {sv : Value} {n : Nat} {cells : Nat → List Value} {p : Nat → Bool} {w : World} (hs : Elems 3 w sv n cells)
    (hp : ∀ i, i < n → ∀ w', Up w w' → Calls Try.prog g (#[.agg (cells i).toArray] ++ caps) w' fun en w'' => en = .returned (.bool (p i)) ∧ Up w' w'') :
    Calls Try.prog 73 #[sv, .func (.func g) #[] caps] w fun en w' => en = .returned (.int .i64 (idx p n)) ∧ Up w w' := by
  obtain ⟨a, c, rfl, hnc, hcm, hel⟩ := hs
  unfold maxLen at hcm
  refine calls_of_sim Try.func73 rfl (Nat.le_of_ble_eq_true rfl) ?_
  repeat (first | refine RL.vv ?_ | refine RL.p ?_ | refine RL.nil ?_ | refine Sim.seq ?_ | refine Sim.region ?_ | refine Sim.block ?_ | refine Sim.skip ?_ | refine Sim.inBlock ?_ | refine Sim.exit rfl ?_ | refine Sim.condT rfl ?_ | refine Sim.condF rfl ?_)
  refine Sim.loop (σ := Nat) (fun i => [(0, .slice a n c), (1, .func (.func g) #[] caps), (6, .slice a n c), (7, .int .i64 (n : Int)), (8, .int .i64 (i : Int))]) (fun i w' => i ≤ n ∧ Up w w' ∧ ∀ j, j < i → p j = false) (fun i => n - i) 0 sb ⟨Nat.zero_le _, Up.refl _, fun j hj => absurd hj (Nat.not_lt_zero _)⟩ ?_
  rintro i w1 ⟨hi, hu, hno⟩ next
  by_cases hlt : i < n
  · obtain ⟨b, o, rfl, hc⟩ := hel (by omega)
    obtain ⟨hk, hcell⟩ := hc i hlt
    have hcell := hcell.up hu
    repeat (first | refine RL.vv ?_ | refine RL.p ?_ | refine RL.nil ?_ | refine Sim.seq ?_ | refine Sim.region ?_ | refine Sim.block ?_ | refine Sim.skip ?_ | refine Sim.inBlock ?_ | refine Sim.exit rfl ?_ | refine Sim.condT rfl ?_ | refine Sim.condF rfl ?_)
    refine RL.call trivial rfl (c_closure rfl rfl) (hp i hlt w1 hu) ?_
    rintro _ w2 ⟨rfl, hu2⟩
    refine ⟨_, rfl, ?_⟩
    refine RL.nil ?_
    refine Sim.cond rfl (fun ht => ?_) (fun hf => ?_)
    · repeat (first | refine RL.vv ?_ | refine RL.p ?_ | refine RL.nil ?_ | refine Sim.seq ?_ | refine Sim.region ?_ | refine Sim.block ?_ | refine Sim.skip ?_ | refine Sim.inBlock ?_ | refine Sim.exit rfl ?_ | refine Sim.condT rfl ?_ | refine Sim.condF rfl ?_)
      exact Sim.ret1 Try.func73 rfl rfl ⟨by rw [idx_hit hlt ht hno], hu.trans hu2⟩
    · repeat (first | refine RL.vv ?_ | refine RL.p ?_ | refine RL.nil ?_ | refine Sim.seq ?_ | refine Sim.region ?_ | refine Sim.block ?_ | refine Sim.skip ?_ | refine Sim.inBlock ?_ | refine Sim.exit rfl ?_ | refine Sim.condT rfl ?_ | refine Sim.condF rfl ?_)
      refine next (i + 1) w2 _ ⟨by omega, hu.trans hu2, fun j hj => ?_⟩ (by omega) sb
      by_cases hji : j = i
      · subst hji; exact hf
      · exact hno j (by omega)
  · repeat (first | refine RL.vv ?_ | refine RL.p ?_ | refine RL.nil ?_ | refine Sim.seq ?_ | refine Sim.region ?_ | refine Sim.block ?_ | refine Sim.skip ?_ | refine Sim.inBlock ?_ | refine Sim.exit rfl ?_ | refine Sim.condT rfl ?_ | refine Sim.condF rfl ?_)
    exact Sim.ret1 Try.func73 rfl rfl ⟨by rw [idx_miss (fun j hj => hno j (by omega))], hu⟩
set_option maxHeartbeats 400000 in
theorem IndexFunc_Part {g : FuncId} [Fun Try.prog g] {caps : Array Value} {sv : Value} {n : Nat} {cells : Nat → List Value} {p : Nat → Bool} {w : World} (hs : Elems 4 w sv n cells)
    (hp : ∀ i, i < n → ∀ w', Up w w' → Calls Try.prog g (#[.agg (cells i).toArray] ++ caps) w' fun en w'' => en = .returned (.bool (p i)) ∧ Up w' w'') :
    Calls Try.prog 70 #[sv, .func (.func g) #[] caps] w fun en w' => en = .returned (.int .i64 (idx p n)) ∧ Up w w' := by
  obtain ⟨a, c, rfl, hnc, hcm, hel⟩ := hs
  unfold maxLen at hcm
  refine calls_of_sim Try.func70 rfl (Nat.le_of_ble_eq_true rfl) ?_
  repeat (first | refine RL.vv ?_ | refine RL.p ?_ | refine RL.nil ?_ | refine Sim.seq ?_ | refine Sim.region ?_ | refine Sim.block ?_ | refine Sim.skip ?_ | refine Sim.inBlock ?_ | refine Sim.exit rfl ?_ | refine Sim.condT rfl ?_ | refine Sim.condF rfl ?_)
  refine Sim.loop (σ := Nat) (fun i => [(0, .slice a n c), (1, .func (.func g) #[] caps), (6, .slice a n c), (7, .int .i64 (n : Int)), (8, .int .i64 (i : Int))]) (fun i w' => i ≤ n ∧ Up w w' ∧ ∀ j, j < i → p j = false) (fun i => n - i) 0 sb ⟨Nat.zero_le _, Up.refl _, fun j hj => absurd hj (Nat.not_lt_zero _)⟩ ?_
  rintro i w1 ⟨hi, hu, hno⟩ next
  by_cases hlt : i < n
  · obtain ⟨b, o, rfl, hc⟩ := hel (by omega)
    obtain ⟨hk, hcell⟩ := hc i hlt
    have hcell := hcell.up hu
    repeat (first | refine RL.vv ?_ | refine RL.p ?_ | refine RL.nil ?_ | refine Sim.seq ?_ | refine Sim.region ?_ | refine Sim.block ?_ | refine Sim.skip ?_ | refine Sim.inBlock ?_ | refine Sim.exit rfl ?_ | refine Sim.condT rfl ?_ | refine Sim.condF rfl ?_)
    refine RL.call trivial rfl (c_closure rfl rfl) (hp i hlt w1 hu) ?_
    rintro _ w2 ⟨rfl, hu2⟩
    refine ⟨_, rfl, ?_⟩
    refine RL.nil ?_
    refine Sim.cond rfl (fun ht => ?_) (fun hf => ?_)
    · repeat (first | refine RL.vv ?_ | refine RL.p ?_ | refine RL.nil ?_ | refine Sim.seq ?_ | refine Sim.region ?_ | refine Sim.block ?_ | refine Sim.skip ?_ | refine Sim.inBlock ?_ | refine Sim.exit rfl ?_ | refine Sim.condT rfl ?_ | refine Sim.condF rfl ?_)
      exact Sim.ret1 Try.func70 rfl rfl ⟨by rw [idx_hit hlt ht hno], hu.trans hu2⟩
    · repeat (first | refine RL.vv ?_ | refine RL.p ?_ | refine RL.nil ?_ | refine Sim.seq ?_ | refine Sim.region ?_ | refine Sim.block ?_ | refine Sim.skip ?_ | refine Sim.inBlock ?_ | refine Sim.exit rfl ?_ | refine Sim.condT rfl ?_ | refine Sim.condF rfl ?_)
      refine next (i + 1) w2 _ ⟨by omega, hu.trans hu2, fun j hj => ?_⟩ (by omega) sb
      by_cases hji : j = i
      · subst hji; exact hf
      · exact hno j (by omega)
  · repeat (first | refine RL.vv ?_ | refine RL.p ?_ | refine RL.nil ?_ | refine Sim.seq ?_ | refine Sim.region ?_ | refine Sim.block ?_ | refine Sim.skip ?_ | refine Sim.inBlock ?_ | refine Sim.exit rfl ?_ | refine Sim.condT rfl ?_ | refine Sim.condF rfl ?_)
    exact Sim.ret1 Try.func70 rfl rfl ⟨by rw [idx_miss (fun j hj => hno j (by omega))], hu⟩
set_option maxHeartbeats 400000 in
theorem IndexFunc_Pick {g : FuncId} [Fun Try.prog g] {caps : Array Value} {sv : Value} {n : Nat} {cells : Nat → List Value} {p : Nat → Bool} {w : World} (hs : Elems 3 w sv n cells)
    (hp : ∀ i, i < n → ∀ w', Up w w' → Calls Try.prog g (#[.agg (cells i).toArray] ++ caps) w' fun en w'' => en = .returned (.bool (p i)) ∧ Up w' w'') :
    Calls Try.prog 124 #[sv, .func (.func g) #[] caps] w fun en w' => en = .returned (.int .i64 (idx p n)) ∧ Up w w' := by
  obtain ⟨a, c, rfl, hnc, hcm, hel⟩ := hs
  unfold maxLen at hcm
  refine calls_of_sim Try.func124 rfl (Nat.le_of_ble_eq_true rfl) ?_
  repeat (first | refine RL.vv ?_ | refine RL.p ?_ | refine RL.nil ?_ | refine Sim.seq ?_ | refine Sim.region ?_ | refine Sim.block ?_ | refine Sim.skip ?_ | refine Sim.inBlock ?_ | refine Sim.exit rfl ?_ | refine Sim.condT rfl ?_ | refine Sim.condF rfl ?_)
  refine Sim.loop (σ := Nat) (fun i => [(0, .slice a n c), (1, .func (.func g) #[] caps), (6, .slice a n c), (7, .int .i64 (n : Int)), (8, .int .i64 (i : Int))]) (fun i w' => i ≤ n ∧ Up w w' ∧ ∀ j, j < i → p j = false) (fun i => n - i) 0 sb ⟨Nat.zero_le _, Up.refl _, fun j hj => absurd hj (Nat.not_lt_zero _)⟩ ?_
  rintro i w1 ⟨hi, hu, hno⟩ next
  by_cases hlt : i < n
  · obtain ⟨b, o, rfl, hc⟩ := hel (by omega)
    obtain ⟨hk, hcell⟩ := hc i hlt
    have hcell := hcell.up hu
    repeat (first | refine RL.vv ?_ | refine RL.p ?_ | refine RL.nil ?_ | refine Sim.seq ?_ | refine Sim.region ?_ | refine Sim.block ?_ | refine Sim.skip ?_ | refine Sim.inBlock ?_ | refine Sim.exit rfl ?_ | refine Sim.condT rfl ?_ | refine Sim.condF rfl ?_)
    refine RL.call trivial rfl (c_closure rfl rfl) (hp i hlt w1 hu) ?_
    rintro _ w2 ⟨rfl, hu2⟩
    refine ⟨_, rfl, ?_⟩
    refine RL.nil ?_
    refine Sim.cond rfl (fun ht => ?_) (fun hf => ?_)
    · repeat (first | refine RL.vv ?_ | refine RL.p ?_ | refine RL.nil ?_ | refine Sim.seq ?_ | refine Sim.region ?_ | refine Sim.block ?_ | refine Sim.skip ?_ | refine Sim.inBlock ?_ | refine Sim.exit rfl ?_ | refine Sim.condT rfl ?_ | refine Sim.condF rfl ?_)
      exact Sim.ret1 Try.func124 rfl rfl ⟨by rw [idx_hit hlt ht hno], hu.trans hu2⟩
    · repeat (first | refine RL.vv ?_ | refine RL.p ?_ | refine RL.nil ?_ | refine Sim.seq ?_ | refine Sim.region ?_ | refine Sim.block ?_ | refine Sim.skip ?_ | refine Sim.inBlock ?_ | refine Sim.exit rfl ?_ | refine Sim.condT rfl ?_ | refine Sim.condF rfl ?_)
      refine next (i + 1) w2 _ ⟨by omega, hu.trans hu2, fun j hj => ?_⟩ (by omega) sb
      by_cases hji : j = i
      · subst hji; exact hf
      · exact hno j (by omega)
  · repeat (first | refine RL.vv ?_ | refine RL.p ?_ | refine RL.nil ?_ | refine Sim.seq ?_ | refine Sim.region ?_ | refine Sim.block ?_ | refine Sim.skip ?_ | refine Sim.inBlock ?_ | refine Sim.exit rfl ?_ | refine Sim.condT rfl ?_ | refine Sim.condF rfl ?_)
    exact Sim.ret1 Try.func124 rfl rfl ⟨by rw [idx_miss (fun j hj => hno j (by omega))], hu⟩
end Go.Proofs.Ytgckpmcdlciibab

namespace Go.Proofs.Ytgckpmcdlciibab
open Go.RowKit

theorem Keep.trans {S : Nat → Prop} {a b c : World} (h : Keep S a b) (hs : a.heap.size ≤ b.heap.size) (k : Keep S b c) : Keep S a c := fun i hi hlt => (k i hi (by omega)).trans (h i hi hlt)

theorem namedTo_mono {s : Str} {m n : Nat} (h : namedTo s n) (hmn : m ≤ n) : namedTo s m := fun i c hi hc => h i c (by omega) hc
theorem namedTo_succ {s : Str} {n : Nat} {c : UInt8} (h : namedTo s n) (hc : s[n]? = some c) (ho : okc n c = true) : namedTo s (n + 1) := fun i d hi hd => by
  by_cases he : i = n
  · subst he; rw [hc] at hd; cases hd; exact ho
  · exact h i d (by omega) hd
theorem okc_t1 {i : Nat} {c : UInt8} (h1 : ¬ (c.toNat : Int) < 97) (h2 : ¬ (122 : Int) < c.toNat) : okc i c = true := by
  simp [okc]; omega
theorem okc_t2 {i : Nat} {c : UInt8} (h0 : ¬ (i : Int) = 0) (h1 : ¬ (c.toNat : Int) < 48) (h2 : ¬ (57 : Int) < c.toNat) : okc i c = true := by
  simp [okc]; omega
theorem okc_f {i : Nat} {c : UInt8} (h : (c.toNat : Int) < 97 ∨ (122 : Int) < c.toNat) (h' : (i : Int) = 0 ∨ (c.toNat : Int) < 48 ∨ (57 : Int) < c.toNat) : okc i c = false := by
  rw [← Bool.not_eq_true]
  simp [okc]; omega
theorem not_named_size {s : Str} (h : ¬ (1 ≤ s.size ∧ s.size ≤ 12)) : named s = false := not_named_of (fun hn => h ⟨hn.1, hn.2.1⟩)
theorem not_named_at {s : Str} {i : Nat} {c : UInt8} (hc : s[i]? = some c) (hi : i < s.size) (ho : okc i c = false) : named s = false :=
  not_named_of (fun hn => by have := hn.2.2 i c hi hc; rw [ho] at this; cases this)

set_option maxHeartbeats 1000000 in
theorem Named_any (s : Str) (w : World) : Calls Try.prog 56 #[.string s] w fun en w' => en = .returned (.bool (named s)) ∧ Up w w' := by
  refine calls_of_sim Try.func56 rfl (Nat.le_of_ble_eq_true rfl) ?_
  by_cases h1 : (s.size : Int) < 1
  · repeat (first | refine RL.vv ?_ | refine RL.p ?_ | refine RL.nil ?_ | refine Sim.seq ?_ | refine Sim.region ?_ | refine Sim.block ?_ | refine Sim.skip ?_ | refine Sim.inBlock ?_ | refine Sim.exit rfl ?_ | refine Sim.condT rfl ?_ | refine Sim.condF rfl ?_)
    exact Sim.ret1 Try.func56 rfl rfl ⟨by rw [not_named_size (by omega)], Up.refl _⟩
  by_cases h2 : (12 : Int) < s.size
  · repeat (first | refine RL.vv ?_ | refine RL.p ?_ | refine RL.nil ?_ | refine Sim.seq ?_ | refine Sim.region ?_ | refine Sim.block ?_ | refine Sim.skip ?_ | refine Sim.inBlock ?_ | refine Sim.exit rfl ?_ | refine Sim.condT rfl ?_ | refine Sim.condF rfl ?_)
    exact Sim.ret1 Try.func56 rfl rfl ⟨by rw [not_named_size (by omega)], Up.refl _⟩
  repeat (first | refine RL.vv ?_ | refine RL.p ?_ | refine RL.nil ?_ | refine Sim.seq ?_ | refine Sim.region ?_ | refine Sim.block ?_ | refine Sim.skip ?_ | refine Sim.inBlock ?_ | refine Sim.exit rfl ?_ | refine Sim.condT rfl ?_ | refine Sim.condF rfl ?_)
  refine Sim.loop (σ := Nat) (fun i => [(0, .string s), (14, .int .i64 (s.size : Int)), (15, .int .i64 (i : Int))]) (fun i w' => i ≤ s.size ∧ w' = w ∧ namedTo s i) (fun i => s.size - i) 0 sb ⟨Nat.zero_le _, rfl, fun j c hj => absurd hj (Nat.not_lt_zero _)⟩ ?_
  rintro i w1 ⟨hi, rfl, hno⟩ next
  by_cases hlt : i < s.size
  · obtain ⟨c, hc⟩ := str_get? s i hlt
    have go : okc i c = true → ∀ e', Env.Sub [(0, .string s), (14, .int .i64 (s.size : Int)), (15, .int .i64 ((i + 1 : Nat) : Int))] e' → Sim Try.prog 56 _ _ e' w1 _ :=
      fun ho e' hs => next (i + 1) w1 e' ⟨by omega, rfl, namedTo_succ hno hc ho⟩ (by omega) hs
    clear next
    by_cases c1 : (c.toNat : Int) < 97
    · by_cases c3 : (i : Int) = 0
      · repeat (first | refine RL.vv ?_ | refine RL.p ?_ | refine RL.nil ?_ | refine Sim.seq ?_ | refine Sim.region ?_ | refine Sim.block ?_ | refine Sim.skip ?_ | refine Sim.inBlock ?_ | refine Sim.exit rfl ?_ | refine Sim.condT rfl ?_ | refine Sim.condF rfl ?_)
        exact Sim.ret1 Try.func56 rfl rfl ⟨by rw [not_named_at hc hlt (okc_f (.inl c1) (.inl c3))], Up.refl _⟩
      by_cases c4 : (c.toNat : Int) < 48
      · repeat (first | refine RL.vv ?_ | refine RL.p ?_ | refine RL.nil ?_ | refine Sim.seq ?_ | refine Sim.region ?_ | refine Sim.block ?_ | refine Sim.skip ?_ | refine Sim.inBlock ?_ | refine Sim.exit rfl ?_ | refine Sim.condT rfl ?_ | refine Sim.condF rfl ?_)
        exact Sim.ret1 Try.func56 rfl rfl ⟨by rw [not_named_at hc hlt (okc_f (.inl c1) (.inr (.inl c4)))], Up.refl _⟩
      by_cases c5 : (57 : Int) < c.toNat
      · repeat (first | refine RL.vv ?_ | refine RL.p ?_ | refine RL.nil ?_ | refine Sim.seq ?_ | refine Sim.region ?_ | refine Sim.block ?_ | refine Sim.skip ?_ | refine Sim.inBlock ?_ | refine Sim.exit rfl ?_ | refine Sim.condT rfl ?_ | refine Sim.condF rfl ?_)
        exact Sim.ret1 Try.func56 rfl rfl ⟨by rw [not_named_at hc hlt (okc_f (.inl c1) (.inr (.inr c5)))], Up.refl _⟩
      · repeat (first | refine RL.vv ?_ | refine RL.p ?_ | refine RL.nil ?_ | refine Sim.seq ?_ | refine Sim.region ?_ | refine Sim.block ?_ | refine Sim.skip ?_ | refine Sim.inBlock ?_ | refine Sim.exit rfl ?_ | refine Sim.condT rfl ?_ | refine Sim.condF rfl ?_)
        exact go (okc_t2 c3 c4 c5) _ sb
    by_cases c2 : (122 : Int) < c.toNat
    · by_cases c3 : (i : Int) = 0
      · repeat (first | refine RL.vv ?_ | refine RL.p ?_ | refine RL.nil ?_ | refine Sim.seq ?_ | refine Sim.region ?_ | refine Sim.block ?_ | refine Sim.skip ?_ | refine Sim.inBlock ?_ | refine Sim.exit rfl ?_ | refine Sim.condT rfl ?_ | refine Sim.condF rfl ?_)
        exact Sim.ret1 Try.func56 rfl rfl ⟨by rw [not_named_at hc hlt (okc_f (.inr c2) (.inl c3))], Up.refl _⟩
      have c5 : (57 : Int) < c.toNat := by omega
      · repeat (first | refine RL.vv ?_ | refine RL.p ?_ | refine RL.nil ?_ | refine Sim.seq ?_ | refine Sim.region ?_ | refine Sim.block ?_ | refine Sim.skip ?_ | refine Sim.inBlock ?_ | refine Sim.exit rfl ?_ | refine Sim.condT rfl ?_ | refine Sim.condF rfl ?_)
        exact Sim.ret1 Try.func56 rfl rfl ⟨by rw [not_named_at hc hlt (okc_f (.inr c2) (.inr (.inr c5)))], Up.refl _⟩
    · repeat (first | refine RL.vv ?_ | refine RL.p ?_ | refine RL.nil ?_ | refine Sim.seq ?_ | refine Sim.region ?_ | refine Sim.block ?_ | refine Sim.skip ?_ | refine Sim.inBlock ?_ | refine Sim.exit rfl ?_ | refine Sim.condT rfl ?_ | refine Sim.condF rfl ?_)
      exact go (okc_t1 c1 c2) _ sb
  · repeat (first | refine RL.vv ?_ | refine RL.p ?_ | refine RL.nil ?_ | refine Sim.seq ?_ | refine Sim.region ?_ | refine Sim.block ?_ | refine Sim.skip ?_ | refine Sim.inBlock ?_ | refine Sim.exit rfl ?_ | refine Sim.condT rfl ?_ | refine Sim.condF rfl ?_)
    exact Sim.ret1 Try.func56 rfl rfl ⟨by rw [named_of ⟨by omega, by omega, namedTo_mono hno (by omega)⟩], Up.refl _⟩
end Go.Proofs.Ytgckpmcdlciibab

namespace Go.Proofs.Ytgckpmcdlciibab
open Go.RowKit
/-- what IndexFunc's index is, of a list -/
theorem idx_firstIdx {α : Type} (l : List α) (q : α → Bool) (p : Nat → Bool) (h : ∀ (i : Nat) x, l[i]? = some x → p i = q x) : idx p l.length = firstIdx l q := by
  by_cases hex : 0 ≤ firstIdx l q
  · obtain ⟨i, x, hi, hx, hq, hlt⟩ := firstIdx_lt hex
    rw [hi]
    refine idx_hit hlt (by rw [h i x hx]; exact hq) fun j hj => ?_
    have hj' : j < l.length := by omega
    rw [h j l[j] (List.getElem?_eq_getElem hj')]
    cases hqj : q l[j] with
    | false => rfl
    | true =>
      exfalso
      have : firstIdx l q ≤ j := by
        unfold firstIdx at hi ⊢
        cases hf : l.findIdx? q with
        | none => simp [hf] at hi
        | some k =>
          obtain ⟨hk, _, hmin⟩ := List.findIdx?_eq_some_iff_getElem.1 hf
          simp only [Int.ofNat_le]
          by_cases hkj : k ≤ j
          · exact hkj
          · have := hmin j (by omega)
            rw [hqj] at this
            simp at this
      omega
  · rw [firstIdx_neg hex]
    refine idx_miss fun j hj => ?_
    rw [h j l[j] (List.getElem?_eq_getElem hj)]
    cases hqj : q l[j] with
    | false => rfl
    | true => exact absurd (firstIdx_nonneg_iff.2 (List.any_eq_true.2 ⟨_, List.getElem_mem hj, hqj⟩)) hex

set_option maxHeartbeats 400000 in
theorem Field1_any (nm nm2 ty : ByteArray) (k : Int) (b : Nat) (w : World) (hb : At w b 0 [.string nm2]) :
    Calls Try.prog 74 #[.agg #[.string nm, .int .i64 k, .string ty], .pointer (some ⟨b, 0, none⟩)] w fun en w' => en = .returned (.bool (decide (nm = nm2))) ∧ Up w w' := by
  refine calls_of_sim Try.func74 rfl (Nat.le_of_ble_eq_true rfl) ?_
  repeat (first | refine RL.vv ?_ | refine RL.p ?_ | refine RL.nil ?_ | refine Sim.seq ?_ | refine Sim.region ?_ | refine Sim.block ?_ | refine Sim.skip ?_ | refine Sim.inBlock ?_ | refine Sim.exit rfl ?_ | refine Sim.condT rfl ?_ | refine Sim.condF rfl ?_)
  refine RL.eff trivial rfl (e_box rfl) ?_
  have h1 : At _ _ 0 [.string nm, .int .i64 k, .string ty] := At.box w (.agg #[.string nm, .int .i64 k, .string ty]) 86
  have hb := hb.up (Up.alloc w (.cells #[.string nm, .int .i64 k, .string ty] 86))
  repeat (first | refine RL.vv ?_ | refine RL.p ?_ | refine RL.nil ?_ | refine Sim.seq ?_ | refine Sim.region ?_ | refine Sim.block ?_ | refine Sim.skip ?_ | refine Sim.inBlock ?_ | refine Sim.exit rfl ?_ | refine Sim.condT rfl ?_ | refine Sim.condF rfl ?_)
  exact Sim.ret1 Try.func74 rfl rfl ⟨rfl, Up.alloc _ _⟩


set_option maxHeartbeats 400000 in
theorem Field_any {S : Nat → Prop} {v : Value} {l : List Fld} (n : Str) (w : World) (hl : SliceOf fldLay S w v l) :
    Calls Try.prog 35 #[v, .string n] w fun en w' => en = .returned (.int .i64 (fieldF l n)) ∧ Up w w' := by
  refine calls_of_sim Try.func35 rfl (Nat.le_of_ble_eq_true rfl) ?_
  repeat (first | refine RL.vv ?_ | refine RL.p ?_ | refine RL.nil ?_ | refine Sim.seq ?_ | refine Sim.region ?_ | refine Sim.block ?_ | refine Sim.skip ?_ | refine Sim.inBlock ?_ | refine Sim.exit rfl ?_ | refine Sim.condT rfl ?_ | refine Sim.condF rfl ?_)
  refine RL.eff trivial rfl (e_box rfl) ?_
  have h1 : At _ _ 0 [.string n] := At.box w (.string n) 9
  have hu := Up.alloc w (.cells (Value.string n).cells 9)
  have hl := hl.up hu
  generalize w.alloc (.cells (Value.string n).cells 9) = w1 at *
  repeat (first | refine RL.vv ?_ | refine RL.p ?_ | refine RL.nil ?_ | refine Sim.seq ?_ | refine Sim.region ?_ | refine Sim.block ?_ | refine Sim.skip ?_ | refine Sim.inBlock ?_ | refine Sim.exit rfl ?_ | refine Sim.condT rfl ?_ | refine Sim.condF rfl ?_)
  obtain ⟨cells, hel, his⟩ := hl.elems
  refine RL.call trivial rfl (c_static rfl) (IndexFunc_Field (p := fun i => match l[i]? with | some t => decide (t.name = n) | none => false) hel ?_) ?_
  · intro i hi w2 hu2
    have hcs : cells i = _ := his i l[i] (List.getElem?_eq_getElem hi)
    rw [hcs]
    refine (Field1_any _ n _ _ _ _ (h1.up hu2)).mono ?_
    rintro _ w3 ⟨rfl, hu3⟩
    exact ⟨by simp [List.getElem?_eq_getElem hi], hu3⟩
  rintro _ w2 ⟨rfl, hu2⟩
  refine ⟨_, rfl, ?_⟩
  repeat (first | refine RL.vv ?_ | refine RL.p ?_ | refine RL.nil ?_ | refine Sim.seq ?_ | refine Sim.region ?_ | refine Sim.block ?_ | refine Sim.skip ?_ | refine Sim.inBlock ?_ | refine Sim.exit rfl ?_ | refine Sim.condT rfl ?_ | refine Sim.condF rfl ?_)
  exact Sim.ret1 Try.func35 rfl rfl ⟨by rw [idx_firstIdx l (fun t => decide (t.name = n)) _ (fun i x hx => by simp only [hx])]; rfl, hu.trans hu2⟩

end Go.Proofs.Ytgckpmcdlciibab

namespace Go.Proofs.Ytgckpmcdlciibab
open Go.RowKit

theorem goodTo {α : Type} {g : Nat → α → Int} {l : List α} {i : Nat} {x : α} (hx : l[i]? = some x) (hno : ∀ (j : Nat) y, j < i → l[j]? = some y → g j y = 0) (h0 : g i x = 0) : ∀ (j : Nat) y, j < i + 1 → l[j]? = some y → g j y = 0 := fun j y hj hy => by
  by_cases hji : j = i
  · subst hji; rw [hx] at hy; cases hy; exact h0
  · exact hno j y (by omega) hy
theorem goodAll {α : Type} {g : Nat → α → Int} {l : List α} {i : Nat} (hno : ∀ (j : Nat) y, j < i → l[j]? = some y → g j y = 0) (hi : ¬ i < l.length) : ∀ (j : Nat) y, l[j]? = some y → g j y = 0 := fun j y hy =>
  hno j y (by have := (List.getElem?_eq_some_iff.1 hy).1; omega) hy

end Go.Proofs.Ytgckpmcdlciibab
