/- Several texts in one:  -/
import Derived.Test.YtgckpmcdlciibaaZB
import Derived.Test.YtgckpmcdlciibaaZP
namespace Go.Proofs.Ytgckpmcdlciibaa
open Go.RowKit

theorem Keep.trans {S : Nat → Prop} {a b c : World} (h : Keep S a b) (hs : a.heap.size ≤ b.heap.size) (k : Keep S b c) : Keep S a c := fun i hi hlt => (k i hi (by omega)).trans (h i hi hlt)

theorem namedTo_mono {s : Str} {m n : Nat} (h : namedTo s n) (hmn : m ≤ n) : namedTo s m := fun i c hi hc => h i c (by omega) hc
theorem namedTo_succ {s : Str} {n : Nat} {c : UInt8} (h : namedTo s n) (hc : s[n]? = some c) (ho : okc n c = true) : namedTo s (n + 1) := fun i d hi hd => by
  by_cases he : i = n
  · subst he; rw [hc] at hd; cases hd; exact ho
  · exact h i d (by omega) hd
theorem okc_t1 {i : Nat} {c : UInt8} (h1 : ¬ (c.toNat : Int) < 97) (h2 : ¬ (122 : Int) < c.toNat) : okc i c = true := by
  simp [okc]; omega
theorem okc_t2 {i : Nat} {c : UInt8} (h0 : ¬ (i : Int) = 0) (h1 : ¬ (c.toNat : Int) < 48) (h2 : ¬ (57 : Int) < c.toNat) : okc i c = true := by
  simp [okc]; omega
theorem okc_f {i : Nat} {c : UInt8} (h : (c.toNat : Int) < 97 ∨ (122 : Int) < c.toNat) (h' : (i : Int) = 0 ∨ (c.toNat : Int) < 48 ∨ (57 : Int) < c.toNat) : okc i c = false := by
  rw [← Bool.not_eq_true]
  simp [okc]; omega
theorem not_named_size {s : Str} (h : ¬ (1 ≤ s.size ∧ s.size ≤ 12)) : named s = false := not_named_of (fun hn => h ⟨hn.1, hn.2.1⟩)
theorem not_named_at {s : Str} {i : Nat} {c : UInt8} (hc : s[i]? = some c) (hi : i < s.size) (ho : okc i c = false) : named s = false :=
  not_named_of (fun hn => by have := hn.2.2 i c hi hc; rw [ho] at this; cases this)

set_option maxHeartbeats 1000000 in
theorem Named_any (s : Str) (w : World) : Calls Try.prog 23 #[.string s] w fun en w' => en = .returned (.bool (named s)) ∧ Up w w' := by
  refine calls_of_sim Try.func23 rfl (Nat.le_of_ble_eq_true rfl) ?_
  by_cases h1 : (s.size : Int) < 1
  · repeat (first | refine RL.vv ?_ | refine RL.p ?_ | refine RL.nil ?_ | refine Sim.seq ?_ | refine Sim.region ?_ | refine Sim.block ?_ | refine Sim.skip ?_ | refine Sim.inBlock ?_ | refine Sim.exit rfl ?_ | refine Sim.condT rfl ?_ | refine Sim.condF rfl ?_)
    exact Sim.ret1 Try.func23 rfl rfl ⟨by rw [not_named_size (by omega)], Up.refl _⟩
  by_cases h2 : (12 : Int) < s.size
  · repeat (first | refine RL.vv ?_ | refine RL.p ?_ | refine RL.nil ?_ | refine Sim.seq ?_ | refine Sim.region ?_ | refine Sim.block ?_ | refine Sim.skip ?_ | refine Sim.inBlock ?_ | refine Sim.exit rfl ?_ | refine Sim.condT rfl ?_ | refine Sim.condF rfl ?_)
    exact Sim.ret1 Try.func23 rfl rfl ⟨by rw [not_named_size (by omega)], Up.refl _⟩
  repeat (first | refine RL.vv ?_ | refine RL.p ?_ | refine RL.nil ?_ | refine Sim.seq ?_ | refine Sim.region ?_ | refine Sim.block ?_ | refine Sim.skip ?_ | refine Sim.inBlock ?_ | refine Sim.exit rfl ?_ | refine Sim.condT rfl ?_ | refine Sim.condF rfl ?_)
  refine Sim.loop (σ := Nat) (fun i => [(0, .string s), (14, .int .i64 (s.size : Int)), (15, .int .i64 (i : Int))]) (fun i w' => i ≤ s.size ∧ w' = w ∧ namedTo s i) (fun i => s.size - i) 0 sb ⟨Nat.zero_le _, rfl, fun j c hj => absurd hj (Nat.not_lt_zero _)⟩ ?_
  rintro i w1 ⟨hi, rfl, hno⟩ next
  by_cases hlt : i < s.size
  · obtain ⟨c, hc⟩ := str_get? s i hlt
    have go : okc i c = true → ∀ e', Env.Sub [(0, .string s), (14, .int .i64 (s.size : Int)), (15, .int .i64 ((i + 1 : Nat) : Int))] e' → Sim Try.prog 23 _ _ e' w1 _ :=
      fun ho e' hs => next (i + 1) w1 e' ⟨by omega, rfl, namedTo_succ hno hc ho⟩ (by omega) hs
    clear next
    by_cases c1 : (c.toNat : Int) < 97
    · by_cases c3 : (i : Int) = 0
      · repeat (first | refine RL.vv ?_ | refine RL.p ?_ | refine RL.nil ?_ | refine Sim.seq ?_ | refine Sim.region ?_ | refine Sim.block ?_ | refine Sim.skip ?_ | refine Sim.inBlock ?_ | refine Sim.exit rfl ?_ | refine Sim.condT rfl ?_ | refine Sim.condF rfl ?_)
        exact Sim.ret1 Try.func23 rfl rfl ⟨by rw [not_named_at hc hlt (okc_f (.inl c1) (.inl c3))], Up.refl _⟩
      by_cases c4 : (c.toNat : Int) < 48
      · repeat (first | refine RL.vv ?_ | refine RL.p ?_ | refine RL.nil ?_ | refine Sim.seq ?_ | refine Sim.region ?_ | refine Sim.block ?_ | refine Sim.skip ?_ | refine Sim.inBlock ?_ | refine Sim.exit rfl ?_ | refine Sim.condT rfl ?_ | refine Sim.condF rfl ?_)
        exact Sim.ret1 Try.func23 rfl rfl ⟨by rw [not_named_at hc hlt (okc_f (.inl c1) (.inr (.inl c4)))], Up.refl _⟩
      by_cases c5 : (57 : Int) < c.toNat
      · repeat (first | refine RL.vv ?_ | refine RL.p ?_ | refine RL.nil ?_ | refine Sim.seq ?_ | refine Sim.region ?_ | refine Sim.block ?_ | refine Sim.skip ?_ | refine Sim.inBlock ?_ | refine Sim.exit rfl ?_ | refine Sim.condT rfl ?_ | refine Sim.condF rfl ?_)
        exact Sim.ret1 Try.func23 rfl rfl ⟨by rw [not_named_at hc hlt (okc_f (.inl c1) (.inr (.inr c5)))], Up.refl _⟩
      · repeat (first | refine RL.vv ?_ | refine RL.p ?_ | refine RL.nil ?_ | refine Sim.seq ?_ | refine Sim.region ?_ | refine Sim.block ?_ | refine Sim.skip ?_ | refine Sim.inBlock ?_ | refine Sim.exit rfl ?_ | refine Sim.condT rfl ?_ | refine Sim.condF rfl ?_)
        exact go (okc_t2 c3 c4 c5) _ sb
    by_cases c2 : (122 : Int) < c.toNat
    · by_cases c3 : (i : Int) = 0
      · repeat (first | refine RL.vv ?_ | refine RL.p ?_ | refine RL.nil ?_ | refine Sim.seq ?_ | refine Sim.region ?_ | refine Sim.block ?_ | refine Sim.skip ?_ | refine Sim.inBlock ?_ | refine Sim.exit rfl ?_ | refine Sim.condT rfl ?_ | refine Sim.condF rfl ?_)
        exact Sim.ret1 Try.func23 rfl rfl ⟨by rw [not_named_at hc hlt (okc_f (.inr c2) (.inl c3))], Up.refl _⟩
      have c5 : (57 : Int) < c.toNat := by omega
      · repeat (first | refine RL.vv ?_ | refine RL.p ?_ | refine RL.nil ?_ | refine Sim.seq ?_ | refine Sim.region ?_ | refine Sim.block ?_ | refine Sim.skip ?_ | refine Sim.inBlock ?_ | refine Sim.exit rfl ?_ | refine Sim.condT rfl ?_ | refine Sim.condF rfl ?_)
        exact Sim.ret1 Try.func23 rfl rfl ⟨by rw [not_named_at hc hlt (okc_f (.inr c2) (.inr (.inr c5)))], Up.refl _⟩
    · repeat (first | refine RL.vv ?_ | refine RL.p ?_ | refine RL.nil ?_ | refine Sim.seq ?_ | refine Sim.region ?_ | refine Sim.block ?_ | refine Sim.skip ?_ | refine Sim.inBlock ?_ | refine Sim.exit rfl ?_ | refine Sim.condT rfl ?_ | refine Sim.condF rfl ?_)
      exact go (okc_t1 c1 c2) _ sb
  · repeat (first | refine RL.vv ?_ | refine RL.p ?_ | refine RL.nil ?_ | refine Sim.seq ?_ | refine Sim.region ?_ | refine Sim.block ?_ | refine Sim.skip ?_ | refine Sim.inBlock ?_ | refine Sim.exit rfl ?_ | refine Sim.condT rfl ?_ | refine Sim.condF rfl ?_)
    exact Sim.ret1 Try.func23 rfl rfl ⟨by rw [named_of ⟨by omega, by omega, namedTo_mono hno (by omega)⟩], Up.refl _⟩
end Go.Proofs.Ytgckpmcdlciibaa

namespace Go.Proofs.Ytgckpmcdlciibaa
open Go.RowKit
set_option maxHeartbeats 1000000 in
theorem RNamed_any (s : Str) (w : World) (hs : s.size ≤ maxLen) : Calls Try.prog 24 #[.string s] w fun en w' => en = .returned (.bool (named s)) ∧ Up w w' := by
  have hs9 : s.size ≤ 9223372036854775807 := by simpa [maxLen] using hs
  refine calls_of_sim Try.func24 rfl (Nat.le_of_ble_eq_true rfl) ?_
  obtain ⟨c0, w0, he, hu0, hc1, hc2, hcells⟩ := e_bytes (P := Try.prog) (w := w) (t := 9) (u := 112) (ty := 112) (x := .tmp 6) (s := s) (e := [(6, .string s), (2, .bool false), (0, .string s)]) rfl hs
  repeat (first | refine RL.vv ?_ | refine RL.p ?_ | refine RL.nil ?_ | refine Sim.seq ?_ | refine Sim.region ?_ | refine Sim.block ?_ | refine Sim.skip ?_ | refine Sim.inBlock ?_ | refine Sim.exit rfl ?_ | refine Sim.condT rfl ?_ | refine Sim.condF rfl ?_)
  refine RL.eff trivial rfl he ?_
  repeat (first | refine RL.vv ?_ | refine RL.p ?_ | refine RL.nil ?_ | refine Sim.seq ?_ | refine Sim.region ?_ | refine Sim.block ?_ | refine Sim.skip ?_ | refine Sim.inBlock ?_ | refine Sim.exit rfl ?_ | refine Sim.condT rfl ?_ | refine Sim.condF rfl ?_)
  refine Sim.loop (σ := Nat) (fun i => [(0, .string s), (7, .slice (some ⟨w.heap.size, 0, none⟩) s.size c0), (8, .int .i64 (s.size : Int)), (9, .int .i64 (i : Int))]) (fun i w' => i ≤ s.size ∧ w' = w0 ∧ namedTo s i) (fun i => s.size - i) 0 sb ⟨Nat.zero_le _, rfl, fun j c hj => absurd hj (Nat.not_lt_zero _)⟩ ?_
  rintro i w1 ⟨hi, rfl, hno⟩ next
  by_cases hlt : i < s.size
  · obtain ⟨c, hc⟩ := str_get? s i hlt
    have hcell := hcells i c hc
    have go : okc i c = true → ∀ e', Env.Sub [(0, .string s), (7, .slice (some ⟨w.heap.size, 0, none⟩) s.size c0), (8, .int .i64 (s.size : Int)), (9, .int .i64 ((i + 1 : Nat) : Int))] e' → Sim Try.prog 24 _ _ e' w1 _ :=
      fun ho e' hs => next (i + 1) w1 e' ⟨by omega, rfl, namedTo_succ hno hc ho⟩ (by omega) hs
    clear next
    by_cases c1 : (c.toNat : Int) < 97
    · by_cases c3 : (i : Int) = 0
      · repeat (first | refine RL.vv ?_ | refine RL.p ?_ | refine RL.nil ?_ | refine Sim.seq ?_ | refine Sim.region ?_ | refine Sim.block ?_ | refine Sim.skip ?_ | refine Sim.inBlock ?_ | refine Sim.exit rfl ?_ | refine Sim.condT rfl ?_ | refine Sim.condF rfl ?_)
        exact Sim.ret1 Try.func24 rfl rfl ⟨by rw [not_named_at hc hlt (okc_f (.inl c1) (.inl c3))], hu0⟩
      by_cases c4 : (c.toNat : Int) < 48
      · repeat (first | refine RL.vv ?_ | refine RL.p ?_ | refine RL.nil ?_ | refine Sim.seq ?_ | refine Sim.region ?_ | refine Sim.block ?_ | refine Sim.skip ?_ | refine Sim.inBlock ?_ | refine Sim.exit rfl ?_ | refine Sim.condT rfl ?_ | refine Sim.condF rfl ?_)
        exact Sim.ret1 Try.func24 rfl rfl ⟨by rw [not_named_at hc hlt (okc_f (.inl c1) (.inr (.inl c4)))], hu0⟩
      by_cases c5 : (57 : Int) < c.toNat
      · repeat (first | refine RL.vv ?_ | refine RL.p ?_ | refine RL.nil ?_ | refine Sim.seq ?_ | refine Sim.region ?_ | refine Sim.block ?_ | refine Sim.skip ?_ | refine Sim.inBlock ?_ | refine Sim.exit rfl ?_ | refine Sim.condT rfl ?_ | refine Sim.condF rfl ?_)
        exact Sim.ret1 Try.func24 rfl rfl ⟨by rw [not_named_at hc hlt (okc_f (.inl c1) (.inr (.inr c5)))], hu0⟩
      · repeat (first | refine RL.vv ?_ | refine RL.p ?_ | refine RL.nil ?_ | refine Sim.seq ?_ | refine Sim.region ?_ | refine Sim.block ?_ | refine Sim.skip ?_ | refine Sim.inBlock ?_ | refine Sim.exit rfl ?_ | refine Sim.condT rfl ?_ | refine Sim.condF rfl ?_)
        exact go (okc_t2 c3 c4 c5) _ sb
    by_cases c2 : (122 : Int) < c.toNat
    · by_cases c3 : (i : Int) = 0
      · repeat (first | refine RL.vv ?_ | refine RL.p ?_ | refine RL.nil ?_ | refine Sim.seq ?_ | refine Sim.region ?_ | refine Sim.block ?_ | refine Sim.skip ?_ | refine Sim.inBlock ?_ | refine Sim.exit rfl ?_ | refine Sim.condT rfl ?_ | refine Sim.condF rfl ?_)
        exact Sim.ret1 Try.func24 rfl rfl ⟨by rw [not_named_at hc hlt (okc_f (.inr c2) (.inl c3))], hu0⟩
      have c5 : (57 : Int) < c.toNat := by omega
      · repeat (first | refine RL.vv ?_ | refine RL.p ?_ | refine RL.nil ?_ | refine Sim.seq ?_ | refine Sim.region ?_ | refine Sim.block ?_ | refine Sim.skip ?_ | refine Sim.inBlock ?_ | refine Sim.exit rfl ?_ | refine Sim.condT rfl ?_ | refine Sim.condF rfl ?_)
        exact Sim.ret1 Try.func24 rfl rfl ⟨by rw [not_named_at hc hlt (okc_f (.inr c2) (.inr (.inr c5)))], hu0⟩
    · repeat (first | refine RL.vv ?_ | refine RL.p ?_ | refine RL.nil ?_ | refine Sim.seq ?_ | refine Sim.region ?_ | refine Sim.block ?_ | refine Sim.skip ?_ | refine Sim.inBlock ?_ | refine Sim.exit rfl ?_ | refine Sim.condT rfl ?_ | refine Sim.condF rfl ?_)
      exact go (okc_t1 c1 c2) _ sb
  · have hn : namedTo s s.size := namedTo_mono hno (by omega)
    clear next
    by_cases h1 : (0 : Int) < s.size
    · by_cases h2 : (s.size : Int) ≤ 12
      · repeat (first | refine RL.vv ?_ | refine RL.p ?_ | refine RL.nil ?_ | refine Sim.seq ?_ | refine Sim.region ?_ | refine Sim.block ?_ | refine Sim.skip ?_ | refine Sim.inBlock ?_ | refine Sim.exit rfl ?_ | refine Sim.condT rfl ?_ | refine Sim.condF rfl ?_)
        exact Sim.ret1 Try.func24 rfl rfl ⟨by rw [named_of ⟨by omega, by omega, hn⟩], hu0⟩
      · repeat (first | refine RL.vv ?_ | refine RL.p ?_ | refine RL.nil ?_ | refine Sim.seq ?_ | refine Sim.region ?_ | refine Sim.block ?_ | refine Sim.skip ?_ | refine Sim.inBlock ?_ | refine Sim.exit rfl ?_ | refine Sim.condT rfl ?_ | refine Sim.condF rfl ?_)
        exact Sim.ret1 Try.func24 rfl rfl ⟨by rw [not_named_size (by omega)], hu0⟩
    · repeat (first | refine RL.vv ?_ | refine RL.p ?_ | refine RL.nil ?_ | refine Sim.seq ?_ | refine Sim.region ?_ | refine Sim.block ?_ | refine Sim.skip ?_ | refine Sim.inBlock ?_ | refine Sim.exit rfl ?_ | refine Sim.condT rfl ?_ | refine Sim.condF rfl ?_)
      exact Sim.ret1 Try.func24 rfl rfl ⟨by rw [not_named_size (by omega)], hu0⟩

end Go.Proofs.Ytgckpmcdlciibaa
