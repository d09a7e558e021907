/- The document's reader, walked: blanks, signs, names. -/
import Derived.Test.YtgckpmcdlciibaaZ4
namespace Go.Proofs.Ytgckpmcdlciibaa
open Go.RowKit
/-- the document's reader, in memory -/
abbrev Wk (w : World) (b : Nat) (s : Str) (i p : Nat) (e : Int) (j : Nat) : Prop := Box w b 143 [.string s, .int .i64 (i : Int), .int .i64 (p : Int), .int .i64 e, .int .i64 (j : Int)]
theorem Box.tail3 {w : World} {b : Nat} {t : TypeId} {v0 v1 v2 v3 v4 : Value} (h : Box w b t [v0, v1, v2, v3, v4]) : At w b (0 + 3) [v3, v4] := fun k v hk => by
  match k, hk with
  | 0, hk => exact h.at 3 v hk
  | 1, hk => exact h.at 4 v hk
  | k + 2, hk => simp at hk
theorem wok_t {b i p j : Nat} {s : Str} (w : World) (hb : Wk w b s i p 0 j) :
    Calls Try.prog 83 #[.pointer (some ⟨b, 0, none⟩)] w fun en w' => en = .returned (.bool true) ∧ w' = w := by
  refine calls_of_sim Try.func83 rfl (Nat.le_of_ble_eq_true rfl) ?_
  have ha := hb.tail3
  have h0 : (0 : Int) = 0 := rfl
  repeat (first | refine RL.vv ?_ | refine RL.p ?_ | refine RL.nil ?_ | refine Sim.seq ?_ | refine Sim.region ?_ | refine Sim.block ?_ | refine Sim.skip ?_ | refine Sim.inBlock ?_ | refine Sim.exit rfl ?_ | refine Sim.condT rfl ?_ | refine Sim.condF rfl ?_)
  exact Sim.ret1 Try.func83 rfl rfl ⟨rfl, rfl⟩
theorem wok_f {b i p j : Nat} {e : Int} {s : Str} (w : World) (hb : Wk w b s i p e j) (he : ¬ e = 0) :
    Calls Try.prog 83 #[.pointer (some ⟨b, 0, none⟩)] w fun en w' => en = .returned (.bool false) ∧ w' = w := by
  refine calls_of_sim Try.func83 rfl (Nat.le_of_ble_eq_true rfl) ?_
  have ha := hb.tail3
  repeat (first | refine RL.vv ?_ | refine RL.p ?_ | refine RL.nil ?_ | refine Sim.seq ?_ | refine Sim.region ?_ | refine Sim.block ?_ | refine Sim.skip ?_ | refine Sim.inBlock ?_ | refine Sim.exit rfl ?_ | refine Sim.condT rfl ?_ | refine Sim.condF rfl ?_)
  exact Sim.ret1 Try.func83 rfl rfl ⟨rfl, rfl⟩
theorem wstop_t {b i p : Nat} {s : Str} (e : Int) (w : World) (hb : Wk w b s i p 0 0) :
    Calls Try.prog 86 #[.pointer (some ⟨b, 0, none⟩), .int .i64 e] w fun en w' => en = .returned (.tuple #[]) ∧ But b w w' ∧ Wk w' b s i p e i := by
  refine calls_of_sim Try.func86 rfl (Nat.le_of_ble_eq_true rfl) ?_
  have ha := hb.at
  repeat (first | refine RL.vv ?_ | refine RL.p ?_ | refine RL.nil ?_ | refine Sim.seq ?_ | refine Sim.region ?_ | refine Sim.block ?_ | refine Sim.skip ?_ | refine Sim.inBlock ?_ | refine Sim.exit rfl ?_ | refine Sim.condT rfl ?_ | refine Sim.condF rfl ?_)
  refine RL.cs (wok_t w hb) ?_
  repeat (first | refine RL.vv ?_ | refine RL.p ?_ | refine RL.nil ?_ | refine Sim.seq ?_ | refine Sim.region ?_ | refine Sim.block ?_ | refine Sim.skip ?_ | refine Sim.inBlock ?_ | refine Sim.exit rfl ?_ | refine Sim.condT rfl ?_ | refine Sim.condF rfl ?_)
  refine RL.val trivial rfl (y_build (v := .agg #[.int .i64 e, .int .i64 (i : Int)]) rfl (fun w => by kernel_rfl)) ?_
  repeat (first | refine RL.vv ?_ | refine RL.p ?_ | refine RL.nil ?_ | refine Sim.seq ?_ | refine Sim.region ?_ | refine Sim.block ?_ | refine Sim.skip ?_ | refine Sim.inBlock ?_ | refine Sim.exit rfl ?_ | refine Sim.condT rfl ?_ | refine Sim.condF rfl ?_)
  refine RL.sb hb fun w1 hbt hb => ?_
  repeat (first | refine RL.vv ?_ | refine RL.p ?_ | refine RL.nil ?_ | refine Sim.seq ?_ | refine Sim.region ?_ | refine Sim.block ?_ | refine Sim.skip ?_ | refine Sim.inBlock ?_ | refine Sim.exit rfl ?_ | refine Sim.condT rfl ?_ | refine Sim.condF rfl ?_)
  first
    | exact Sim.fin0 Try.func86 rfl ⟨rfl, hbt, hb⟩
    | exact Sim.ret0 Try.func86 rfl ⟨rfl, hbt, hb⟩
theorem wstop_f {b i p j : Nat} {e : Int} {s : Str} (e' : Int) (w : World) (hb : Wk w b s i p e j) (he : ¬ e = 0) :
    Calls Try.prog 86 #[.pointer (some ⟨b, 0, none⟩), .int .i64 e'] w fun en w' => en = .returned (.tuple #[]) ∧ w' = w := by
  refine calls_of_sim Try.func86 rfl (Nat.le_of_ble_eq_true rfl) ?_
  repeat (first | refine RL.vv ?_ | refine RL.p ?_ | refine RL.nil ?_ | refine Sim.seq ?_ | refine Sim.region ?_ | refine Sim.block ?_ | refine Sim.skip ?_ | refine Sim.inBlock ?_ | refine Sim.exit rfl ?_ | refine Sim.condT rfl ?_ | refine Sim.condF rfl ?_)
  refine RL.cs (wok_f w hb he) ?_
  repeat (first | refine RL.vv ?_ | refine RL.p ?_ | refine RL.nil ?_ | refine Sim.seq ?_ | refine Sim.region ?_ | refine Sim.block ?_ | refine Sim.skip ?_ | refine Sim.inBlock ?_ | refine Sim.exit rfl ?_ | refine Sim.condT rfl ?_ | refine Sim.condF rfl ?_)
  first
    | exact Sim.fin0 Try.func86 rfl ⟨rfl, rfl⟩
    | exact Sim.ret0 Try.func86 rfl ⟨rfl, rfl⟩
set_option maxHeartbeats 1000000 in
theorem wskip_any {b i p j0 : Nat} {e0 : Int} {s : Str} (w : World) (hb : Wk w b s i p e0 j0) (hi : i ≤ s.size) (hs : s.size ≤ 1000) :
    Calls Try.prog 85 #[.pointer (some ⟨b, 0, none⟩)] w fun en w' => en = .returned (.tuple #[]) ∧ But b w w' ∧ Wk w' b s (blankM s i) p e0 j0 := by
  refine calls_of_sim Try.func85 rfl (Nat.le_of_ble_eq_true rfl) ?_
  repeat (first | refine RL.vv ?_ | refine RL.p ?_ | refine RL.nil ?_ | refine Sim.seq ?_ | refine Sim.region ?_ | refine Sim.block ?_ | refine Sim.skip ?_ | refine Sim.inBlock ?_ | refine Sim.exit rfl ?_ | refine Sim.condT rfl ?_ | refine Sim.condF rfl ?_)
  refine Sim.loop (σ := Nat) (fun _ => [(0, .pointer (some ⟨b, 0, none⟩))]) (fun j w' => j ≤ s.size ∧ But b w w' ∧ Wk w' b s j p e0 j0 ∧ blankM s j = blankM s i) (fun j => s.size - j) i sb ⟨hi, But.refl b w, hb, rfl⟩ ?_
  clear hb
  rintro j w1 ⟨hj, hbt, hb, hbl⟩ next
  have ha := hb.at
  have stop : blAt s j = false → j = blankM s i := fun h => by rw [← hbl, blankM_stop h]
  by_cases hlt : j < s.size
  rotate_left
  · have hst := stop (by unfold blAt; rw [getElem?_neg s j hlt])
    repeat (first | refine RL.vv ?_ | refine RL.p ?_ | refine RL.nil ?_ | refine Sim.seq ?_ | refine Sim.region ?_ | refine Sim.block ?_ | refine Sim.skip ?_ | refine Sim.inBlock ?_ | refine Sim.exit rfl ?_ | refine Sim.condT rfl ?_ | refine Sim.condF rfl ?_)
    refine Sim.q ?_
    repeat (first | refine RQ.vv ?_ | refine RQ.p ?_)
    refine RQ.nil fun w2 hq => ?_
    repeat (first | refine RL.vv ?_ | refine RL.p ?_ | refine RL.nil ?_ | refine Sim.seq ?_ | refine Sim.region ?_ | refine Sim.block ?_ | refine Sim.skip ?_ | refine Sim.inBlock ?_ | refine Sim.exit rfl ?_ | refine Sim.condT rfl ?_ | refine Sim.condF rfl ?_)
    exact Sim.fin0 Try.func85 rfl ⟨rfl, hbt.trans (But.of_up hq), by rw [← hst]; exact hb.up hq⟩
  obtain ⟨c, hc⟩ := str_get? s j hlt
  by_cases c1 : (c.toNat : Int) = 32
  · have hbl1 : blAt s j = true := by
      rw [blAt, hc]
      have : c = 32 := UInt8.toNat_inj.1 (by show c.toNat = 32; omega)
      subst this; rfl
    repeat (first | refine RL.vv ?_ | refine RL.p ?_ | refine RL.nil ?_ | refine Sim.seq ?_ | refine Sim.region ?_ | refine Sim.block ?_ | refine Sim.skip ?_ | refine Sim.inBlock ?_ | refine Sim.exit rfl ?_ | refine Sim.condT rfl ?_ | refine Sim.condF rfl ?_)
    refine Sim.q ?_
    repeat (first | refine RQ.vv ?_ | refine RQ.p ?_)
    refine RQ.nil fun w2 hq => ?_
    have hb := hb.up hq
    repeat (first | refine RL.vv ?_ | refine RL.p ?_ | refine RL.nil ?_ | refine Sim.seq ?_ | refine Sim.region ?_ | refine Sim.block ?_ | refine Sim.skip ?_ | refine Sim.inBlock ?_ | refine Sim.exit rfl ?_ | refine Sim.condT rfl ?_ | refine Sim.condF rfl ?_)
    refine RL.sb hb fun w3 hbt3 hb => ?_
    repeat (first | refine RL.vv ?_ | refine RL.p ?_ | refine RL.nil ?_ | refine Sim.seq ?_ | refine Sim.region ?_ | refine Sim.block ?_ | refine Sim.skip ?_ | refine Sim.inBlock ?_ | refine Sim.exit rfl ?_ | refine Sim.condT rfl ?_ | refine Sim.condF rfl ?_)
    exact next (j + 1) w3 _ ⟨by omega, (hbt.trans (But.of_up hq)).trans hbt3, hb, by rw [← hbl, blankM_step hbl1]⟩ (by omega) sb
  by_cases c2 : (c.toNat : Int) = 10
  · have hbl1 : blAt s j = true := by
      rw [blAt, hc]
      have : c = 10 := UInt8.toNat_inj.1 (by show c.toNat = 10; omega)
      subst this; rfl
    repeat (first | refine RL.vv ?_ | refine RL.p ?_ | refine RL.nil ?_ | refine Sim.seq ?_ | refine Sim.region ?_ | refine Sim.block ?_ | refine Sim.skip ?_ | refine Sim.inBlock ?_ | refine Sim.exit rfl ?_ | refine Sim.condT rfl ?_ | refine Sim.condF rfl ?_)
    refine Sim.q ?_
    repeat (first | refine RQ.vv ?_ | refine RQ.p ?_)
    refine RQ.nil fun w2 hq => ?_
    have hb := hb.up hq
    repeat (first | refine RL.vv ?_ | refine RL.p ?_ | refine RL.nil ?_ | refine Sim.seq ?_ | refine Sim.region ?_ | refine Sim.block ?_ | refine Sim.skip ?_ | refine Sim.inBlock ?_ | refine Sim.exit rfl ?_ | refine Sim.condT rfl ?_ | refine Sim.condF rfl ?_)
    refine RL.sb hb fun w3 hbt3 hb => ?_
    repeat (first | refine RL.vv ?_ | refine RL.p ?_ | refine RL.nil ?_ | refine Sim.seq ?_ | refine Sim.region ?_ | refine Sim.block ?_ | refine Sim.skip ?_ | refine Sim.inBlock ?_ | refine Sim.exit rfl ?_ | refine Sim.condT rfl ?_ | refine Sim.condF rfl ?_)
    exact next (j + 1) w3 _ ⟨by omega, (hbt.trans (But.of_up hq)).trans hbt3, hb, by rw [← hbl, blankM_step hbl1]⟩ (by omega) sb
  have hst := stop (by
    rw [blAt, hc, Bool.or_eq_false_iff]
    exact ⟨beq_eq_false_iff_ne.2 fun e => c1 (by rw [e]; rfl), beq_eq_false_iff_ne.2 fun e => c2 (by rw [e]; rfl)⟩)
  repeat (first | refine RL.vv ?_ | refine RL.p ?_ | refine RL.nil ?_ | refine Sim.seq ?_ | refine Sim.region ?_ | refine Sim.block ?_ | refine Sim.skip ?_ | refine Sim.inBlock ?_ | refine Sim.exit rfl ?_ | refine Sim.condT rfl ?_ | refine Sim.condF rfl ?_)
  refine Sim.q ?_
  repeat (first | refine RQ.vv ?_ | refine RQ.p ?_)
  refine RQ.nil fun w2 hq => ?_
  repeat (first | refine RL.vv ?_ | refine RL.p ?_ | refine RL.nil ?_ | refine Sim.seq ?_ | refine Sim.region ?_ | refine Sim.block ?_ | refine Sim.skip ?_ | refine Sim.inBlock ?_ | refine Sim.exit rfl ?_ | refine Sim.condT rfl ?_ | refine Sim.condF rfl ?_)
  exact Sim.fin0 Try.func85 rfl ⟨rfl, hbt.trans (But.of_up hq), by rw [← hst]; exact hb.up hq⟩
set_option maxHeartbeats 1000000 in
theorem won_t {b i p c : Nat} {s : Str} (w : World) (hb : Wk w b s i p 0 0) (hi : i ≤ s.size) (hs : s.size ≤ 1000) :
    Calls Try.prog 110 #[.pointer (some ⟨b, 0, none⟩), .int .u8 (c : Int)] w fun en w' => en = .returned (.bool (isAt s (blankM s i) c)) ∧ But b w w' ∧ Wk w' b s (blankM s i) p 0 0 := by
  refine calls_of_sim Try.func110 rfl (Nat.le_of_ble_eq_true rfl) ?_
  repeat (first | refine RL.vv ?_ | refine RL.p ?_ | refine RL.nil ?_ | refine Sim.seq ?_ | refine Sim.region ?_ | refine Sim.block ?_ | refine Sim.skip ?_ | refine Sim.inBlock ?_ | refine Sim.exit rfl ?_ | refine Sim.condT rfl ?_ | refine Sim.condF rfl ?_)
  refine RL.cs (wok_t w hb) ?_
  repeat (first | refine RL.vv ?_ | refine RL.p ?_ | refine RL.nil ?_ | refine Sim.seq ?_ | refine Sim.region ?_ | refine Sim.block ?_ | refine Sim.skip ?_ | refine Sim.inBlock ?_ | refine Sim.exit rfl ?_ | refine Sim.condT rfl ?_ | refine Sim.condF rfl ?_)
  refine RL.cx (wskip_any w hb hi hs) ?_
  rintro _ w1 ⟨rfl, hbt, hb⟩
  refine ⟨_, rfl, ?_⟩
  have hj := blankM_le hi
  generalize blankM s i = j at *
  have ha := hb.at
  by_cases hlt : j < s.size
  rotate_left
  · rw [isAt_f (by omega)]
    repeat (first | refine RL.vv ?_ | refine RL.p ?_ | refine RL.nil ?_ | refine Sim.seq ?_ | refine Sim.region ?_ | refine Sim.block ?_ | refine Sim.skip ?_ | refine Sim.inBlock ?_ | refine Sim.exit rfl ?_ | refine Sim.condT rfl ?_ | refine Sim.condF rfl ?_)
    refine Sim.q ?_
    repeat (first | refine RQ.vv ?_ | refine RQ.p ?_)
    refine RQ.nil fun w2 hq => ?_
    repeat (first | refine RL.vv ?_ | refine RL.p ?_ | refine RL.nil ?_ | refine Sim.seq ?_ | refine Sim.region ?_ | refine Sim.block ?_ | refine Sim.skip ?_ | refine Sim.inBlock ?_ | refine Sim.exit rfl ?_ | refine Sim.condT rfl ?_ | refine Sim.condF rfl ?_)
    exact Sim.ret1 Try.func110 rfl rfl ⟨rfl, hbt.trans (But.of_up hq), hb.up hq⟩
  obtain ⟨x, hx⟩ := str_get? s j hlt
  have hxc : isAt s j c = decide ((x.toNat : Int) = (c : Int)) := by
    rw [isAt, hx]
    by_cases h : x.toNat = c
    · rw [decide_eq_true (by omega)]; exact beq_iff_eq.2 h
    · rw [decide_eq_false (by omega)]; exact beq_eq_false_iff_ne.2 h
  rw [hxc]
  repeat (first | refine RL.vv ?_ | refine RL.p ?_ | refine RL.nil ?_ | refine Sim.seq ?_ | refine Sim.region ?_ | refine Sim.block ?_ | refine Sim.skip ?_ | refine Sim.inBlock ?_ | refine Sim.exit rfl ?_ | refine Sim.condT rfl ?_ | refine Sim.condF rfl ?_)
  refine Sim.q ?_
  repeat (first | refine RQ.vv ?_ | refine RQ.p ?_)
  refine RQ.nil fun w2 hq => ?_
  repeat (first | refine RL.vv ?_ | refine RL.p ?_ | refine RL.nil ?_ | refine Sim.seq ?_ | refine Sim.region ?_ | refine Sim.block ?_ | refine Sim.skip ?_ | refine Sim.inBlock ?_ | refine Sim.exit rfl ?_ | refine Sim.condT rfl ?_ | refine Sim.condF rfl ?_)
  exact Sim.ret1 Try.func110 rfl rfl ⟨rfl, hbt.trans (But.of_up hq), hb.up hq⟩
theorem won_f {b i p j : Nat} {e : Int} {s : Str} (c : Value) (w : World) (hb : Wk w b s i p e j) (he : ¬ e = 0) :
    Calls Try.prog 110 #[.pointer (some ⟨b, 0, none⟩), c] w fun en w' => en = .returned (.bool false) ∧ w' = w := by
  refine calls_of_sim Try.func110 rfl (Nat.le_of_ble_eq_true rfl) ?_
  repeat (first | refine RL.vv ?_ | refine RL.p ?_ | refine RL.nil ?_ | refine Sim.seq ?_ | refine Sim.region ?_ | refine Sim.block ?_ | refine Sim.skip ?_ | refine Sim.inBlock ?_ | refine Sim.exit rfl ?_ | refine Sim.condT rfl ?_ | refine Sim.condF rfl ?_)
  refine RL.cs (wok_f w hb he) ?_
  repeat (first | refine RL.vv ?_ | refine RL.p ?_ | refine RL.nil ?_ | refine Sim.seq ?_ | refine Sim.region ?_ | refine Sim.block ?_ | refine Sim.skip ?_ | refine Sim.inBlock ?_ | refine Sim.exit rfl ?_ | refine Sim.condT rfl ?_ | refine Sim.condF rfl ?_)
  exact Sim.ret1 Try.func110 rfl rfl ⟨rfl, rfl⟩
theorem wneed_t {b i p c : Nat} {s : Str} (w : World) (hb : Wk w b s i p 0 0) (hi : i ≤ s.size) (hs : s.size ≤ 1000) :
    Calls Try.prog 82 #[.pointer (some ⟨b, 0, none⟩), .int .u8 (c : Int)] w fun en w' => en = .returned (.tuple #[]) ∧ But b w w' ∧ match mustM s i c with
      | .error (e, j) => Wk w' b s j p e j
      | .ok j => Wk w' b s j p 0 0 := by
  refine calls_of_sim Try.func82 rfl (Nat.le_of_ble_eq_true rfl) ?_
  repeat (first | refine RL.vv ?_ | refine RL.p ?_ | refine RL.nil ?_ | refine Sim.seq ?_ | refine Sim.region ?_ | refine Sim.block ?_ | refine Sim.skip ?_ | refine Sim.inBlock ?_ | refine Sim.exit rfl ?_ | refine Sim.condT rfl ?_ | refine Sim.condF rfl ?_)
  refine RL.cx (won_t w hb hi hs) ?_
  rintro _ w1 ⟨rfl, hbt, hb⟩
  refine ⟨_, rfl, ?_⟩
  unfold mustM
  rcases Bool.eq_false_or_eq_true (isAt s (blankM s i) c) with h | h
  · have hlt := isAt_lt h
    rw [h]
    have ha := hb.at
    repeat (first | refine RL.vv ?_ | refine RL.p ?_ | refine RL.nil ?_ | refine Sim.seq ?_ | refine Sim.region ?_ | refine Sim.block ?_ | refine Sim.skip ?_ | refine Sim.inBlock ?_ | refine Sim.exit rfl ?_ | refine Sim.condT rfl ?_ | refine Sim.condF rfl ?_)
    refine RL.sb hb fun w3 hbt3 hb => ?_
    repeat (first | refine RL.vv ?_ | refine RL.p ?_ | refine RL.nil ?_ | refine Sim.seq ?_ | refine Sim.region ?_ | refine Sim.block ?_ | refine Sim.skip ?_ | refine Sim.inBlock ?_ | refine Sim.exit rfl ?_ | refine Sim.condT rfl ?_ | refine Sim.condF rfl ?_)
    first
      | exact Sim.fin0 Try.func82 rfl ⟨rfl, hbt.trans hbt3, hb⟩
      | exact Sim.ret0 Try.func82 rfl ⟨rfl, hbt.trans hbt3, hb⟩
  · rw [h]
    repeat (first | refine RL.vv ?_ | refine RL.p ?_ | refine RL.nil ?_ | refine Sim.seq ?_ | refine Sim.region ?_ | refine Sim.block ?_ | refine Sim.skip ?_ | refine Sim.inBlock ?_ | refine Sim.exit rfl ?_ | refine Sim.condT rfl ?_ | refine Sim.condF rfl ?_)
    refine RL.cx (wstop_t 2 w1 hb) ?_
    rintro _ w2 ⟨rfl, hbt2, hb⟩
    refine ⟨_, rfl, ?_⟩
    repeat (first | refine RL.vv ?_ | refine RL.p ?_ | refine RL.nil ?_ | refine Sim.seq ?_ | refine Sim.region ?_ | refine Sim.block ?_ | refine Sim.skip ?_ | refine Sim.inBlock ?_ | refine Sim.exit rfl ?_ | refine Sim.condT rfl ?_ | refine Sim.condF rfl ?_)
    first
      | exact Sim.fin0 Try.func82 rfl ⟨rfl, hbt.trans hbt2, hb⟩
      | exact Sim.ret0 Try.func82 rfl ⟨rfl, hbt.trans hbt2, hb⟩
theorem wneed_f {b i p j : Nat} {e : Int} {s : Str} (c : Value) (w : World) (hb : Wk w b s i p e j) (he : ¬ e = 0) :
    Calls Try.prog 82 #[.pointer (some ⟨b, 0, none⟩), c] w fun en w' => en = .returned (.tuple #[]) ∧ w' = w := by
  refine calls_of_sim Try.func82 rfl (Nat.le_of_ble_eq_true rfl) ?_
  repeat (first | refine RL.vv ?_ | refine RL.p ?_ | refine RL.nil ?_ | refine Sim.seq ?_ | refine Sim.region ?_ | refine Sim.block ?_ | refine Sim.skip ?_ | refine Sim.inBlock ?_ | refine Sim.exit rfl ?_ | refine Sim.condT rfl ?_ | refine Sim.condF rfl ?_)
  refine RL.cs (won_f c w hb he) ?_
  repeat (first | refine RL.vv ?_ | refine RL.p ?_ | refine RL.nil ?_ | refine Sim.seq ?_ | refine Sim.region ?_ | refine Sim.block ?_ | refine Sim.skip ?_ | refine Sim.inBlock ?_ | refine Sim.exit rfl ?_ | refine Sim.condT rfl ?_ | refine Sim.condF rfl ?_)
  refine RL.cs (wstop_f 2 w hb he) ?_
  repeat (first | refine RL.vv ?_ | refine RL.p ?_ | refine RL.nil ?_ | refine Sim.seq ?_ | refine Sim.region ?_ | refine Sim.block ?_ | refine Sim.skip ?_ | refine Sim.inBlock ?_ | refine Sim.exit rfl ?_ | refine Sim.condT rfl ?_ | refine Sim.condF rfl ?_)
  first
    | exact Sim.fin0 Try.func82 rfl ⟨rfl, rfl⟩
    | exact Sim.ret0 Try.func82 rfl ⟨rfl, rfl⟩
theorem wname_f {b i p j : Nat} {e : Int} {s : Str} (w : World) (hb : Wk w b s i p e j) (he : ¬ e = 0) :
    Calls Try.prog 81 #[.pointer (some ⟨b, 0, none⟩)] w fun en w' => en = .returned (.string ⟨#[]⟩) ∧ w' = w := by
  refine calls_of_sim Try.func81 rfl (Nat.le_of_ble_eq_true rfl) ?_
  repeat (first | refine RL.vv ?_ | refine RL.p ?_ | refine RL.nil ?_ | refine Sim.seq ?_ | refine Sim.region ?_ | refine Sim.block ?_ | refine Sim.skip ?_ | refine Sim.inBlock ?_ | refine Sim.exit rfl ?_ | refine Sim.condT rfl ?_ | refine Sim.condF rfl ?_)
  refine RL.cs (wok_f w hb he) ?_
  repeat (first | refine RL.vv ?_ | refine RL.p ?_ | refine RL.nil ?_ | refine Sim.seq ?_ | refine Sim.region ?_ | refine Sim.block ?_ | refine Sim.skip ?_ | refine Sim.inBlock ?_ | refine Sim.exit rfl ?_ | refine Sim.condT rfl ?_ | refine Sim.condF rfl ?_)
  exact Sim.ret1 Try.func81 rfl rfl ⟨rfl, rfl⟩
theorem str_empty {s : Str} (h : s.size = 0) : s = ⟨#[]⟩ := by
  cases s with
  | mk d => congr 1; exact Array.eq_empty_of_size_eq_zero h
set_option maxHeartbeats 4000000 in
theorem wname_t {b i p : Nat} {s : Str} (w : World) (hb : Wk w b s i p 0 0) (hi : i ≤ s.size) (hs : s.size ≤ 1000) :
    Calls Try.prog 81 #[.pointer (some ⟨b, 0, none⟩)] w fun en w' => But b w w' ∧ match nameM s i with
      | .error (e, j) => (∃ n, en = .returned (.string n)) ∧ Wk w' b s j p e j
      | .ok (n, j) => en = .returned (.string n) ∧ Wk w' b s j p 0 0 := by
  refine calls_of_sim Try.func81 rfl (Nat.le_of_ble_eq_true rfl) ?_
  repeat (first | refine RL.vv ?_ | refine RL.p ?_ | refine RL.nil ?_ | refine Sim.seq ?_ | refine Sim.region ?_ | refine Sim.block ?_ | refine Sim.skip ?_ | refine Sim.inBlock ?_ | refine Sim.exit rfl ?_ | refine Sim.condT rfl ?_ | refine Sim.condF rfl ?_)
  refine RL.cs (wok_t w hb) ?_
  repeat (first | refine RL.vv ?_ | refine RL.p ?_ | refine RL.nil ?_ | refine Sim.seq ?_ | refine Sim.region ?_ | refine Sim.block ?_ | refine Sim.skip ?_ | refine Sim.inBlock ?_ | refine Sim.exit rfl ?_ | refine Sim.condT rfl ?_ | refine Sim.condF rfl ?_)
  refine RL.cx (wskip_any w hb hi hs) ?_
  rintro _ w1 ⟨rfl, hbt, hb⟩
  refine ⟨_, rfl, ?_⟩
  unfold nameM
  have hj := blankM_le hi
  generalize blankM s i = j at *
  have hend := endM_le (s := s) (a := j) hj
  have hge := endM_ge (s := s) j j
  have ha := hb.at
  refine RL.nil ?_
  refine Sim.seq ?_
  ((repeat refine Sim.seq ?_); refine Sim.region ?_; (repeat (first | refine RL.vv ?_ | refine RL.p ?_)); refine RL.nil ?_)
  refine Sim.seq ?_
  refine Sim.cut [(0, .pointer (some ⟨b, 0, none⟩)), (3, .int .i64 ((endM s j j : Nat) : Int))] (fun w' => But b w w' ∧ Wk w' b s j p 0 0) (fun k' next3 => ?_) ?_
  · repeat (first | refine RL.vv ?_ | refine RL.p ?_ | refine RL.nil ?_ | refine Sim.seq ?_ | refine Sim.region ?_ | refine Sim.block ?_ | refine Sim.skip ?_ | refine Sim.inBlock ?_ | refine Sim.exit rfl ?_ | refine Sim.condT rfl ?_ | refine Sim.condF rfl ?_)
    refine Sim.loop (σ := Nat) (fun k => [(0, .pointer (some ⟨b, 0, none⟩)), (3, .int .i64 (k : Int))]) (fun k w' => j ≤ k ∧ k ≤ s.size ∧ But b w w' ∧ Wk w' b s j p 0 0 ∧ endM s j k = endM s j j) (fun k => s.size - k) j sb ⟨Nat.le_refl _, hj, hbt, hb, rfl⟩ ?_
    clear hb hbt ha
    rintro k w2 ⟨hjk, hks, hbt, hb, hek⟩ next
    have ha := hb.at
    have stop : nmAt s j k = false → k = endM s j j := fun h => by rw [← hek, endM_stop h]
    by_cases hlt : k < s.size
    rotate_left
    · have hst := stop (by unfold nmAt; rw [getElem?_neg s k hlt])
      repeat (first | refine RL.vv ?_ | refine RL.p ?_ | refine RL.nil ?_ | refine Sim.seq ?_ | refine Sim.region ?_ | refine Sim.block ?_ | refine Sim.skip ?_ | refine Sim.inBlock ?_ | refine Sim.exit rfl ?_ | refine Sim.condT rfl ?_ | refine Sim.condF rfl ?_)
      refine next3 w2 _ ⟨hbt, hb⟩ ?_
      rw [← hst]
      exact sb
    obtain ⟨c, hc⟩ := str_get? s k hlt
    have hnm : nmAt s j k = nchr (k == j) c := by unfold nmAt; rw [hc]
    have hgo : nmAt s j k = true → ∀ e', Env.Sub [(0, .pointer (some ⟨b, 0, none⟩)), (3, .int .i64 ((k + 1 : Nat) : Int))] e' → Sim Try.prog 81 _ _ e' w2 _ := fun h e' he => next (k + 1) w2 e' ⟨by omega, by omega, hbt, hb, by rw [← hek, endM_step h]⟩ (by omega) he
    have hno : nmAt s j k = false → ∀ e', Env.Sub [(0, .pointer (some ⟨b, 0, none⟩)), (3, .int .i64 (k : Int))] e' → Sim Try.prog 81 _ _ e' w2 _ := fun h e' he => next3 w2 e' ⟨hbt, hb⟩ (by rw [← stop h]; exact he)
    clear next next3
    by_cases g : (k : Int) = (j : Int)
    · have hkj : (k == j) = true := beq_iff_eq.2 (by omega)
      rw [hkj] at hnm
      by_cases c1 : (c.toNat : Int) < 97
      · have ht : nmAt s j k = false := by rw [hnm]; simp [nchr]; omega
        repeat (first | refine RL.vv ?_ | refine RL.p ?_ | refine RL.nil ?_ | refine Sim.seq ?_ | refine Sim.region ?_ | refine Sim.block ?_ | refine Sim.skip ?_ | refine Sim.inBlock ?_ | refine Sim.exit rfl ?_ | refine Sim.condT rfl ?_ | refine Sim.condF rfl ?_)
        exact hno ht _ sb
      · by_cases c2 : (122 : Int) < c.toNat
        · have ht : nmAt s j k = false := by rw [hnm]; simp [nchr]; omega
          repeat (first | refine RL.vv ?_ | refine RL.p ?_ | refine RL.nil ?_ | refine Sim.seq ?_ | refine Sim.region ?_ | refine Sim.block ?_ | refine Sim.skip ?_ | refine Sim.inBlock ?_ | refine Sim.exit rfl ?_ | refine Sim.condT rfl ?_ | refine Sim.condF rfl ?_)
          exact hno ht _ sb
        · have ht : nmAt s j k = true := by rw [hnm]; simp [nchr]; omega
          repeat (first | refine RL.vv ?_ | refine RL.p ?_ | refine RL.nil ?_ | refine Sim.seq ?_ | refine Sim.region ?_ | refine Sim.block ?_ | refine Sim.skip ?_ | refine Sim.inBlock ?_ | refine Sim.exit rfl ?_ | refine Sim.condT rfl ?_ | refine Sim.condF rfl ?_)
          exact hgo ht _ sb
    · have hkj : (k == j) = false := beq_eq_false_iff_ne.2 (by omega)
      rw [hkj] at hnm
      by_cases c1 : (c.toNat : Int) < 97
      · by_cases c3 : (c.toNat : Int) < 48
        · have ht : nmAt s j k = false := by rw [hnm]; simp [nchr]; omega
          repeat (first | refine RL.vv ?_ | refine RL.p ?_ | refine RL.nil ?_ | refine Sim.seq ?_ | refine Sim.region ?_ | refine Sim.block ?_ | refine Sim.skip ?_ | refine Sim.inBlock ?_ | refine Sim.exit rfl ?_ | refine Sim.condT rfl ?_ | refine Sim.condF rfl ?_)
          exact hno ht _ sb
        · by_cases c4 : (57 : Int) < c.toNat
          · have ht : nmAt s j k = false := by rw [hnm]; simp [nchr]; omega
            repeat (first | refine RL.vv ?_ | refine RL.p ?_ | refine RL.nil ?_ | refine Sim.seq ?_ | refine Sim.region ?_ | refine Sim.block ?_ | refine Sim.skip ?_ | refine Sim.inBlock ?_ | refine Sim.exit rfl ?_ | refine Sim.condT rfl ?_ | refine Sim.condF rfl ?_)
            exact hno ht _ sb
          · have ht : nmAt s j k = true := by rw [hnm]; simp [nchr]; omega
            repeat (first | refine RL.vv ?_ | refine RL.p ?_ | refine RL.nil ?_ | refine Sim.seq ?_ | refine Sim.region ?_ | refine Sim.block ?_ | refine Sim.skip ?_ | refine Sim.inBlock ?_ | refine Sim.exit rfl ?_ | refine Sim.condT rfl ?_ | refine Sim.condF rfl ?_)
            exact hgo ht _ sb
      · by_cases c2 : (122 : Int) < c.toNat
        · have c3 : ¬ (c.toNat : Int) < 48 := by omega
          have c4 : (57 : Int) < c.toNat := by omega
          have ht : nmAt s j k = false := by rw [hnm]; simp [nchr]; omega
          repeat (first | refine RL.vv ?_ | refine RL.p ?_ | refine RL.nil ?_ | refine Sim.seq ?_ | refine Sim.region ?_ | refine Sim.block ?_ | refine Sim.skip ?_ | refine Sim.inBlock ?_ | refine Sim.exit rfl ?_ | refine Sim.condT rfl ?_ | refine Sim.condF rfl ?_)
          exact hno ht _ sb
        · have ht : nmAt s j k = true := by rw [hnm]; simp [nchr]; omega
          repeat (first | refine RL.vv ?_ | refine RL.p ?_ | refine RL.nil ?_ | refine Sim.seq ?_ | refine Sim.region ?_ | refine Sim.block ?_ | refine Sim.skip ?_ | refine Sim.inBlock ?_ | refine Sim.exit rfl ?_ | refine Sim.condT rfl ?_ | refine Sim.condF rfl ?_)
          exact hgo ht _ sb
  clear hb hbt ha
  rintro w2 ⟨hbt, hb⟩
  generalize endM s j j = k at *
  have ha := hb.at
  have hz : (s.extract j k).size = k - j := by rw [ByteArray.size_extract]; omega
  repeat (first | refine RL.vv ?_ | refine RL.p ?_ | refine RL.nil ?_ | refine Sim.seq ?_ | refine Sim.region ?_ | refine Sim.block ?_ | refine Sim.skip ?_ | refine Sim.inBlock ?_ | refine Sim.exit rfl ?_ | refine Sim.condT rfl ?_ | refine Sim.condF rfl ?_)
  refine Sim.q ?_
  repeat (first | refine RQ.vv ?_ | refine RQ.p ?_)
  refine RQ.vv ?_ (hy := fun wq hq => y_sliceS rfl rfl rfl hge hend)
  repeat (first | refine RQ.vv ?_ | refine RQ.p ?_)
  refine RQ.nil fun w3 hq => ?_
  have hb := hb.up hq
  have hbt := hbt.trans (But.of_up hq)
  by_cases h0 : k = j
  · rw [if_pos h0]
    have h1 : s.extract j k = ⟨#[]⟩ := str_empty (by omega)
    repeat (first | refine RL.vv ?_ | refine RL.p ?_ | refine RL.nil ?_ | refine Sim.seq ?_ | refine Sim.region ?_ | refine Sim.block ?_ | refine Sim.skip ?_ | refine Sim.inBlock ?_ | refine Sim.exit rfl ?_ | refine Sim.condT rfl ?_ | refine Sim.condF rfl ?_)
    refine RL.cx (wstop_t 2 w3 hb) ?_
    rintro _ w4 ⟨rfl, hbt4, hb⟩
    refine ⟨_, rfl, ?_⟩
    repeat (first | refine RL.vv ?_ | refine RL.p ?_ | refine RL.nil ?_ | refine Sim.seq ?_ | refine Sim.region ?_ | refine Sim.block ?_ | refine Sim.skip ?_ | refine Sim.inBlock ?_ | refine Sim.exit rfl ?_ | refine Sim.condT rfl ?_ | refine Sim.condF rfl ?_)
    exact Sim.ret1 Try.func81 rfl rfl ⟨hbt.trans hbt4, ⟨_, rfl⟩, hb⟩
  rw [if_neg h0]
  have h1 : ¬ s.extract j k = ⟨#[]⟩ := fun h => by rw [h] at hz; have : (0 : Nat) = k - j := hz; omega
  generalize s.extract j k = n at *
  by_cases h12 : (12 : Int) < (n.size : Int)
  · rw [if_pos (by omega)]
    repeat (first | refine RL.vv ?_ | refine RL.p ?_ | refine RL.nil ?_ | refine Sim.seq ?_ | refine Sim.region ?_ | refine Sim.block ?_ | refine Sim.skip ?_ | refine Sim.inBlock ?_ | refine Sim.exit rfl ?_ | refine Sim.condT rfl ?_ | refine Sim.condF rfl ?_)
    refine RL.cx (wstop_t 6 w3 hb) ?_
    rintro _ w4 ⟨rfl, hbt4, hb⟩
    refine ⟨_, rfl, ?_⟩
    repeat (first | refine RL.vv ?_ | refine RL.p ?_ | refine RL.nil ?_ | refine Sim.seq ?_ | refine Sim.region ?_ | refine Sim.block ?_ | refine Sim.skip ?_ | refine Sim.inBlock ?_ | refine Sim.exit rfl ?_ | refine Sim.condT rfl ?_ | refine Sim.condF rfl ?_)
    exact Sim.ret1 Try.func81 rfl rfl ⟨hbt.trans hbt4, ⟨_, rfl⟩, hb⟩
  rw [if_neg (by omega)]
  repeat (first | refine RL.vv ?_ | refine RL.p ?_ | refine RL.nil ?_ | refine Sim.seq ?_ | refine Sim.region ?_ | refine Sim.block ?_ | refine Sim.skip ?_ | refine Sim.inBlock ?_ | refine Sim.exit rfl ?_ | refine Sim.condT rfl ?_ | refine Sim.condF rfl ?_)
  refine RL.sb hb fun w4 hbt4 hb => ?_
  repeat (first | refine RL.vv ?_ | refine RL.p ?_ | refine RL.nil ?_ | refine Sim.seq ?_ | refine Sim.region ?_ | refine Sim.block ?_ | refine Sim.skip ?_ | refine Sim.inBlock ?_ | refine Sim.exit rfl ?_ | refine Sim.condT rfl ?_ | refine Sim.condF rfl ?_)
  exact Sim.ret1 Try.func81 rfl rfl ⟨hbt.trans hbt4, rfl, hb⟩
end Go.Proofs.Ytgckpmcdlciibaa
