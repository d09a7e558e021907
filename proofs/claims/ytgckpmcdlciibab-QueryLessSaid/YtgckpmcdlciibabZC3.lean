/- Contracts of chapter 4: what is asked, as a text. -/
import Derived.Test.YtgckpmcdlciibabZC2
import Derived.Test.YtgckpmcdlciibabZE
namespace Go.Proofs.Ytgckpmcdlciibab
open Go.RowKit
theorem lvl_of : ∀ {m : Nat} {S : Nat → Prop} {w : World} {v : Value} {l : List Pck}, SliceOf (pckLay m) S w v l → lvlP m l
  | 0, _, _, _, l, h => by
    cases l with
    | nil => rfl
    | cons p r => exact absurd (Nat.zero_lt_succ _) (pck_zero h)
  | m + 1, _, _, _, l, h => fun p hp => by
    obtain ⟨a, c, rfl, _⟩ := id h
    obtain ⟨i, hi⟩ := List.getElem?_of_mem hp
    obtain ⟨_, _, cs, _, _, _, his, _⟩ := h.at hi
    obtain ⟨_, _, hs⟩ := pckLay_succ his
    exact lvl_of hs
set_option maxHeartbeats 2000000 in
theorem Print_any {m : Nat} {S : Nat → Prop} {v : Value} (q : Ak) (w : World) (hl : SliceOf (pckLay (m + 1)) S w v q.picks) :
    Calls Try.prog 20 #[.agg #[.string q.type, .string q.key, v]] w fun en w' => en = .returned (.tuple #[.string (printM (m + 1) q).1, .int .i64 (printM (m + 1) q).2]) ∧ Up w w' := by
  refine calls_of_sim Try.func20 rfl (Nat.le_of_ble_eq_true rfl) ?_
  obtain ⟨a, c, rfl, hnc, hcm, hel⟩ := id hl
  repeat (first | refine RL.vv ?_ | refine RL.p ?_ | refine RL.nil ?_ | refine Sim.seq ?_ | refine Sim.region ?_ | refine Sim.block ?_ | refine Sim.skip ?_ | refine Sim.inBlock ?_ | refine Sim.exit rfl ?_ | refine Sim.condT rfl ?_ | refine Sim.condF rfl ?_)
  refine RL.bx (.refl w) fun b1 w1 he1 hle1 hu1 _ hb1 => ?_
  have hb1 : Box w1 b1 37 [.string q.type, .string q.key, .slice a q.picks.length c] := hb1
  have ha1 := hb1.at
  repeat (first | refine RL.vv ?_ | refine RL.p ?_ | refine RL.nil ?_ | refine Sim.seq ?_ | refine Sim.region ?_ | refine Sim.block ?_ | refine Sim.skip ?_ | refine Sim.inBlock ?_ | refine Sim.exit rfl ?_ | refine Sim.condT rfl ?_ | refine Sim.condF rfl ?_)
  refine RL.cu hu1 (WrongAsk_any q w1 (hl.up hu1)) fun w2 hu2 h12 => ?_
  have hb1 := hb1.up h12
  have ha1 := hb1.at
  unfold printM
  by_cases h : wrongAsk (m + 1) q = 0
  rotate_left
  · rw [if_neg h]
    repeat (first | refine RL.vv ?_ | refine RL.p ?_ | refine RL.nil ?_ | refine Sim.seq ?_ | refine Sim.region ?_ | refine Sim.block ?_ | refine Sim.skip ?_ | refine Sim.inBlock ?_ | refine Sim.exit rfl ?_ | refine Sim.condT rfl ?_ | refine Sim.condF rfl ?_)
    exact Sim.ret2 Try.func20 rfl rfl rfl ⟨rfl, hu2⟩
  rw [if_pos h]
  obtain ⟨z1, z2, z3, z4⟩ := askT_le h
  have hlv := lvl_of hl
  have htx := text_lvl m q.picks hlv
  have hk : ¬ ¬ wrongAsk (m + 1) q = 0 := fun hn => hn h
  have hl1 := hb1.lt
  repeat (first | refine RL.vv ?_ | refine RL.p ?_ | refine RL.nil ?_ | refine Sim.seq ?_ | refine Sim.region ?_ | refine Sim.block ?_ | refine Sim.skip ?_ | refine Sim.inBlock ?_ | refine Sim.exit rfl ?_ | refine Sim.condT rfl ?_ | refine Sim.condF rfl ?_)
  refine RL.al hu2 fun b5 w3 he5 hle5 hu3 h23 hb5 => ?_
  have hb1 := hb1.up h23
  have ha1 := hb1.at
  have hn : b1 ≠ b5 := by omega
  have hB : Bld w.heap.size b5 [] w3 := ⟨hle5, .pointer none, .slice none 0 0, .inl rfl, hb5, Own.nil _ _ _ _ _⟩
  repeat (first | refine RL.vv ?_ | refine RL.p ?_ | refine RL.nil ?_ | refine Sim.seq ?_ | refine Sim.region ?_ | refine Sim.block ?_ | refine Sim.skip ?_ | refine Sim.inBlock ?_ | refine Sim.exit rfl ?_ | refine Sim.condT rfl ?_ | refine Sim.condF rfl ?_)
  refine RL.vv ?_ (hy := y_cats rfl rfl (by show q.type.size + 1 ≤ _; omega))
  repeat (first | refine RL.vv ?_ | refine RL.p ?_ | refine RL.nil ?_ | refine Sim.seq ?_ | refine Sim.region ?_ | refine Sim.block ?_ | refine Sim.skip ?_ | refine Sim.inBlock ?_ | refine Sim.exit rfl ?_ | refine Sim.condT rfl ?_ | refine Sim.condF rfl ?_)
  refine RL.vv ?_ (hy := y_cats rfl rfl (by rw [ByteArray.size_append]; show q.type.size + 1 + q.key.size ≤ _; omega))
  have hz : (q.type ++ (⟨#[40]⟩ : Str) ++ q.key ++ (⟨#[41]⟩ : Str)).size = q.type.size + 1 + q.key.size + 1 := by rw [ByteArray.size_append, ByteArray.size_append, ByteArray.size_append]; rfl
  refine RL.vv ?_ (hy := y_cats rfl rfl (by rw [ByteArray.size_append, ByteArray.size_append]; show q.type.size + 1 + q.key.size + 1 ≤ _; omega))
  refine RL.cx (WriteString_any (q.type ++ (⟨#[40]⟩ : Str) ++ q.key ++ (⟨#[41]⟩ : Str)) w3 hu3 hB (by rw [hz]; show 0 + _ ≤ _; omega)) ?_
  rintro _ w4 ⟨rfl, hu4, hB, ho⟩
  refine ⟨_, rfl, ?_⟩
  have hb1 := ho.box _ _ _ hb1 hn (by decide)
  have ha1 := hb1.at
  repeat (first | refine RL.vv ?_ | refine RL.p ?_ | refine RL.nil ?_ | refine Sim.seq ?_ | refine Sim.region ?_ | refine Sim.block ?_ | refine Sim.skip ?_ | refine Sim.inBlock ?_ | refine Sim.exit rfl ?_ | refine Sim.condT rfl ?_ | refine Sim.condF rfl ?_)
  refine RL.cx (write_any (m + 1) w4 hu4 hl hB (by rw [List.nil_append, bytes_len, hz, htx]; omega)) ?_
  rintro _ w5 ⟨rfl, hu5, hB, _⟩
  refine ⟨_, rfl, ?_⟩
  rw [htx, List.nil_append, ask_str] at hB
  repeat (first | refine RL.vv ?_ | refine RL.p ?_ | refine RL.nil ?_ | refine Sim.seq ?_ | refine Sim.region ?_ | refine Sim.block ?_ | refine Sim.skip ?_ | refine Sim.inBlock ?_ | refine Sim.exit rfl ?_ | refine Sim.condT rfl ?_ | refine Sim.condF rfl ?_)
  refine RL.cs (Len_any w5 hB) ?_
  by_cases hlen : (1000 : Int) < ((askT (m + 1) q).length : Int)
  · rw [if_pos (by omega)]
    repeat (first | refine RL.vv ?_ | refine RL.p ?_ | refine RL.nil ?_ | refine Sim.seq ?_ | refine Sim.region ?_ | refine Sim.block ?_ | refine Sim.skip ?_ | refine Sim.inBlock ?_ | refine Sim.exit rfl ?_ | refine Sim.condT rfl ?_ | refine Sim.condF rfl ?_)
    exact Sim.ret2 Try.func20 rfl rfl rfl ⟨rfl, hu5⟩
  · rw [if_neg (by omega)]
    repeat (first | refine RL.vv ?_ | refine RL.p ?_ | refine RL.nil ?_ | refine Sim.seq ?_ | refine Sim.region ?_ | refine Sim.block ?_ | refine Sim.skip ?_ | refine Sim.inBlock ?_ | refine Sim.exit rfl ?_ | refine Sim.condT rfl ?_ | refine Sim.condF rfl ?_)
    refine RL.cx (String_any w5 hu5 hB (fun e => by have := congrArg List.length e; rw [List.length_nil] at this; omega)) ?_
    rintro _ w6 ⟨rfl, hu6⟩
    refine ⟨_, rfl, ?_⟩
    repeat (first | refine RL.vv ?_ | refine RL.p ?_ | refine RL.nil ?_ | refine Sim.seq ?_ | refine Sim.region ?_ | refine Sim.block ?_ | refine Sim.skip ?_ | refine Sim.inBlock ?_ | refine Sim.exit rfl ?_ | refine Sim.condT rfl ?_ | refine Sim.condF rfl ?_)
    exact Sim.ret2 Try.func20 rfl rfl rfl ⟨rfl, hu6⟩
end Go.Proofs.Ytgckpmcdlciibab
