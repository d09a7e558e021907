import Derived.Test.YtgckpmcdlciibaaC4
namespace Go.Proofs.Ytgckpmcdlciibaa
open Go.RowKit

set_option maxHeartbeats 400000 in
theorem RAt_any {S : Nat → Prop} {v : Value} {l : List Fld} (n : Str) (w : World) (hl : SliceOf fldLay S w v l) :
    Calls Try.prog 30 #[v, .string n] w fun en w' => en = .returned (.int .i64 (fieldF l n)) ∧ Up w w' := by
  refine calls_of_sim Try.func30 rfl (Nat.le_of_ble_eq_true rfl) ?_
  obtain ⟨a, c, rfl, hnc, hcm, hel⟩ := id hl
  unfold maxLen at hcm
  repeat (first | refine RL.vv ?_ | refine RL.p ?_ | refine RL.nil ?_ | refine Sim.seq ?_ | refine Sim.region ?_ | refine Sim.block ?_ | refine Sim.skip ?_ | refine Sim.inBlock ?_ | refine Sim.exit rfl ?_ | refine Sim.condT rfl ?_ | refine Sim.condF rfl ?_)
  refine Sim.loop (σ := Nat) (fun i => [(0, .slice a l.length c), (1, .string n), (7, .slice a l.length c), (8, .int .i64 (l.length : Int)), (9, .int .i64 (i : Int))]) (fun i w' => i ≤ l.length ∧ Up w w' ∧ ∀ (j : Nat) x, j < i → l[j]? = some x → decide (x.name = n) = false) (fun i => l.length - i) 0 sb ⟨Nat.zero_le _, Up.refl _, fun j x hj => absurd hj (Nat.not_lt_zero _)⟩ ?_
  rintro i w1 ⟨hi, hu, hno⟩ next
  by_cases hlt : i < l.length
  · have hx : l[i]? = some l[i] := List.getElem?_eq_getElem hlt
    obtain ⟨b, o, cs, rfl, _, hat, rfl, _⟩ := hl.at hx
    have hat : At w b (o + i * 3) _ := hat
    by_cases hn : l[i].name = n
    · repeat (first | refine RL.vv ?_ | refine RL.p ?_ | refine RL.nil ?_ | refine Sim.seq ?_ | refine Sim.region ?_ | refine Sim.block ?_ | refine Sim.skip ?_ | refine Sim.inBlock ?_ | refine Sim.exit rfl ?_ | refine Sim.condT rfl ?_ | refine Sim.condF rfl ?_)
      refine RL.alloc trivial rfl fun w2 hu2 hb2 _ => ?_
      repeat (first | refine RL.vv ?_ | refine RL.p ?_ | refine RL.nil ?_ | refine Sim.seq ?_ | refine Sim.region ?_ | refine Sim.block ?_ | refine Sim.skip ?_ | refine Sim.inBlock ?_ | refine Sim.exit rfl ?_ | refine Sim.condT rfl ?_ | refine Sim.condF rfl ?_)
      refine RL.store trivial rfl rfl hb2 rfl rfl (by simp [Value.oneCell']) (Nat.le_of_ble_eq_true rfl) rfl fun w3 hb3 hb4 => ?_
      have hu := (hu.trans hu2).but hb3 hu.size
      repeat (first | refine RL.vv ?_ | refine RL.p ?_ | refine RL.nil ?_ | refine Sim.seq ?_ | refine Sim.region ?_ | refine Sim.block ?_ | refine Sim.skip ?_ | refine Sim.inBlock ?_ | refine Sim.exit rfl ?_ | refine Sim.condT rfl ?_ | refine Sim.condF rfl ?_)
      exact Sim.ret1 Try.func30 rfl rfl ⟨by rw [fieldF, firstIdx_hit hx (decide_eq_true hn) hno], hu⟩
    · repeat (first | refine RL.vv ?_ | refine RL.p ?_ | refine RL.nil ?_ | refine Sim.seq ?_ | refine Sim.region ?_ | refine Sim.block ?_ | refine Sim.skip ?_ | refine Sim.inBlock ?_ | refine Sim.exit rfl ?_ | refine Sim.condT rfl ?_ | refine Sim.condF rfl ?_)
      refine RL.alloc trivial rfl fun w2 hu2 hb2 _ => ?_
      repeat (first | refine RL.vv ?_ | refine RL.p ?_ | refine RL.nil ?_ | refine Sim.seq ?_ | refine Sim.region ?_ | refine Sim.block ?_ | refine Sim.skip ?_ | refine Sim.inBlock ?_ | refine Sim.exit rfl ?_ | refine Sim.condT rfl ?_ | refine Sim.condF rfl ?_)
      refine RL.store trivial rfl rfl hb2 rfl rfl (by simp [Value.oneCell']) (Nat.le_of_ble_eq_true rfl) rfl fun w3 hb3 hb4 => ?_
      have hu := (hu.trans hu2).but hb3 hu.size
      repeat (first | refine RL.vv ?_ | refine RL.p ?_ | refine RL.nil ?_ | refine Sim.seq ?_ | refine Sim.region ?_ | refine Sim.block ?_ | refine Sim.skip ?_ | refine Sim.inBlock ?_ | refine Sim.exit rfl ?_ | refine Sim.condT rfl ?_ | refine Sim.condF rfl ?_)
      refine next (i + 1) _ _ ⟨by omega, hu, fun j x hj hxj => ?_⟩ (by omega) sb
      by_cases hji : j = i
      · subst hji; rw [hx] at hxj; cases hxj; exact decide_eq_false hn
      · exact hno j x (by omega) hxj
  · repeat (first | refine RL.vv ?_ | refine RL.p ?_ | refine RL.nil ?_ | refine Sim.seq ?_ | refine Sim.region ?_ | refine Sim.block ?_ | refine Sim.skip ?_ | refine Sim.inBlock ?_ | refine Sim.exit rfl ?_ | refine Sim.condT rfl ?_ | refine Sim.condF rfl ?_)
    exact Sim.ret1 Try.func30 rfl rfl ⟨by rw [fieldF, firstIdx_miss (fun j x hxj => hno j x (by have := (List.getElem?_eq_some_iff.1 hxj).1; omega) hxj)], hu⟩

set_option maxHeartbeats 400000 in
theorem RHas_any {S : Nat → Prop} {v : Value} {l : List Fld} (n : Str) (w : World) (hl : SliceOf fldLay S w v l) :
    Calls Try.prog 55 #[v, .string n] w fun en w' => en = .returned (.bool (decide (0 ≤ fieldF l n))) ∧ Up w w' := by
  refine calls_of_sim Try.func55 rfl (Nat.le_of_ble_eq_true rfl) ?_
  repeat (first | refine RL.vv ?_ | refine RL.p ?_ | refine RL.nil ?_ | refine Sim.seq ?_ | refine Sim.region ?_ | refine Sim.block ?_ | refine Sim.skip ?_ | refine Sim.inBlock ?_ | refine Sim.exit rfl ?_ | refine Sim.condT rfl ?_ | refine Sim.condF rfl ?_)
  refine RL.call trivial rfl (c_static rfl) (RAt_any n w hl) ?_
  rintro _ w2 ⟨rfl, hu2⟩
  refine ⟨_, rfl, ?_⟩
  repeat (first | refine RL.vv ?_ | refine RL.p ?_ | refine RL.nil ?_ | refine Sim.seq ?_ | refine Sim.region ?_ | refine Sim.block ?_ | refine Sim.skip ?_ | refine Sim.inBlock ?_ | refine Sim.exit rfl ?_ | refine Sim.condT rfl ?_ | refine Sim.condF rfl ?_)
  exact Sim.ret1 Try.func55 rfl rfl ⟨rfl, hu2⟩

set_option maxHeartbeats 1000000 in
theorem fields_any {S : Nat → Prop} {v fv : Value} {l : List Typ} {t : Typ} {tb to : Nat} (w : World) (hl : SliceOf typLay S w v l) (hat : At w tb to [.string t.name, fv]) (hf : SliceOf fldLay S w fv t.fields) :
    Calls Try.prog 61 #[v, .pointer (some ⟨tb, to, none⟩)] w fun en w' => en = .returned (.int .i64 (fieldsErr l t)) ∧ Up w w' := by
  refine calls_of_sim Try.func61 rfl (Nat.le_of_ble_eq_true rfl) ?_
  obtain ⟨a, c, rfl, hnc, hcm, hel⟩ := id hf
  unfold maxLen at hcm
  by_cases hbig : (10 : Int) < t.fields.length
  · repeat (first | refine RL.vv ?_ | refine RL.p ?_ | refine RL.nil ?_ | refine Sim.seq ?_ | refine Sim.region ?_ | refine Sim.block ?_ | refine Sim.skip ?_ | refine Sim.inBlock ?_ | refine Sim.exit rfl ?_ | refine Sim.condT rfl ?_ | refine Sim.condF rfl ?_)
    exact Sim.ret1 Try.func61 rfl rfl ⟨by rw [fieldsErr, if_pos (by omega)], Up.refl _⟩
  repeat (first | refine RL.vv ?_ | refine RL.p ?_ | refine RL.nil ?_ | refine Sim.seq ?_ | refine Sim.region ?_ | refine Sim.block ?_ | refine Sim.skip ?_ | refine Sim.inBlock ?_ | refine Sim.exit rfl ?_ | refine Sim.condT rfl ?_ | refine Sim.condF rfl ?_)
  refine Sim.loop (σ := Nat) (fun i => [(0, v), (1, .pointer (some ⟨tb, to, none⟩)), (16, .slice a t.fields.length c), (17, .int .i64 (t.fields.length : Int)), (18, .int .i64 (i : Int))]) (fun i w' => i ≤ t.fields.length ∧ Up w w' ∧ ∀ (j : Nat) x, j < i → t.fields[j]? = some x → fieldErr l t.fields j x = 0) (fun i => t.fields.length - i) 0 sb ⟨Nat.zero_le _, Up.refl _, fun j x hj => absurd hj (Nat.not_lt_zero _)⟩ ?_
  rintro i w1 ⟨hi, hu, hno⟩ next
  by_cases hlt : i < t.fields.length
  · have hx : t.fields[i]? = some t.fields[i] := List.getElem?_eq_getElem hlt
    obtain ⟨b, o, cs, rfl, _, hat2, rfl, _⟩ := hf.at hx
    have hat2 : At w b (o + i * 3) _ := hat2
    have bad : ∀ r, fieldErr l t.fields i t.fields[i] = r → r ≠ 0 → fieldsErr l t = r := fun r hr hne => by rw [fieldsErr, if_neg (by omega), firstBad_hit hx hno (by rw [hr]; exact hne)]; exact hr
    have good : fieldErr l t.fields i t.fields[i] = 0 → ∀ (j : Nat) x, j < i + 1 → t.fields[j]? = some x → fieldErr l t.fields j x = 0 := fun h0 j x hj hxj => by
      by_cases hji : j = i
      · subst hji; rw [hx] at hxj; cases hxj; exact h0
      · exact hno j x (by omega) hxj
    unfold fieldErr at bad good
    generalize t.fields[i] = f at *
    have htk := (hf.take (i := i) (by omega))
    repeat (first | refine RL.vv ?_ | refine RL.p ?_ | refine RL.nil ?_ | refine Sim.seq ?_ | refine Sim.region ?_ | refine Sim.block ?_ | refine Sim.skip ?_ | refine Sim.inBlock ?_ | refine Sim.exit rfl ?_ | refine Sim.condT rfl ?_ | refine Sim.condF rfl ?_)
    refine RL.alloc trivial rfl fun w2 hu2 hb2 _ => ?_
    repeat (first | refine RL.vv ?_ | refine RL.p ?_ | refine RL.nil ?_ | refine Sim.seq ?_ | refine Sim.region ?_ | refine Sim.block ?_ | refine Sim.skip ?_ | refine Sim.inBlock ?_ | refine Sim.exit rfl ?_ | refine Sim.condT rfl ?_ | refine Sim.condF rfl ?_)
    refine RL.store trivial rfl rfl hb2 rfl rfl (by simp [Value.oneCell']) (Nat.le_of_ble_eq_true rfl) rfl fun w3 hb3 hb4 => ?_
    have hu := (hu.trans hu2).but hb3 hu.size
    clear hb2 hb3 hu2 hno
    repeat (first | refine RL.vv ?_ | refine RL.p ?_ | refine RL.nil ?_ | refine Sim.seq ?_ | refine Sim.region ?_ | refine Sim.block ?_ | refine Sim.skip ?_ | refine Sim.inBlock ?_ | refine Sim.exit rfl ?_ | refine Sim.condT rfl ?_ | refine Sim.condF rfl ?_)
    refine Sim.quiet (Up w3) mixed (by kernel_rfl) (Up.drew _) ?_
    repeat (first | refine RQ.vv ?_ | refine RQ.p ?_)
    rcases Bool.eq_false_or_eq_true (named f.name) with hn | hn
    · refine RQ.call trivial rfl (fun wq hq => c_static rfl) (fun wq hq => q_call (c_val (Named_any f.name wq) (by rw [hn])) hq) ?_
      repeat (first | refine RQ.vv ?_ | refine RQ.p ?_)
      refine RQ.call ⟨_, _, rfl, rfl, rfl⟩ rfl (fun wq hq => c_static rfl) (fun wq hq => q_call (Field_any f.name wq (htk.up (hu.trans hq))) hq) ?_
      by_cases hF : 0 ≤ fieldF (t.fields.take i) f.name
      · repeat (first | refine RQ.vv ?_ | refine RQ.p ?_)
        refine RQ.nil fun w4 hq => ?_
        have hu := hu.trans hq
        repeat (first | refine RL.vv ?_ | refine RL.p ?_ | refine RL.nil ?_ | refine Sim.seq ?_ | refine Sim.region ?_ | refine Sim.block ?_ | refine Sim.skip ?_ | refine Sim.inBlock ?_ | refine Sim.exit rfl ?_ | refine Sim.condT rfl ?_ | refine Sim.condF rfl ?_)
        exact Sim.ret1 Try.func61 rfl rfl ⟨by rw [bad 6 (if_neg (fun h => h.2 hF)) (by decide)], hu⟩
      repeat (first | refine RQ.vv ?_ | refine RQ.p ?_)
      refine RQ.nil fun w4 hq => ?_
      have hu := hu.trans hq
      have hb4 := hb4.up hq
      rw [if_pos ⟨hn, hF⟩] at bad good
      by_cases k1 : f.kind < 1
      · repeat (first | refine RL.vv ?_ | refine RL.p ?_ | refine RL.nil ?_ | refine Sim.seq ?_ | refine Sim.region ?_ | refine Sim.block ?_ | refine Sim.skip ?_ | refine Sim.inBlock ?_ | refine Sim.exit rfl ?_ | refine Sim.condT rfl ?_ | refine Sim.condF rfl ?_)
        exact Sim.ret1 Try.func61 rfl rfl ⟨by rw [bad 1 (if_pos (.inl k1)) (by decide)], hu⟩
      by_cases k3 : 3 < f.kind
      · repeat (first | refine RL.vv ?_ | refine RL.p ?_ | refine RL.nil ?_ | refine Sim.seq ?_ | refine Sim.region ?_ | refine Sim.block ?_ | refine Sim.skip ?_ | refine Sim.inBlock ?_ | refine Sim.exit rfl ?_ | refine Sim.condT rfl ?_ | refine Sim.condF rfl ?_)
        exact Sim.ret1 Try.func61 rfl rfl ⟨by rw [bad 1 (if_pos (.inr k3)) (by decide)], hu⟩
      rw [if_neg (by omega)] at bad good
      by_cases kw : f.kind = 1
      · rw [if_pos kw] at bad good
        by_cases ht : f.type = ⟨#[]⟩
        · rw [if_pos ht] at bad good
          repeat (first | refine RL.vv ?_ | refine RL.p ?_ | refine RL.nil ?_ | refine Sim.seq ?_ | refine Sim.region ?_ | refine Sim.block ?_ | refine Sim.skip ?_ | refine Sim.inBlock ?_ | refine Sim.exit rfl ?_ | refine Sim.condT rfl ?_ | refine Sim.condF rfl ?_)
          exact next (i + 1) _ _ ⟨by omega, hu, good rfl⟩ (by omega) sb
        · repeat (first | refine RL.vv ?_ | refine RL.p ?_ | refine RL.nil ?_ | refine Sim.seq ?_ | refine Sim.region ?_ | refine Sim.block ?_ | refine Sim.skip ?_ | refine Sim.inBlock ?_ | refine Sim.exit rfl ?_ | refine Sim.condT rfl ?_ | refine Sim.condF rfl ?_)
          exact Sim.ret1 Try.func61 rfl rfl ⟨by rw [bad 7 (if_neg ht) (by decide)], hu⟩
      · rw [if_neg kw] at bad good
        repeat (first | refine RL.vv ?_ | refine RL.p ?_ | refine RL.nil ?_ | refine Sim.seq ?_ | refine Sim.region ?_ | refine Sim.block ?_ | refine Sim.skip ?_ | refine Sim.inBlock ?_ | refine Sim.exit rfl ?_ | refine Sim.condT rfl ?_ | refine Sim.condF rfl ?_)
        refine RL.call ⟨_, _, rfl, rfl, rfl⟩ rfl (c_static rfl) (Find_any f.type w4 (hl.up hu)) ?_
        rintro _ w5 ⟨rfl, hu5⟩
        have hu := hu.trans hu5
        refine ⟨_, rfl, ?_⟩
        by_cases hT : findT l f.type < 0
        · repeat (first | refine RL.vv ?_ | refine RL.p ?_ | refine RL.nil ?_ | refine Sim.seq ?_ | refine Sim.region ?_ | refine Sim.block ?_ | refine Sim.skip ?_ | refine Sim.inBlock ?_ | refine Sim.exit rfl ?_ | refine Sim.condT rfl ?_ | refine Sim.condF rfl ?_)
          exact Sim.ret1 Try.func61 rfl rfl ⟨by rw [bad 5 (if_pos hT) (by decide)], hu⟩
        · rw [if_neg hT] at bad good
          repeat (first | refine RL.vv ?_ | refine RL.p ?_ | refine RL.nil ?_ | refine Sim.seq ?_ | refine Sim.region ?_ | refine Sim.block ?_ | refine Sim.skip ?_ | refine Sim.inBlock ?_ | refine Sim.exit rfl ?_ | refine Sim.condT rfl ?_ | refine Sim.condF rfl ?_)
          exact next (i + 1) _ _ ⟨by omega, hu, good rfl⟩ (by omega) sb
    · refine RQ.call trivial rfl (fun wq hq => c_static rfl) (fun wq hq => q_call (c_val (Named_any f.name wq) (by rw [hn])) hq) ?_
      repeat (first | refine RQ.vv ?_ | refine RQ.p ?_)
      refine RQ.nil fun w4 hq => ?_
      have hu := hu.trans hq
      repeat (first | refine RL.vv ?_ | refine RL.p ?_ | refine RL.nil ?_ | refine Sim.seq ?_ | refine Sim.region ?_ | refine Sim.block ?_ | refine Sim.skip ?_ | refine Sim.inBlock ?_ | refine Sim.exit rfl ?_ | refine Sim.condT rfl ?_ | refine Sim.condF rfl ?_)
      exact Sim.ret1 Try.func61 rfl rfl ⟨by rw [bad 6 (if_neg (fun h => by rw [hn] at h; cases h.1)) (by decide)], hu⟩
  · repeat (first | refine RL.vv ?_ | refine RL.p ?_ | refine RL.nil ?_ | refine Sim.seq ?_ | refine Sim.region ?_ | refine Sim.block ?_ | refine Sim.skip ?_ | refine Sim.inBlock ?_ | refine Sim.exit rfl ?_ | refine Sim.condT rfl ?_ | refine Sim.condF rfl ?_)
    exact Sim.ret1 Try.func61 rfl rfl ⟨by rw [fieldsErr, if_neg (by omega), firstBad_none (fun j x hxj => hno j x (by have := (List.getElem?_eq_some_iff.1 hxj).1; omega) hxj)], hu⟩
end Go.Proofs.Ytgckpmcdlciibaa
