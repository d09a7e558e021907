/- stitchlaw1.SchemaFirst answers true, whatever it is called with, and leaves its arguments as they were. Its conditions: none beyond those that the given row states. -/
import Derived.Test.YtgckpmcdlciibaaRow
import Derived.Test.YtgckpmcdlciibaaL2
namespace Go.Proofs.Ytgckpmcdlciibaa
open Go.ChangeShapes Go.WideShapes Go.ChangeAt Go.RowKit

theorem thgErr_take {l : List Typ} {xs : List Thg} {i k : Nat} {x : Thg} (h : i ≤ k) : thgErr l (xs.take k) i x = thgErr l xs i x := by
  unfold thgErr
  rw [List.take_take, Nat.min_eq_left h]
theorem thgsErr_take {l : List Typ} {xs : List Thg} {k : Nat} (h60 : ¬ 60 < xs.length) (h : ∀ (j : Nat) x, j < k → xs[j]? = some x → thgErr l xs j x = 0) : thgsErr l (xs.take k) = ⟨0, 0⟩ := by
  rw [thgsErr, if_neg (by simp; omega), firstBad_none fun j y hy => ?_]
  have hj : j < k := by
    have := (List.getElem?_eq_some_iff.1 hy).1
    simp at this
    omega
  rw [thgErr_take (by omega)]
  rw [List.getElem?_take, if_pos hj] at hy
  exact h j y hj hy
theorem thgsErr_spec {l : List Typ} {xs : List Thg} (h60 : ¬ 60 < xs.length) :
    (∃ (i : Nat) (e : Int), thgsErr l xs = ⟨e, i⟩ ∧ e ≠ 0 ∧ i < xs.length ∧ ∀ (j : Nat) x, j < i → xs[j]? = some x → thgErr l xs j x = 0) ∨ (thgsErr l xs = ⟨0, 0⟩ ∧ ∀ (j : Nat) x, xs[j]? = some x → thgErr l xs j x = 0) := by
  have hw : thgsErr l xs = _ := if_neg h60
  cases hf : firstBad (thgErr l xs) 0 xs with
  | none =>
    rw [hf] at hw
    exact .inr ⟨hw, fun j x hx => by have := firstBad_eq_none hf j x hx; rwa [Nat.zero_add] at this⟩
  | some p =>
    obtain ⟨i, e⟩ := p
    rw [hf] at hw
    obtain ⟨x, j, hij, hx, _, hne, hall⟩ := firstBad_some hf
    rw [Nat.zero_add] at hij
    subst hij
    exact .inl ⟨i, e, hw, hne, (List.getElem?_eq_some_iff.1 hx).1, fun j x hj hx => by have := hall j x hj hx; rwa [Nat.zero_add] at this⟩

set_option maxHeartbeats 2000000 in
theorem SchemaFirst_walk {S S' : Nat → Prop} {v xv : Value} {l : List Typ} {xs : List Thg} (at_ : Int) (w : World) (hl : SliceOf typLay S w v l) (hxs : SliceOf thgLay S' w xv xs) :
    Calls Try.prog 7 #[v, xv, .int .i64 at_] w fun en w' => en = .returned (.bool true) ∧ Up w w' := by
  refine calls_of_sim Try.func7 rfl (Nat.le_of_ble_eq_true rfl) ?_
  obtain ⟨xa, xc, rfl, hxnc, hxcm, _⟩ := id hxs
  unfold maxLen at hxcm
  repeat (first | refine RL.vv ?_ | refine RL.p ?_ | refine RL.nil ?_ | refine Sim.seq ?_ | refine Sim.region ?_ | refine Sim.block ?_ | refine Sim.skip ?_ | refine Sim.inBlock ?_ | refine Sim.exit rfl ?_ | refine Sim.condT rfl ?_ | refine Sim.condF rfl ?_)
  refine RL.call trivial rfl (c_static rfl) (alive1_any w) ?_
  rintro _ w1 ⟨rfl, hu⟩
  refine ⟨_, rfl, ?_⟩
  repeat (first | refine RL.vv ?_ | refine RL.p ?_ | refine RL.nil ?_ | refine Sim.seq ?_ | refine Sim.region ?_ | refine Sim.block ?_ | refine Sim.skip ?_ | refine Sim.inBlock ?_ | refine Sim.exit rfl ?_ | refine Sim.condT rfl ?_ | refine Sim.condF rfl ?_)
  refine RL.call trivial rfl (c_static rfl) (Wrong_any w1 (hl.up hu)) ?_
  rintro _ w2 ⟨rfl, hu2⟩
  refine ⟨_, rfl, ?_⟩
  have hu := hu.trans hu2
  clear hu2
  refine RL.val trivial rfl (y_field (v := .int .i64 (wrongT l).err) rfl (fun w => by kernel_rfl)) ?_
  by_cases hw : (wrongT l).err = 0
  · by_cases h60 : (60 : Int) < xs.length
    · repeat (first | refine RL.vv ?_ | refine RL.p ?_ | refine RL.nil ?_ | refine Sim.seq ?_ | refine Sim.region ?_ | refine Sim.block ?_ | refine Sim.skip ?_ | refine Sim.inBlock ?_ | refine Sim.exit rfl ?_ | refine Sim.condT rfl ?_ | refine Sim.condF rfl ?_)
      exact Sim.ret1 Try.func7 rfl rfl ⟨rfl, hu⟩
    repeat (first | refine RL.vv ?_ | refine RL.p ?_ | refine RL.nil ?_ | refine Sim.seq ?_ | refine Sim.region ?_ | refine Sim.block ?_ | refine Sim.skip ?_ | refine Sim.inBlock ?_ | refine Sim.exit rfl ?_ | refine Sim.condT rfl ?_ | refine Sim.condF rfl ?_)
    refine RL.call trivial rfl (c_static rfl) (Things_any w2 (hl.up hu) (hxs.up hu)) ?_
    rintro _ w3 ⟨rfl, hu3⟩
    refine ⟨_, rfl, ?_⟩
    have hu := hu.trans hu3
    clear hu3
    refine RL.alloc trivial rfl fun w4 hu4 hb _ => ?_
    refine RL.store trivial rfl rfl hb rfl rfl (by simp [Value.oneCell']) (Nat.le_of_ble_eq_true rfl) rfl fun w5 hc5 hb => ?_
    have hu := (hu.trans hu4).but hc5 hu.size
    clear hu4 hc5
    rcases thgsErr_spec (l := l) (xs := xs) (by omega) with ⟨i, e, hf, hne, hil, hgood⟩ | ⟨hf, hgood⟩
    · have hb : Box w5 w3.heap.size 51 [.int .i64 e, .int .i64 (i : Int)] := by rw [hf] at hb; exact hb
      repeat (first | refine RL.vv ?_ | refine RL.p ?_ | refine RL.nil ?_ | refine Sim.seq ?_ | refine Sim.region ?_ | refine Sim.block ?_ | refine Sim.skip ?_ | refine Sim.inBlock ?_ | refine Sim.exit rfl ?_ | refine Sim.condT rfl ?_ | refine Sim.condF rfl ?_)
      refine RL.call trivial rfl (c_static rfl) (Things_any w5 (hl.up hu) ((hxs.take (i := i) (by omega)).up hu)) ?_
      rintro _ w6 ⟨rfl, hu6⟩
      refine ⟨_, rfl, ?_⟩
      rw [thgsErr_take (by omega) hgood]
      refine RL.val trivial rfl (y_field (v := .int .i64 0) rfl (fun w => by kernel_rfl)) ?_
      repeat (first | refine RL.vv ?_ | refine RL.p ?_ | refine RL.nil ?_ | refine Sim.seq ?_ | refine Sim.region ?_ | refine Sim.block ?_ | refine Sim.skip ?_ | refine Sim.inBlock ?_ | refine Sim.exit rfl ?_ | refine Sim.condT rfl ?_ | refine Sim.condF rfl ?_)
      exact Sim.ret1 Try.func7 rfl rfl ⟨rfl, hu.trans hu6⟩
    · have hb : Box w5 w3.heap.size 51 [.int .i64 0, .int .i64 0] := by rw [hf] at hb; exact hb
      by_cases h1 : at_ < 0
      · repeat (first | refine RL.vv ?_ | refine RL.p ?_ | refine RL.nil ?_ | refine Sim.seq ?_ | refine Sim.region ?_ | refine Sim.block ?_ | refine Sim.skip ?_ | refine Sim.inBlock ?_ | refine Sim.exit rfl ?_ | refine Sim.condT rfl ?_ | refine Sim.condF rfl ?_)
        exact Sim.ret1 Try.func7 rfl rfl ⟨rfl, hu⟩
      by_cases h2 : (xs.length : Int) < at_
      · repeat (first | refine RL.vv ?_ | refine RL.p ?_ | refine RL.nil ?_ | refine Sim.seq ?_ | refine Sim.region ?_ | refine Sim.block ?_ | refine Sim.skip ?_ | refine Sim.inBlock ?_ | refine Sim.exit rfl ?_ | refine Sim.condT rfl ?_ | refine Sim.condF rfl ?_)
        exact Sim.ret1 Try.func7 rfl rfl ⟨rfl, hu⟩
      obtain ⟨k, rfl⟩ := Int.eq_ofNat_of_zero_le (by omega : 0 ≤ at_)
      repeat (first | refine RL.vv ?_ | refine RL.p ?_ | refine RL.nil ?_ | refine Sim.seq ?_ | refine Sim.region ?_ | refine Sim.block ?_ | refine Sim.skip ?_ | refine Sim.inBlock ?_ | refine Sim.exit rfl ?_ | refine Sim.condT rfl ?_ | refine Sim.condF rfl ?_)
      refine RL.call trivial rfl (c_static rfl) (Things_any w5 (hl.up hu) ((hxs.take (i := k) (by omega)).up hu)) ?_
      rintro _ w6 ⟨rfl, hu6⟩
      refine ⟨_, rfl, ?_⟩
      rw [thgsErr_take (by omega) fun j x _ hx => hgood j x hx]
      refine RL.val trivial rfl (y_field (v := .int .i64 0) rfl (fun w => by kernel_rfl)) ?_
      repeat (first | refine RL.vv ?_ | refine RL.p ?_ | refine RL.nil ?_ | refine Sim.seq ?_ | refine Sim.region ?_ | refine Sim.block ?_ | refine Sim.skip ?_ | refine Sim.inBlock ?_ | refine Sim.exit rfl ?_ | refine Sim.condT rfl ?_ | refine Sim.condF rfl ?_)
      exact Sim.ret1 Try.func7 rfl rfl ⟨rfl, hu.trans hu6⟩
  · repeat (first | refine RL.vv ?_ | refine RL.p ?_ | refine RL.nil ?_ | refine Sim.seq ?_ | refine Sim.region ?_ | refine Sim.block ?_ | refine Sim.skip ?_ | refine Sim.inBlock ?_ | refine Sim.exit rfl ?_ | refine Sim.condT rfl ?_ | refine Sim.condF rfl ?_)
    exact Sim.ret1 Try.func7 rfl rfl ⟨rfl, hu⟩

set_option maxRecDepth 100000 in
theorem schemaFirst_lifted (os : Os) (started : os.Started) (H : Type) (enc : TypeId × Value → H) :
    ReturnsInHanded {} Try.checked os 7 .any (Rows.schemaFirstSpec.pre6 enc Try.prog Try.f7 Rows.schemaFirstRow.domain false) (Rows.schemaFirstSpec.post enc Try.prog Try.f7 false true false false) := by
  refine returnsInHanded_of_change (C := Try.checked) own started (by kernel_rfl) Try.func7
    (ChangeSpec.witness6 (enc := enc) (C := Try.checked) false ⟨#[], #[.slice none 0 0, .slice none 0 0, .int .i64 0], []⟩ 8 (by kernel_rfl) (by kernel_rfl) (by kernel_rfl) (by kernel_rfl)) ?_
  intro W base args ds gs before hval0 hW hcnd _
  have hval : ∀ (j : Nat) t v, Try.f7.params[j]? = some t → args[j]? = some v → Value.okWide Try.prog W .any base t v := hval0
  have hW' := hW
  obtain ⟨p, q, hA0, hV, rfl, hfz, hnd⟩ := hW
  have hA : DataW.TrodAll enc Try.prog W 0 (fun _ => true) true Try.f7.params.toList args.toList ds p := hA0
  rw [Try.params7] at hA hval
  obtain ⟨v0, v1, v2, d0, d1, d2, p0, p1, p2, rfl, rfl, rfl, h0, h1, h2⟩ := trodAll_three hA
  obtain ⟨a0, l0, c0, rfl⟩ := okWide_slice Try.underlying44 (hval 0 44 v0 rfl rfl)
  obtain ⟨fuel0, h0⟩ := h0
  obtain ⟨u0, x0, hv0, hl0, ho0⟩ := open_list Try.underlying44 (by kernel_rfl) opens_typ h0
  simp only [Value.cells, List.cons.injEq, and_true] at hv0
  subst hv0
  obtain ⟨a1, l1, c1, rfl⟩ := okWide_slice Try.underlying45 (hval 1 45 v1 rfl rfl)
  obtain ⟨fuel1, h1⟩ := h1
  obtain ⟨u1, x1, hv1, hl1, ho1⟩ := open_list Try.underlying45 (by kernel_rfl) opens_thg h1
  simp only [Value.cells, List.cons.injEq, and_true] at hv1
  subst hv1
  obtain ⟨n2, rfl, rfl, rfl, hn2⟩ := open_int Try.underlying3 (hval 2 3 v2 rfl rfl) h2
  refine (SchemaFirst_walk n2 W hl0 hl1).mono fun e W' ⟨he, hu⟩ => ?_
  subst he
  exact ⟨_, rfl, law_post hW' rfl rfl (fun gs hg => by subst hg; rfl) (by kernel_rfl) hu⟩
theorem schemaFirst_holds : Rows.SchemaFirstSaid :=
  OpenClaim.holds_of_wide 7 Try.f7 rfl rfl rfl rfl rfl rfl rfl ⟨rfl, rfl, rfl, rfl, rfl⟩ rfl rfl rfl rfl rfl (by kernel_rfl) Try.func7 (by kernel_rfl)
    (of_decide_eq_true (by kernel_rfl)) (by unfold Func.isWrapper; first | (rw [if_pos (by decide +kernel)]; kernel_rfl) | (rw [if_neg (by decide +kernel)]; exact ⟨rfl, rfl⟩))
    (fun os started H enc _ => schemaFirst_lifted os started H enc)
end Go.Proofs.Ytgckpmcdlciibaa
