/- stitchlaw1.SchemaMore answers true, whatever it is called with, and leaves its arguments as they were. Its conditions: none beyond those that the given row states. -/
import Derived.Test.YtgckpmcdlciibaaRow
import Derived.Test.YtgckpmcdlciibaaP1
import Derived.Test.YtgckpmcdlciibaaEng7
namespace Go.Proofs.Ytgckpmcdlciibaa
open Go.ChangeShapes Go.WideShapes Go.ChangeAt Go.RowKit

set_option maxHeartbeats 2000000 in
theorem SchemaMore_walk {S S' : Nat → Prop} {v xv : Value} {l : List Typ} {xs : List Thg} (n : Str) (w : World) (hl : SliceOf typLay S w v l) (hxs : SliceOf thgLay S' w xv xs) :
    Calls Try.prog 8 #[v, xv, .string n] w fun en w' => en = .returned (.bool true) ∧ Up w w' := by
  refine calls_of_sim Try.func8 rfl (Nat.le_of_ble_eq_true rfl) ?_
  obtain ⟨la, lc, rfl, hlnc, hlcm, _⟩ := id hl
  unfold maxLen at hlcm
  repeat (first | refine RL.vv ?_ | refine RL.p ?_ | refine RL.nil ?_ | refine Sim.seq ?_ | refine Sim.region ?_ | refine Sim.block ?_ | refine Sim.skip ?_ | refine Sim.inBlock ?_ | refine Sim.exit rfl ?_ | refine Sim.condT rfl ?_ | refine Sim.condF rfl ?_)
  refine RL.call trivial rfl (c_static rfl) (alive1_any w) ?_
  rintro _ w1 ⟨rfl, hu⟩
  refine ⟨_, rfl, ?_⟩
  repeat (first | refine RL.vv ?_ | refine RL.p ?_ | refine RL.nil ?_ | refine Sim.seq ?_ | refine Sim.region ?_ | refine Sim.block ?_ | refine Sim.skip ?_ | refine Sim.inBlock ?_ | refine Sim.exit rfl ?_ | refine Sim.condT rfl ?_ | refine Sim.condF rfl ?_)
  refine RL.call trivial rfl (c_static rfl) (Wrong_any w1 (hl.up hu)) ?_
  rintro _ w2 ⟨rfl, hu2⟩
  refine ⟨_, rfl, ?_⟩
  have hu := hu.trans hu2
  clear hu2
  refine RL.val trivial rfl (y_field (v := .int .i64 (wrongT l).err) rfl (fun w => by kernel_rfl)) ?_
  by_cases hw : (wrongT l).err = 0
  · by_cases h8 : (8 : Int) ≤ l.length
    · repeat (first | refine RL.vv ?_ | refine RL.p ?_ | refine RL.nil ?_ | refine Sim.seq ?_ | refine Sim.region ?_ | refine Sim.block ?_ | refine Sim.skip ?_ | refine Sim.inBlock ?_ | refine Sim.exit rfl ?_ | refine Sim.condT rfl ?_ | refine Sim.condF rfl ?_)
      exact Sim.ret1 Try.func8 rfl rfl ⟨rfl, hu⟩
    repeat (first | refine RL.vv ?_ | refine RL.p ?_ | refine RL.nil ?_ | refine Sim.seq ?_ | refine Sim.region ?_ | refine Sim.block ?_ | refine Sim.skip ?_ | refine Sim.inBlock ?_ | refine Sim.exit rfl ?_ | refine Sim.condT rfl ?_ | refine Sim.condF rfl ?_)
    refine RL.call ⟨_, _, rfl, rfl, rfl⟩ rfl (c_static rfl) (Named_any n w2) ?_
    rintro _ w3 ⟨rfl, hu3⟩
    refine ⟨_, rfl, ?_⟩
    have hu := hu.trans hu3
    clear hu3
    rcases Bool.eq_false_or_eq_true (named n) with hn | hn
    · rw [hn]
      repeat (first | refine RL.vv ?_ | refine RL.p ?_ | refine RL.nil ?_ | refine Sim.seq ?_ | refine Sim.region ?_ | refine Sim.block ?_ | refine Sim.skip ?_ | refine Sim.inBlock ?_ | refine Sim.exit rfl ?_ | refine Sim.condT rfl ?_ | refine Sim.condF rfl ?_)
      refine RL.call ⟨_, _, rfl, rfl, rfl⟩ rfl (c_static rfl) (Find_any n w3 (hl.up hu)) ?_
      rintro _ w4 ⟨rfl, hu4⟩
      refine ⟨_, rfl, ?_⟩
      have hu := hu.trans hu4
      clear hu4
      by_cases hf : 0 ≤ findT l n
      · repeat (first | refine RL.vv ?_ | refine RL.p ?_ | refine RL.nil ?_ | refine Sim.seq ?_ | refine Sim.region ?_ | refine Sim.block ?_ | refine Sim.skip ?_ | refine Sim.inBlock ?_ | refine Sim.exit rfl ?_ | refine Sim.condT rfl ?_ | refine Sim.condF rfl ?_)
        exact Sim.ret1 Try.func8 rfl rfl ⟨rfl, hu⟩
      repeat (first | refine RL.vv ?_ | refine RL.p ?_ | refine RL.nil ?_ | refine Sim.seq ?_ | refine Sim.region ?_ | refine Sim.block ?_ | refine Sim.skip ?_ | refine Sim.inBlock ?_ | refine Sim.exit rfl ?_ | refine Sim.condT rfl ?_ | refine Sim.condF rfl ?_)
      refine RL.build (el := 55) [] trivial rfl rfl (fun w => by kernel_rfl) fun w5 hu5 hb5 hs5 => ?_
      have ho := Own.empty (S := fun _ => True) typLay hb5 hu.size
      have h4 := hu.size
      have hlt : ∀ b, b < w.heap.size → some b ≠ some w4.heap.size := fun b hb h => by simp at h; omega
      have hu := hu.trans hu5
      repeat (first | refine RL.vv ?_ | refine RL.p ?_ | refine RL.nil ?_ | refine Sim.seq ?_ | refine Sim.region ?_ | refine Sim.block ?_ | refine Sim.skip ?_ | refine Sim.inBlock ?_ | refine Sim.exit rfl ?_ | refine Sim.condT rfl ?_ | refine Sim.condF rfl ?_)
      refine RL.append trivial rfl rfl rfl rfl (by decide) ho ((hl.old.up hu).mono fun b hb => ⟨trivial, hlt b hb.2⟩) (by simp; omega) hu.size fun v6 w6 ho6 hg6 => ?_
      have hu := Grown.up hg6 hu fun k hk => by simp [Value.ownBlock] at hk; omega
      rw [List.nil_append] at ho6
      clear hg6 ho hlt hb5 hs5 hu5
      repeat (first | refine RL.vv ?_ | refine RL.p ?_ | refine RL.nil ?_ | refine Sim.seq ?_ | refine Sim.region ?_ | refine Sim.block ?_ | refine Sim.skip ?_ | refine Sim.inBlock ?_ | refine Sim.exit rfl ?_ | refine Sim.condT rfl ?_ | refine Sim.condF rfl ?_)
      refine RL.val trivial rfl (y_build (v := .agg #[.string n, .slice none 0 0]) rfl (fun w => by kernel_rfl)) ?_
      refine RL.build (el := 55) [.string n, .slice none 0 0] trivial rfl rfl (fun w => by kernel_rfl) fun w7 hu7 hb7 hs7 => ?_
      have hne : some w6.heap.size ≠ v6.ownBlock := fun h => by have := (ho6.lt _ h.symm).2; omega
      refine RL.append trivial rfl rfl rfl rfl (by decide) (ho6.up hu7) (ys := [⟨n, []⟩]) (SliceOf.lit1 _ _ hb7.at ⟨trivial, hne⟩ ⟨_, rfl, SliceOf.nil _ _ _⟩) (by simp; omega) (hu.trans hu7).size fun v8 w8 ho8 hg8 => ?_
      have hu := Grown.up hg8 (hu.trans hu7) fun k hk => (ho6.lt k hk).1
      clear hg8 ho6 hne hb7 hs7 hu7
      have hm := ho8.slice (fun _ => True) (fun _ _ => trivial) fun _ _ => trivial
      clear ho8
      repeat (first | refine RL.vv ?_ | refine RL.p ?_ | refine RL.nil ?_ | refine Sim.seq ?_ | refine Sim.region ?_ | refine Sim.block ?_ | refine Sim.skip ?_ | refine Sim.inBlock ?_ | refine Sim.exit rfl ?_ | refine Sim.condT rfl ?_ | refine Sim.condF rfl ?_)
      refine RL.call trivial rfl (c_static rfl) (Wrong_any w8 hm) ?_
      rintro _ w9 ⟨rfl, hu9⟩
      refine ⟨_, rfl, ?_⟩
      have e1 := wrongT_more hw (by omega) hn hf
      refine RL.val trivial rfl (y_field (v := .int .i64 (wrongT (l ++ [⟨n, []⟩])).err) rfl (fun w => by kernel_rfl)) ?_
      repeat (first | refine RL.vv ?_ | refine RL.p ?_ | refine RL.nil ?_ | refine Sim.seq ?_ | refine Sim.region ?_ | refine Sim.block ?_ | refine Sim.skip ?_ | refine Sim.inBlock ?_ | refine Sim.exit rfl ?_ | refine Sim.condT rfl ?_ | refine Sim.condF rfl ?_)
      refine RL.call ⟨_, _, rfl, rfl, rfl⟩ rfl (c_static rfl) (c_val (Find_any n w9 (hm.up hu9)) (by rw [findT_more hf])) ?_
      rintro _ w10 ⟨rfl, hu10⟩
      refine ⟨_, rfl, ?_⟩
      repeat (first | refine RL.vv ?_ | refine RL.p ?_ | refine RL.nil ?_ | refine Sim.seq ?_ | refine Sim.region ?_ | refine Sim.block ?_ | refine Sim.skip ?_ | refine Sim.inBlock ?_ | refine Sim.exit rfl ?_ | refine Sim.condT rfl ?_ | refine Sim.condF rfl ?_)
      have hm := (hm.up hu9).up hu10
      have hu := (hu.trans hu9).trans hu10
      clear hu9 hu10
      refine RL.call trivial rfl (c_static rfl) (Things_any w10 (hl.up hu) (hxs.up hu)) ?_
      rintro _ w11 ⟨rfl, hu11⟩
      refine ⟨_, rfl, ?_⟩
      have hm := hm.up hu11
      have hu := hu.trans hu11
      clear hu11
      refine RL.val trivial rfl (y_field (v := .int .i64 (thgsErr l xs).err) rfl (fun w => by kernel_rfl)) ?_
      by_cases h5 : (thgsErr l xs).err = 0
      · have e2 := thgsErr_app (r := [⟨n, []⟩]) h5
        repeat (first | refine RL.vv ?_ | refine RL.p ?_ | refine RL.nil ?_ | refine Sim.seq ?_ | refine Sim.region ?_ | refine Sim.block ?_ | refine Sim.skip ?_ | refine Sim.inBlock ?_ | refine Sim.exit rfl ?_ | refine Sim.condT rfl ?_ | refine Sim.condF rfl ?_)
        refine RL.call ⟨_, _, rfl, rfl, rfl⟩ rfl (c_static rfl) (Things_any w11 hm (hxs.up hu)) ?_
        rintro _ w12 ⟨rfl, hu12⟩
        refine ⟨_, rfl, ?_⟩
        refine RL.val ⟨_, _, rfl, rfl, rfl⟩ rfl (y_field (v := .int .i64 (thgsErr (l ++ [⟨n, []⟩]) xs).err) rfl (fun w => by kernel_rfl)) ?_
        repeat (first | refine RL.vv ?_ | refine RL.p ?_ | refine RL.nil ?_ | refine Sim.seq ?_ | refine Sim.region ?_ | refine Sim.block ?_ | refine Sim.skip ?_ | refine Sim.inBlock ?_ | refine Sim.exit rfl ?_ | refine Sim.condT rfl ?_ | refine Sim.condF rfl ?_)
        exact Sim.ret1 Try.func8 rfl rfl ⟨rfl, hu.trans hu12⟩
      · repeat (first | refine RL.vv ?_ | refine RL.p ?_ | refine RL.nil ?_ | refine Sim.seq ?_ | refine Sim.region ?_ | refine Sim.block ?_ | refine Sim.skip ?_ | refine Sim.inBlock ?_ | refine Sim.exit rfl ?_ | refine Sim.condT rfl ?_ | refine Sim.condF rfl ?_)
        exact Sim.ret1 Try.func8 rfl rfl ⟨rfl, hu⟩
    · rw [hn]
      repeat (first | refine RL.vv ?_ | refine RL.p ?_ | refine RL.nil ?_ | refine Sim.seq ?_ | refine Sim.region ?_ | refine Sim.block ?_ | refine Sim.skip ?_ | refine Sim.inBlock ?_ | refine Sim.exit rfl ?_ | refine Sim.condT rfl ?_ | refine Sim.condF rfl ?_)
      exact Sim.ret1 Try.func8 rfl rfl ⟨rfl, hu⟩
  · repeat (first | refine RL.vv ?_ | refine RL.p ?_ | refine RL.nil ?_ | refine Sim.seq ?_ | refine Sim.region ?_ | refine Sim.block ?_ | refine Sim.skip ?_ | refine Sim.inBlock ?_ | refine Sim.exit rfl ?_ | refine Sim.condT rfl ?_ | refine Sim.condF rfl ?_)
    exact Sim.ret1 Try.func8 rfl rfl ⟨rfl, hu⟩

set_option maxRecDepth 100000 in
theorem schemaMore_lifted (os : Os) (started : os.Started) (H : Type) (enc : TypeId × Value → H) :
    ReturnsInHanded {} Try.checked os 8 .any (Rows.schemaMoreSpec.pre6 enc Try.prog Try.f8 Rows.schemaMoreRow.domain false) (Rows.schemaMoreSpec.post enc Try.prog Try.f8 false true false false) := by
  refine returnsInHanded_of_change (C := Try.checked) own started (by kernel_rfl) Try.func8
    (ChangeSpec.witness6 (enc := enc) (C := Try.checked) false ⟨#[], #[.slice none 0 0, .slice none 0 0, .string ⟨#[]⟩], []⟩ 8 (by kernel_rfl) (by kernel_rfl) (by kernel_rfl) (by kernel_rfl)) ?_
  intro W base args ds gs before hval0 hW hcnd _
  have hval : ∀ (j : Nat) t v, Try.f8.params[j]? = some t → args[j]? = some v → Value.okWide Try.prog W .any base t v := hval0
  have hW' := hW
  obtain ⟨p, q, hA0, hV, rfl, hfz, hnd⟩ := hW
  have hA : DataW.TrodAll enc Try.prog W 0 (fun _ => true) true Try.f8.params.toList args.toList ds p := hA0
  rw [Try.params8] at hA hval
  obtain ⟨v0, v1, v2, d0, d1, d2, p0, p1, p2, rfl, rfl, rfl, h0, h1, h2⟩ := trodAll_three hA
  obtain ⟨a0, l0, c0, rfl⟩ := okWide_slice Try.underlying44 (hval 0 44 v0 rfl rfl)
  obtain ⟨fuel0, h0⟩ := h0
  obtain ⟨u0, x0, hv0, hl0, ho0⟩ := open_list Try.underlying44 (by kernel_rfl) opens_typ h0
  simp only [Value.cells, List.cons.injEq, and_true] at hv0
  subst hv0
  obtain ⟨a1, l1, c1, rfl⟩ := okWide_slice Try.underlying45 (hval 1 45 v1 rfl rfl)
  obtain ⟨fuel1, h1⟩ := h1
  obtain ⟨u1, x1, hv1, hl1, ho1⟩ := open_list Try.underlying45 (by kernel_rfl) opens_thg h1
  simp only [Value.cells, List.cons.injEq, and_true] at hv1
  subst hv1
  obtain ⟨s2, rfl, rfl, rfl, hs2⟩ := ChangeMaps.open_string Try.underlying9 (hval 2 9 v2 rfl rfl) h2
  refine (SchemaMore_walk s2 W hl0 hl1).mono fun e W' ⟨he, hu⟩ => ?_
  subst he
  exact ⟨_, rfl, law_post hW' rfl rfl (fun gs hg => by subst hg; rfl) (by kernel_rfl) hu⟩
theorem schemaMore_holds : Rows.SchemaMoreSaid :=
  OpenClaim.holds_of_wide 8 Try.f8 rfl rfl rfl rfl rfl rfl rfl ⟨rfl, rfl, rfl, rfl, rfl⟩ rfl rfl rfl rfl rfl (by kernel_rfl) Try.func8 (by kernel_rfl)
    (of_decide_eq_true (by kernel_rfl)) (by unfold Func.isWrapper; first | (rw [if_pos (by decide +kernel)]; kernel_rfl) | (rw [if_neg (by decide +kernel)]; exact ⟨rfl, rfl⟩))
    (fun os started H enc _ => schemaMore_lifted os started H enc)
end Go.Proofs.Ytgckpmcdlciibaa
