/- The closed fact of chapter 5. -/
import Derived.Test.YtgckpmcdlciibaaC27
import Derived.Test.YtgckpmcdlciibaaEngS
import Derived.Test.YtgckpmcdlciibaaLaw5b
namespace Go.Proofs.Ytgckpmcdlciibaa
open Go.RowKit
def zUser : Str := ⟨#[117, 115, 101, 114]⟩
def zName : Str := ⟨#[110, 97, 109, 101]⟩
def zAnn : Str := ⟨#[97, 110, 110]⟩
def zBob : Str := ⟨#[98, 111, 98]⟩
def zAnnT : Str := ⟨#[65, 110, 110]⟩
def zNone : Str := ⟨#[]⟩
def dOne : List Svc := [⟨[⟨zUser, [⟨zName, 1, zNone⟩]⟩], [], [⟨zUser, zAnn, [⟨zName, zAnnT, []⟩]⟩]⟩]
def qOne : Rq := ⟨0, zUser, [zBob, zAnn], [zName]⟩
set_option maxHeartbeats 400000 in
theorem one5_any (w : World) : Calls Try.prog 56 #[] w fun en w' => ∃ v, en = .returned v ∧ Up w w' ∧ SliceOf svcLay All w' v dOne := by
  refine calls_of_sim Try.func56 rfl (Nat.le_of_ble_eq_true rfl) ?_
  repeat (first | refine RL.vv ?_ | refine RL.p ?_ | refine RL.nil ?_ | refine Sim.seq ?_ | refine Sim.region ?_ | refine Sim.block ?_ | refine Sim.skip ?_ | refine Sim.inBlock ?_ | refine Sim.exit rfl ?_ | refine Sim.condT rfl ?_ | refine Sim.condF rfl ?_)
  refine RL.val trivial rfl (y_build (v := .agg #[.string zName, .int .i64 1, .string zNone]) rfl (fun w => by kernel_rfl)) ?_
  refine RL.bu (el := 118) [.string zName, .int .i64 1, .string zNone] (.refl w) fun b1 w1 _ _ hu _ hb1 => ?_
  have h1 : SliceOf fldLay All w1 _ [⟨zName, 1, zNone⟩] := SliceOf.one hb1 trivial rfl
  refine RL.val trivial rfl (y_build (v := .agg #[.string zUser, .slice (some ⟨b1, 0, none⟩) 1 1]) rfl (fun w => by kernel_rfl)) ?_
  refine RL.bu (el := 55) [.string zUser, .slice (some ⟨b1, 0, none⟩) 1 1] hu fun b2 w2 _ _ hu h hb2 => ?_
  have h2 : SliceOf typLay All w2 _ [⟨zUser, [⟨zName, 1, zNone⟩]⟩] := SliceOf.one hb2 trivial ⟨_, rfl, h1.up h⟩
  refine RL.val trivial rfl (y_build (v := .agg #[.string zName, .string zAnnT, .slice none 0 0]) rfl (fun w => by kernel_rfl)) ?_
  refine RL.bu (el := 105) [.string zName, .string zAnnT, .slice none 0 0] hu fun b3 w3 _ _ hu h hb3 => ?_
  have h2 := h2.up h
  have h3 : SliceOf valLay All w3 _ [⟨zName, zAnnT, []⟩] := SliceOf.one hb3 trivial ⟨_, rfl, SliceOf.nil _ _ _⟩
  refine RL.val trivial rfl (y_build (v := .agg #[.string zUser, .string zAnn, .slice (some ⟨b3, 0, none⟩) 1 1]) rfl (fun w => by kernel_rfl)) ?_
  refine RL.bu (el := 103) [.string zUser, .string zAnn, .slice (some ⟨b3, 0, none⟩) 1 1] hu fun b4 w4 _ _ hu h hb4 => ?_
  have h2 := h2.up h
  have h4 : SliceOf thgLay All w4 _ [⟨zUser, zAnn, [⟨zName, zAnnT, []⟩]⟩] := SliceOf.one hb4 trivial ⟨_, rfl, h3.up h⟩
  refine RL.val trivial rfl (y_build (v := .agg #[.slice (some ⟨b2, 0, none⟩) 1 1, .slice none 0 0, .slice (some ⟨b4, 0, none⟩) 1 1]) rfl (fun w => by kernel_rfl)) ?_
  refine RL.bu (el := 100) [.slice (some ⟨b2, 0, none⟩) 1 1, .slice none 0 0, .slice (some ⟨b4, 0, none⟩) 1 1] hu fun b5 w5 _ _ hu h hb5 => ?_
  have h5 : SliceOf svcLay All w5 _ dOne := SliceOf.one hb5 trivial ⟨_, _, _, rfl, h2.up h, SliceOf.nil _ _ _, h4.up h⟩
  repeat (first | refine RL.vv ?_ | refine RL.p ?_ | refine RL.nil ?_ | refine Sim.seq ?_ | refine Sim.region ?_ | refine Sim.block ?_ | refine Sim.skip ?_ | refine Sim.inBlock ?_ | refine Sim.exit rfl ?_ | refine Sim.condT rfl ?_ | refine Sim.condF rfl ?_)
  exact Sim.ret1 Try.func56 rfl rfl ⟨_, rfl, hu, h5⟩
theorem okOne : ∀ s ∈ dOne, okSvc s := by
  simp only [okSvc, okL, okWT, okWX, okWV, okFld, okChg, okS]
  decide +kernel
theorem ansOne : answerM dOne qOne = (⟨[false, true], [[], [⟨zName, zAnnT, []⟩]]⟩, 0) := by decide +kernel
set_option maxHeartbeats 1000000 in
theorem alive5_any (w : World) : Calls Try.prog 20 #[] w fun en w' => en = .returned (.bool true) ∧ Up w w' := by
  refine calls_of_sim Try.func20 rfl (Nat.le_of_ble_eq_true rfl) ?_
  repeat (first | refine RL.vv ?_ | refine RL.p ?_ | refine RL.nil ?_ | refine Sim.seq ?_ | refine Sim.region ?_ | refine Sim.block ?_ | refine Sim.skip ?_ | refine Sim.inBlock ?_ | refine Sim.exit rfl ?_ | refine Sim.condT rfl ?_ | refine Sim.condF rfl ?_)
  refine RL.cx (one5_any w) ?_
  rintro _ w1 ⟨v, rfl, hu, hl⟩
  refine ⟨_, rfl, ?_⟩
  obtain ⟨la, lc, rfl, _⟩ := id hl
  refine RL.bu (el := 9) ([.string zBob] ++ [.string zAnn]) hu fun b1 w2 _ _ hu h hb1 => ?_
  have hl := hl.up h
  refine RL.bu (el := 9) [.string zName] hu fun b2 w3 _ _ hu h hb2 => ?_
  have hl := hl.up h
  have hk : SliceOf strLay All w3 (.slice (some ⟨b1, 0, none⟩) 2 2) [zBob, zAnn] := SliceOf.lit2 _ _ _ _ (hb1.up h).at trivial rfl rfl
  have hf : SliceOf strLay All w3 (.slice (some ⟨b2, 0, none⟩) 1 1) [zName] := SliceOf.one hb2 trivial rfl
  refine RL.val trivial rfl (y_build (v := .agg #[.int .i64 0, .string zUser, .slice (some ⟨b1, 0, none⟩) 2 2, .slice (some ⟨b2, 0, none⟩) 1 1]) rfl (fun w => by kernel_rfl)) ?_
  refine RL.cx (SAnswer_any qOne w3 hl hk hf okOne (by decide)) ?_
  rintro _ w4 ⟨a, b, rfl, h34, hr⟩
  refine ⟨_, rfl, ?_⟩
  have hu := hu.trans h34
  rw [ansOne] at hr ⊢
  obtain ⟨aa, ac, rfl⟩ := hr.1.shape
  obtain ⟨ba, bc, rfl⟩ := hr.2.1.shape
  clear hk hf hl hb1 hb2 h h34
  have hfs := (hr.1.no (S' := No)).sl (S' := All) (fun _ h _ _ => h.elim) (fun _ _ => trivial)
  have hvs := hr.2.1.sl (S' := All) (fun _ _ _ _ => trivial) (fun _ _ => trivial)
  obtain ⟨fb, fo, cs, rfl, _, hf0, rfl, _⟩ := hfs.at (i := 0) (x := false) rfl
  obtain ⟨fb', fo', cs, he, _, hf1, rfl, _⟩ := hfs.at (i := 1) (x := true) rfl
  simp only [Option.some.injEq, Addr.mk.injEq] at he
  obtain ⟨rfl, rfl, _⟩ := he
  obtain ⟨vb, vo, cs, rfl, _, hv1, ⟨xv, rfl, hxv⟩, _⟩ := hvs.at (i := 1) (x := [⟨zName, zAnnT, []⟩]) rfl
  obtain ⟨xa, xc, rfl, _⟩ := id hxv
  obtain ⟨xb, xo, cs, rfl, _, hx0, ⟨kv, rfl, _⟩, _⟩ := hxv.at (i := 0) (x := ⟨zName, zAnnT, []⟩) rfl
  have hf0 : At w4 fb (fo + 0 * 1) _ := hf0
  have hf1 : At w4 fb (fo + 1 * 1) _ := hf1
  have hv1 : At w4 vb (vo + 1 * 1) _ := hv1
  have hx0 : At w4 xb (xo + 0 * 3) _ := hx0
  repeat (first | refine RL.vv ?_ | refine RL.p ?_ | refine RL.nil ?_ | refine Sim.seq ?_ | refine Sim.region ?_ | refine Sim.block ?_ | refine Sim.skip ?_ | refine Sim.inBlock ?_ | refine Sim.exit rfl ?_ | refine Sim.condT rfl ?_ | refine Sim.condF rfl ?_)
  refine RL.al (.refl w4) fun b3 w5 _ hle3 h45 _ hb3 => ?_
  repeat (first | refine RL.vv ?_ | refine RL.p ?_ | refine RL.nil ?_ | refine Sim.seq ?_ | refine Sim.region ?_ | refine Sim.block ?_ | refine Sim.skip ?_ | refine Sim.inBlock ?_ | refine Sim.exit rfl ?_ | refine Sim.condT rfl ?_ | refine Sim.condF rfl ?_)
  refine RL.st h45 hb3 hle3 fun w6 h46 hbt hb3 => ?_
  have hu := hu.trans h46
  have hf0 := hf0.up h46
  have hf1 := hf1.up h46
  have hv1 := hv1.up h46
  have hx0 := hx0.up h46
  clear hr hfs hvs hxv h45 hbt
  have ha3 := hb3.at
  have hT : zAnnT = ⟨#[65, 110, 110]⟩ := rfl
  repeat (first | refine RL.vv ?_ | refine RL.p ?_ | refine RL.nil ?_ | refine Sim.seq ?_ | refine Sim.region ?_ | refine Sim.block ?_ | refine Sim.skip ?_ | refine Sim.inBlock ?_ | refine Sim.exit rfl ?_ | refine Sim.condT rfl ?_ | refine Sim.condF rfl ?_)
  exact Sim.ret1 Try.func20 rfl rfl ⟨rfl, hu⟩
end Go.Proofs.Ytgckpmcdlciibaa
