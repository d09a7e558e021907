import Derived.Test.YtgckpmcdlciibaaC11
import Derived.Test.YtgckpmcdlciibaaLit
namespace Go.Proofs.Ytgckpmcdlciibaa
open Go.RowKit
def sUser : Str := ⟨#[117, 115, 101, 114]⟩
def sName : Str := ⟨#[110, 97, 109, 101]⟩
def sBoss : Str := ⟨#[98, 111, 115, 115]⟩
def sAnn : Str := ⟨#[97, 110, 110]⟩
def sAnnT : Str := ⟨#[65, 110, 110]⟩
def sNone : Str := ⟨#[]⟩
def dUser : List Typ := [⟨sUser, [⟨sName, 1, sNone⟩, ⟨sBoss, 2, sUser⟩]⟩]
def dAnn : List Thg := [⟨sUser, sAnn, [⟨sName, sAnnT, []⟩, ⟨sBoss, sNone, []⟩]⟩]
abbrev Any : Nat → Prop := fun _ => True

set_option maxHeartbeats 400000 in
theorem user1_any (w : World) : Calls Try.prog 69 #[] w fun en w' => ∃ p2, en = .returned (.slice (some ⟨p2, 0, none⟩) 1 1) ∧ Up w w' ∧ SliceOf typLay Any w' (.slice (some ⟨p2, 0, none⟩) 1 1) dUser ∧ ∃ p1, At w' p2 0 [.string sUser, .slice (some ⟨p1, 0, none⟩) 2 2] ∧ SliceOf fldLay Any w' (.slice (some ⟨p1, 0, none⟩) 2 2) [⟨sName, 1, sNone⟩, ⟨sBoss, 2, sUser⟩] := by
  refine calls_of_sim Try.func69 rfl (Nat.le_of_ble_eq_true rfl) ?_
  repeat (first | refine RL.vv ?_ | refine RL.p ?_ | refine RL.nil ?_ | refine Sim.seq ?_ | refine Sim.region ?_ | refine Sim.block ?_ | refine Sim.skip ?_ | refine Sim.inBlock ?_ | refine Sim.exit rfl ?_ | refine Sim.condT rfl ?_ | refine Sim.condF rfl ?_)
  refine RL.val trivial rfl (y_build (v := .agg #[.string sName, .int .i64 1, .string sNone]) rfl (fun w => by kernel_rfl)) ?_
  refine RL.val trivial rfl (y_build (v := .agg #[.string sBoss, .int .i64 2, .string sUser]) rfl (fun w => by kernel_rfl)) ?_
  refine RL.build (el := 118) ([.string sName, .int .i64 1, .string sNone] ++ [.string sBoss, .int .i64 2, .string sUser]) trivial rfl rfl (fun w => by kernel_rfl) fun w1 hu hb hs => ?_
  have hf : SliceOf fldLay Any w1 (.slice (some ⟨w.heap.size, 0, none⟩) 2 2) [⟨sName, 1, sNone⟩, ⟨sBoss, 2, sUser⟩] := SliceOf.lit2 _ _ _ _ hb.at trivial rfl rfl
  refine RL.val trivial rfl (y_build (v := .agg #[.string sUser, .slice (some ⟨w.heap.size, 0, none⟩) 2 2]) rfl (fun w => by kernel_rfl)) ?_
  refine RL.build (el := 55) [.string sUser, .slice (some ⟨w.heap.size, 0, none⟩) 2 2] trivial rfl rfl (fun w => by kernel_rfl) fun w2 hu2 hb2 hs2 => ?_
  have ht : SliceOf typLay Any w2 (.slice (some ⟨w1.heap.size, 0, none⟩) 1 1) dUser := SliceOf.lit1 _ _ hb2.at trivial ⟨_, rfl, hf.up hu2⟩
  repeat (first | refine RL.vv ?_ | refine RL.p ?_ | refine RL.nil ?_ | refine Sim.seq ?_ | refine Sim.region ?_ | refine Sim.block ?_ | refine Sim.skip ?_ | refine Sim.inBlock ?_ | refine Sim.exit rfl ?_ | refine Sim.condT rfl ?_ | refine Sim.condF rfl ?_)
  exact Sim.ret1 Try.func69 rfl rfl ⟨_, rfl, hu.trans hu2, ht, _, hb2.at, hf.up hu2⟩

set_option maxHeartbeats 1000000 in
theorem alive1_any (w : World) : Calls Try.prog 33 #[] w fun en w' => en = .returned (.bool true) ∧ Up w w' := by
  refine calls_of_sim Try.func33 rfl (Nat.le_of_ble_eq_true rfl) ?_
  repeat (first | refine RL.vv ?_ | refine RL.p ?_ | refine RL.nil ?_ | refine Sim.seq ?_ | refine Sim.region ?_ | refine Sim.block ?_ | refine Sim.skip ?_ | refine Sim.inBlock ?_ | refine Sim.exit rfl ?_ | refine Sim.condT rfl ?_ | refine Sim.condF rfl ?_)
  refine RL.val trivial rfl (y_build (v := .agg #[.string sName, .string sAnnT, .slice none 0 0]) rfl (fun w => by kernel_rfl)) ?_
  refine RL.val trivial rfl (y_build (v := .agg #[.string sBoss, .string sNone, .slice none 0 0]) rfl (fun w => by kernel_rfl)) ?_
  refine RL.build (el := 105) ([.string sName, .string sAnnT, .slice none 0 0] ++ [.string sBoss, .string sNone, .slice none 0 0]) trivial rfl rfl (fun w => by kernel_rfl) fun w1 hu hb hs => ?_
  have hf : SliceOf valLay Any w1 (.slice (some ⟨w.heap.size, 0, none⟩) 2 2) [⟨sName, sAnnT, []⟩, ⟨sBoss, sNone, []⟩] := SliceOf.lit2 _ _ _ _ hb.at trivial ⟨_, rfl, SliceOf.nil _ _ _⟩ ⟨_, rfl, SliceOf.nil _ _ _⟩
  refine RL.val trivial rfl (y_build (v := .agg #[.string sUser, .string sAnn, .slice (some ⟨w.heap.size, 0, none⟩) 2 2]) rfl (fun w => by kernel_rfl)) ?_
  refine RL.build (el := 103) [.string sUser, .string sAnn, .slice (some ⟨w.heap.size, 0, none⟩) 2 2] trivial rfl rfl (fun w => by kernel_rfl) fun w2 hu2 hb2 hs2 => ?_
  have hx : SliceOf thgLay Any w2 (.slice (some ⟨w1.heap.size, 0, none⟩) 1 1) dAnn := SliceOf.lit1 _ _ hb2.at trivial ⟨_, rfl, hf.up hu2⟩
  have hu := hu.trans hu2
  clear hb hf hb2 hs hs2 hu2
  generalize w1.heap.size = px at *
  repeat (first | refine RL.vv ?_ | refine RL.p ?_ | refine RL.nil ?_ | refine Sim.seq ?_ | refine Sim.region ?_ | refine Sim.block ?_ | refine Sim.skip ?_ | refine Sim.inBlock ?_ | refine Sim.exit rfl ?_ | refine Sim.condT rfl ?_ | refine Sim.condF rfl ?_)
  refine RL.call trivial rfl (c_static rfl) (user1_any w2) ?_
  rintro _ w3 ⟨pu, rfl, hu3, hl, _⟩
  refine ⟨_, rfl, ?_⟩
  refine RL.call trivial rfl (c_static rfl) (Wrong_any w3 hl) ?_
  rintro _ w4 ⟨rfl, hu4⟩
  refine ⟨_, rfl, ?_⟩
  refine RL.val trivial rfl (y_field (v := .int .i64 (wrongT dUser).err) rfl (fun w => by kernel_rfl)) ?_
  have e1 : (wrongT dUser).err = 0 := by decide +kernel
  have hx := hx.up (hu3.trans hu4)
  have hu := hu.trans (hu3.trans hu4)
  clear hu3 hu4 hl
  repeat (first | refine RL.vv ?_ | refine RL.p ?_ | refine RL.nil ?_ | refine Sim.seq ?_ | refine Sim.region ?_ | refine Sim.block ?_ | refine Sim.skip ?_ | refine Sim.inBlock ?_ | refine Sim.exit rfl ?_ | refine Sim.condT rfl ?_ | refine Sim.condF rfl ?_)
  refine RL.call ⟨_, _, rfl, rfl, rfl⟩ rfl (c_static rfl) (user1_any w4) ?_
  rintro _ w5 ⟨pu2, rfl, hu5, hl, _⟩
  refine ⟨_, rfl, ?_⟩
  repeat (first | refine RL.vv ?_ | refine RL.p ?_ | refine RL.nil ?_ | refine Sim.seq ?_ | refine Sim.region ?_ | refine Sim.block ?_ | refine Sim.skip ?_ | refine Sim.inBlock ?_ | refine Sim.exit rfl ?_ | refine Sim.condT rfl ?_ | refine Sim.condF rfl ?_)
  refine RL.call ⟨_, _, rfl, rfl, rfl⟩ rfl (c_static rfl) (Things_any w5 hl (hx.up hu5)) ?_
  rintro _ w6 ⟨rfl, hu6⟩
  refine ⟨_, rfl, ?_⟩
  refine RL.val ⟨_, _, rfl, rfl, rfl⟩ rfl (y_field (v := .int .i64 (thgsErr dUser dAnn).err) rfl (fun w => by kernel_rfl)) ?_
  have e2 : (thgsErr dUser dAnn).err = 0 := by decide +kernel
  have hu := hu.trans (hu5.trans hu6)
  clear hu5 hu6 hl
  repeat (first | refine RL.vv ?_ | refine RL.p ?_ | refine RL.nil ?_ | refine Sim.seq ?_ | refine Sim.region ?_ | refine Sim.block ?_ | refine Sim.skip ?_ | refine Sim.inBlock ?_ | refine Sim.exit rfl ?_ | refine Sim.condT rfl ?_ | refine Sim.condF rfl ?_)
  refine RL.call ⟨_, _, rfl, rfl, rfl⟩ rfl (c_static rfl) (user1_any w6) ?_
  rintro _ w7 ⟨pu3, rfl, hu7, hl, _⟩
  refine ⟨_, rfl, ?_⟩
  refine RL.call ⟨_, _, rfl, rfl, rfl⟩ rfl (c_static rfl) (c_val (Find_any sUser w7 hl) (by rw [show findT dUser sUser = 0 by decide +kernel])) ?_
  rintro _ w8 ⟨rfl, hu8⟩
  refine ⟨_, rfl, ?_⟩
  have hu := hu.trans (hu7.trans hu8)
  clear hu7 hu8 hl
  repeat (first | refine RL.vv ?_ | refine RL.p ?_ | refine RL.nil ?_ | refine Sim.seq ?_ | refine Sim.region ?_ | refine Sim.block ?_ | refine Sim.skip ?_ | refine Sim.inBlock ?_ | refine Sim.exit rfl ?_ | refine Sim.condT rfl ?_ | refine Sim.condF rfl ?_)
  refine RL.call ⟨_, _, rfl, rfl, rfl⟩ rfl (c_static rfl) (user1_any w8) ?_
  rintro _ w9 ⟨pu4, rfl, hu9, hl, p1, hat, hf⟩
  refine ⟨_, rfl, ?_⟩
  refine RL.val ⟨_, _, rfl, rfl, rfl⟩ rfl (y_indexAddr (i := 0) rfl rfl (by decide)) ?_
  rw [Nat.zero_mul]
  repeat (first | refine RL.vv ?_ | refine RL.p ?_ | refine RL.nil ?_ | refine Sim.seq ?_ | refine Sim.region ?_ | refine Sim.block ?_ | refine Sim.skip ?_ | refine Sim.inBlock ?_ | refine Sim.exit rfl ?_ | refine Sim.condT rfl ?_ | refine Sim.condF rfl ?_)
  refine RL.call ⟨_, _, rfl, rfl, rfl⟩ rfl (c_static rfl) (c_val (Field_any sBoss w9 hf) (by rw [show fieldF [⟨sName, 1, sNone⟩, ⟨sBoss, 2, sUser⟩] sBoss = 1 by decide +kernel])) ?_
  rintro _ w10 ⟨rfl, hu10⟩
  refine ⟨_, rfl, ?_⟩
  have hu := hu.trans (hu9.trans hu10)
  clear hu9 hu10 hl
  repeat (first | refine RL.vv ?_ | refine RL.p ?_ | refine RL.nil ?_ | refine Sim.seq ?_ | refine Sim.region ?_ | refine Sim.block ?_ | refine Sim.skip ?_ | refine Sim.inBlock ?_ | refine Sim.exit rfl ?_ | refine Sim.condT rfl ?_ | refine Sim.condF rfl ?_)
  refine RL.call ⟨_, _, rfl, rfl, rfl⟩ rfl (c_static rfl) (c_val (Named_any ⟨#[97, 49]⟩ w10) (by rw [show named ⟨#[97, 49]⟩ = true by decide +kernel])) ?_
  rintro _ w11 ⟨rfl, hu11⟩
  refine ⟨_, rfl, ?_⟩
  repeat (first | refine RL.vv ?_ | refine RL.p ?_ | refine RL.nil ?_ | refine Sim.seq ?_ | refine Sim.region ?_ | refine Sim.block ?_ | refine Sim.skip ?_ | refine Sim.inBlock ?_ | refine Sim.exit rfl ?_ | refine Sim.condT rfl ?_ | refine Sim.condF rfl ?_)
  refine RL.call ⟨_, _, rfl, rfl, rfl⟩ rfl (c_static rfl) (c_val (Named_any ⟨#[65]⟩ w11) (by rw [show named ⟨#[65]⟩ = false by decide +kernel])) ?_
  rintro _ w12 ⟨rfl, hu12⟩
  refine ⟨_, rfl, ?_⟩
  repeat (first | refine RL.vv ?_ | refine RL.p ?_ | refine RL.nil ?_ | refine Sim.seq ?_ | refine Sim.region ?_ | refine Sim.block ?_ | refine Sim.skip ?_ | refine Sim.inBlock ?_ | refine Sim.exit rfl ?_ | refine Sim.condT rfl ?_ | refine Sim.condF rfl ?_)
  exact Sim.ret1 Try.func33 rfl rfl ⟨rfl, hu.trans (hu11.trans hu12)⟩
end Go.Proofs.Ytgckpmcdlciibaa
