/- The closed fact of chapter 2. -/
import Derived.Test.YtgckpmcdlciibaaC36
import Derived.Test.YtgckpmcdlciibaaLit
namespace Go.Proofs.Ytgckpmcdlciibaa
open Go.RowKit
def yUser : Str := ⟨#[117, 115, 101, 114]⟩
def yName : Str := ⟨#[110, 97, 109, 101]⟩
def yBoss : Str := ⟨#[98, 111, 115, 115]⟩
def yMan : Str := ⟨#[109, 97, 110]⟩
def yNone : Str := ⟨#[]⟩
def yTypes : List Typ := [⟨yUser, [⟨yName, 1, yNone⟩, ⟨yBoss, 2, yUser⟩]⟩]
def yChgs : List Chg := [⟨1, yUser, yNone, yMan⟩, ⟨3, yMan, yName, yNone⟩]
set_option maxHeartbeats 400000 in
theorem user2_any (w : World) : Calls Try.prog 74 #[] w fun en w' => ∃ v, en = .returned v ∧ Up w w' ∧ SliceOf typLay (fun _ => True) w' v yTypes := by
  refine calls_of_sim Try.func74 rfl (Nat.le_of_ble_eq_true rfl) ?_
  repeat (first | refine RL.vv ?_ | refine RL.p ?_ | refine RL.nil ?_ | refine Sim.seq ?_ | refine Sim.region ?_ | refine Sim.block ?_ | refine Sim.skip ?_ | refine Sim.inBlock ?_ | refine Sim.exit rfl ?_ | refine Sim.condT rfl ?_ | refine Sim.condF rfl ?_)
  refine RL.val trivial rfl (y_build (v := .agg #[.string yName, .int .i64 1, .string yNone]) rfl (fun w => by kernel_rfl)) ?_
  refine RL.val trivial rfl (y_build (v := .agg #[.string yBoss, .int .i64 2, .string yUser]) rfl (fun w => by kernel_rfl)) ?_
  refine RL.bu (el := 118) ([.string yName, .int .i64 1, .string yNone] ++ [.string yBoss, .int .i64 2, .string yUser]) (.refl w) fun b1 w1 _ _ hu _ hb1 => ?_
  have hf : SliceOf fldLay (fun _ => True) w1 (.slice (some ⟨b1, 0, none⟩) 2 2) [⟨yName, 1, yNone⟩, ⟨yBoss, 2, yUser⟩] := SliceOf.lit2 _ _ _ _ hb1.at trivial rfl rfl
  refine RL.val trivial rfl (y_build (v := .agg #[.string yUser, .slice (some ⟨b1, 0, none⟩) 2 2]) rfl (fun w => by kernel_rfl)) ?_
  refine RL.bu (el := 55) [.string yUser, .slice (some ⟨b1, 0, none⟩) 2 2] hu fun b2 w2 _ _ hu h hb2 => ?_
  repeat (first | refine RL.vv ?_ | refine RL.p ?_ | refine RL.nil ?_ | refine Sim.seq ?_ | refine Sim.region ?_ | refine Sim.block ?_ | refine Sim.skip ?_ | refine Sim.inBlock ?_ | refine Sim.exit rfl ?_ | refine Sim.condT rfl ?_ | refine Sim.condF rfl ?_)
  exact Sim.ret1 Try.func74 rfl rfl ⟨_, rfl, hu, SliceOf.one hb2 trivial ⟨_, rfl, hf.up h⟩⟩
theorem seeUser : seeM yTypes yChgs = ([⟨⟨yMan, [⟨yBoss, 2, yMan⟩]⟩, yUser, [yBoss]⟩], ⟨0, 0⟩) := by decide +kernel
set_option maxHeartbeats 1000000 in
theorem alive2_any (w : World) : Calls Try.prog 41 #[] w fun en w' => en = .returned (.bool true) ∧ Up w w' := by
  refine calls_of_sim Try.func41 rfl (Nat.le_of_ble_eq_true rfl) ?_
  repeat (first | refine RL.vv ?_ | refine RL.p ?_ | refine RL.nil ?_ | refine Sim.seq ?_ | refine Sim.region ?_ | refine Sim.block ?_ | refine Sim.skip ?_ | refine Sim.inBlock ?_ | refine Sim.exit rfl ?_ | refine Sim.condT rfl ?_ | refine Sim.condF rfl ?_)
  refine RL.cx (user2_any w) ?_
  rintro _ w1 ⟨v, rfl, hu, hl⟩
  refine ⟨_, rfl, ?_⟩
  obtain ⟨la, lc, rfl, _⟩ := id hl
  refine RL.val trivial rfl (y_build (v := .agg #[.int .i64 1, .string yUser, .string yNone, .string yMan]) rfl (fun w => by kernel_rfl)) ?_
  refine RL.val trivial rfl (y_build (v := .agg #[.int .i64 3, .string yMan, .string yName, .string yNone]) rfl (fun w => by kernel_rfl)) ?_
  refine RL.bu (el := 82) ([.int .i64 1, .string yUser, .string yNone, .string yMan] ++ [.int .i64 3, .string yMan, .string yName, .string yNone]) hu fun b1 w2 _ _ hu h hb1 => ?_
  have hc : SliceOf chgLay (fun _ => True) w2 (.slice (some ⟨b1, 0, none⟩) 2 2) yChgs := SliceOf.lit2 _ _ _ _ hb1.at trivial rfl rfl
  refine RL.cx (See_any w2 (hl.up h) hc) ?_
  rintro _ w3 ⟨v, rfl, h23, hds, lab, hv⟩
  refine ⟨_, rfl, ?_⟩
  have hu := hu.trans h23
  rw [seeUser] at hv ⊢
  have hs := hv.seen
  obtain ⟨sa, sc, rfl, _⟩ := id hs
  obtain ⟨vb, vo, cs, rfl, _, hat, ⟨fv, nv, rfl, hfv, hnv⟩, _⟩ := hs.at (i := 0) rfl
  obtain ⟨fa, fc, rfl, _⟩ := id hfv
  obtain ⟨na, nc, rfl, _⟩ := id hnv
  obtain ⟨fb, fo, cs, rfl, _, hfat, rfl, _⟩ := hfv.at (i := 0) rfl
  obtain ⟨nb, no, cs, rfl, _, hnat, rfl, _⟩ := hnv.at (i := 0) rfl
  have hat : At w3 vb (vo + 0 * 4) _ := hat
  have hfat : At w3 fb (fo + 0 * 3) _ := hfat
  have hnat : At w3 nb (no + 0 * 1) _ := hnat
  unfold fltV
  clear hl hc hb1 h h23 hs hv hfv hnv
  repeat (first | refine RL.vv ?_ | refine RL.p ?_ | refine RL.nil ?_ | refine Sim.seq ?_ | refine Sim.region ?_ | refine Sim.block ?_ | refine Sim.skip ?_ | refine Sim.inBlock ?_ | refine Sim.exit rfl ?_ | refine Sim.condT rfl ?_ | refine Sim.condF rfl ?_)
  refine RL.al (.refl w3) fun b2 w4 _ hle2 h34 _ hb2 => ?_
  repeat (first | refine RL.vv ?_ | refine RL.p ?_ | refine RL.nil ?_ | refine Sim.seq ?_ | refine Sim.region ?_ | refine Sim.block ?_ | refine Sim.skip ?_ | refine Sim.inBlock ?_ | refine Sim.exit rfl ?_ | refine Sim.condT rfl ?_ | refine Sim.condF rfl ?_)
  refine RL.st h34 hb2 hle2 fun w5 h35 _ hb2 => ?_
  have hu := hu.trans h35
  have hat := hat.up h35
  have hfat := hfat.up h35
  have hnat := hnat.up h35
  have ha2 := hb2.at
  clear h34 h35
  repeat (first | refine RL.vv ?_ | refine RL.p ?_ | refine RL.nil ?_ | refine Sim.seq ?_ | refine Sim.region ?_ | refine Sim.block ?_ | refine Sim.skip ?_ | refine Sim.inBlock ?_ | refine Sim.exit rfl ?_ | refine Sim.condT rfl ?_ | refine Sim.condF rfl ?_)
  exact Sim.ret1 Try.func41 rfl rfl ⟨rfl, hu⟩
end Go.Proofs.Ytgckpmcdlciibaa
