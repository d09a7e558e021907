/- The walk of ChangeRight. -/
import Derived.Test.YtgckpmcdlciibaaL6
import Derived.Test.YtgckpmcdlciibaaP3
namespace Go.Proofs.Ytgckpmcdlciibaa
open Go.RowKit
set_option maxHeartbeats 2000000 in
theorem ChangeRight_walk {S S2 : Nat → Prop} {lv cv : Value} {l : List Typ} {cs : List Chg} (w : World) (hl : SliceOf typLay S w lv l) (hcs : SliceOf chgLay S2 w cv cs) :
    Calls Try.prog 10 #[lv, cv] w fun en w' => en = .returned (.bool true) ∧ Up w w' := by
  refine calls_of_sim Try.func10 rfl (Nat.le_of_ble_eq_true rfl) ?_
  obtain ⟨la, lc, rfl, hlnc, hlcm, _⟩ := id hl
  obtain ⟨ca, cc, rfl, _⟩ := id hcs
  unfold maxLen at hlcm
  repeat (first | refine RL.vv ?_ | refine RL.p ?_ | refine RL.nil ?_ | refine Sim.seq ?_ | refine Sim.region ?_ | refine Sim.block ?_ | refine Sim.skip ?_ | refine Sim.inBlock ?_ | refine Sim.exit rfl ?_ | refine Sim.condT rfl ?_ | refine Sim.condF rfl ?_)
  refine RL.cu (.refl w) (alive2_any w) fun w1 hu _ => ?_
  repeat (first | refine RL.vv ?_ | refine RL.p ?_ | refine RL.nil ?_ | refine Sim.seq ?_ | refine Sim.region ?_ | refine Sim.block ?_ | refine Sim.skip ?_ | refine Sim.inBlock ?_ | refine Sim.exit rfl ?_ | refine Sim.condT rfl ?_ | refine Sim.condF rfl ?_)
  refine RL.cx (See_any w1 (hl.up hu) (hcs.up hu)) ?_
  rintro _ w2 ⟨v, rfl, h12, hds, lab, hv⟩
  refine ⟨_, rfl, ?_⟩
  have hu := hu.trans h12
  unfold fltV
  have hs := hv.seen
  obtain ⟨sa, sc, rfl, _, hsm, _⟩ := id hs
  unfold maxLen at hsm
  repeat (first | refine RL.vv ?_ | refine RL.p ?_ | refine RL.nil ?_ | refine Sim.seq ?_ | refine Sim.region ?_ | refine Sim.block ?_ | refine Sim.skip ?_ | refine Sim.inBlock ?_ | refine Sim.exit rfl ?_ | refine Sim.condT rfl ?_ | refine Sim.condF rfl ?_)
  refine RL.al (.refl w2) fun b6 w3 _ hle6 h23 _ hb6 => ?_
  repeat (first | refine RL.vv ?_ | refine RL.p ?_ | refine RL.nil ?_ | refine Sim.seq ?_ | refine Sim.region ?_ | refine Sim.block ?_ | refine Sim.skip ?_ | refine Sim.inBlock ?_ | refine Sim.exit rfl ?_ | refine Sim.condT rfl ?_ | refine Sim.condF rfl ?_)
  refine RL.st h23 hb6 hle6 fun w4 h24 _ hb6 => ?_
  have hu := hu.trans h24
  have hs := hs.up h24
  have ha6 := hb6.at
  clear h12 h23 h24 hv
  by_cases he : (seeM l cs).2.err = 0
  rotate_left
  · have hz : ((seeM l cs).1.length : Int) = 0 := by rw [seeM_err he]; rfl
    repeat (first | refine RL.vv ?_ | refine RL.p ?_ | refine RL.nil ?_ | refine Sim.seq ?_ | refine Sim.region ?_ | refine Sim.block ?_ | refine Sim.skip ?_ | refine Sim.inBlock ?_ | refine Sim.exit rfl ?_ | refine Sim.condT rfl ?_ | refine Sim.condF rfl ?_)
    exact Sim.ret1 Try.func10 rfl rfl ⟨rfl, hu⟩
  obtain ⟨hr, hso⟩ := seeM_right he
  have hlen := hso.len
  have h8 := hr.len
  rw [List.length_map] at h8
  repeat (first | refine RL.vv ?_ | refine RL.p ?_ | refine RL.nil ?_ | refine Sim.seq ?_ | refine Sim.region ?_ | refine Sim.block ?_ | refine Sim.skip ?_ | refine Sim.inBlock ?_ | refine Sim.exit rfl ?_ | refine Sim.condT rfl ?_ | refine Sim.condF rfl ?_)
  refine RL.cx (Types_any w4 hs (by omega)) ?_
  rintro _ w5 ⟨tv, rfl, h45, ht⟩
  refine ⟨_, rfl, ?_⟩
  obtain ⟨ta, tc, rfl, _⟩ := id ht
  refine RL.cu (hu.trans h45) (Wrong_any w5 ht) fun w6 hu h56 => ?_
  have hs := hs.up (h45.trans h56)
  have he2 := right_iff.2 hr
  refine RL.val trivial rfl (y_field (v := .int .i64 (wrongT ((seeM l cs).1.map (·.type))).err) rfl (fun w => by kernel_rfl)) ?_
  generalize hsn : (seeM l cs).1 = sns at *
  clear h45 h56 ht ha6 hb6
  repeat (first | refine RL.vv ?_ | refine RL.p ?_ | refine RL.nil ?_ | refine Sim.seq ?_ | refine Sim.region ?_ | refine Sim.block ?_ | refine Sim.skip ?_ | refine Sim.inBlock ?_ | refine Sim.exit rfl ?_ | refine Sim.condT rfl ?_ | refine Sim.condF rfl ?_)
  refine Sim.loop (σ := Nat) (fun i => [(0, .slice la l.length lc), (5, .slice sa sns.length sc), (35, .int .i64 (sns.length : Int)), (36, .int .i64 (i : Int))]) (fun i w' => i ≤ sns.length ∧ Up w6 w') (fun i => sns.length - i) 0 sb ⟨Nat.zero_le _, .refl _⟩ ?_
  rintro i w7 ⟨hi, h67⟩ next
  by_cases hlt : i < sns.length
  · have hx : sns[i]? = some sns[i] := List.getElem?_eq_getElem hlt
    have hy : l[i]? = some (l[i]'(by omega)) := List.getElem?_eq_getElem (by omega)
    obtain ⟨e1, e2, e3⟩ := hso.at_ i _ _ hx hy
    obtain ⟨vb, vo, cs2, rfl, _, hat, ⟨fv, nv, rfl, hfv, hnv⟩, _⟩ := (hs.up h67).at hx
    obtain ⟨tb, to, cs3, rfl, _, htat, ⟨gv, rfl, hgv⟩, _⟩ := (hl.up (hu.trans h67)).at hy
    have hat : At w7 vb (vo + i * 4) _ := hat
    have htat : At w7 tb (to + i * 2) _ := htat
    generalize sns[i] = s at *
    generalize (l[i]'(by omega)) = t at *
    obtain ⟨fa, fc, rfl, _⟩ := id hfv
    obtain ⟨na, nc, rfl, _⟩ := id hnv
    obtain ⟨ga, gc, rfl, _⟩ := id hgv
    repeat (first | refine RL.vv ?_ | refine RL.p ?_ | refine RL.nil ?_ | refine Sim.seq ?_ | refine Sim.region ?_ | refine Sim.block ?_ | refine Sim.skip ?_ | refine Sim.inBlock ?_ | refine Sim.exit rfl ?_ | refine Sim.condT rfl ?_ | refine Sim.condF rfl ?_)
    refine Sim.q ?_
    repeat (first | refine RQ.vv ?_ | refine RQ.p ?_)
    refine RQ.nil fun w8 hq => ?_
    repeat (first | refine RL.vv ?_ | refine RL.p ?_ | refine RL.nil ?_ | refine Sim.seq ?_ | refine Sim.region ?_ | refine Sim.block ?_ | refine Sim.skip ?_ | refine Sim.inBlock ?_ | refine Sim.exit rfl ?_ | refine Sim.condT rfl ?_ | refine Sim.condF rfl ?_)
    exact next (i + 1) _ _ ⟨by omega, h67.trans hq⟩ (by omega) sb
  · repeat (first | refine RL.vv ?_ | refine RL.p ?_ | refine RL.nil ?_ | refine Sim.seq ?_ | refine Sim.region ?_ | refine Sim.block ?_ | refine Sim.skip ?_ | refine Sim.inBlock ?_ | refine Sim.exit rfl ?_ | refine Sim.condT rfl ?_ | refine Sim.condF rfl ?_)
    exact Sim.ret1 Try.func10 rfl rfl ⟨rfl, hu.trans h67⟩
end Go.Proofs.Ytgckpmcdlciibaa
