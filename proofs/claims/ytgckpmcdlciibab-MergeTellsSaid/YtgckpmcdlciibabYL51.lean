/- The walk of MergeTells. -/
import Derived.Test.YtgckpmcdlciibabZ8
import Derived.Test.YtgckpmcdlciibabYC87
import Derived.Test.YtgckpmcdlciibabZK
namespace Go.Proofs.Ytgckpmcdlciibab
open Go.RowKit
theorem flt_own (f : Flt) (w : World) : (Op.equalIn 10000 41 (.agg #[.int .i64 f.err, .int .i64 f.at_]) (.agg #[.int .i64 f.err, .int .i64 f.at_])).run Try.prog w = .ok true w := by
  rw [eq_fault]; simp
set_option maxHeartbeats 4000000 in
theorem MergeTells_walk {S : Nat → Prop} {lv : Value} {l : List Svc} (n : Str) (w : World) (hl : SliceOf svcLay S w lv l) (hok : ∀ s ∈ l, okSvc s) :
    Calls Try.prog 8 #[lv, .string n] w fun en w' => en = .returned (.bool true) ∧ Up w w' := by
  refine calls_of_sim Try.func8 rfl (Nat.le_of_ble_eq_true rfl) ?_
  obtain ⟨la, lc, rfl, _⟩ := id hl
  repeat (first | refine RL.vv ?_ | refine RL.p ?_ | refine RL.nil ?_ | refine Sim.seq ?_ | refine Sim.region ?_ | refine Sim.block ?_ | refine Sim.skip ?_ | refine Sim.inBlock ?_ | refine Sim.exit rfl ?_ | refine Sim.condT rfl ?_ | refine Sim.condF rfl ?_)
  refine RL.cx (MAll_any w hl) ?_
  rintro _ w1 ⟨v, rfl, hu1, hds, lab, hp⟩
  refine ⟨_, rfl, ?_⟩
  unfold fltV
  have hsl := hp.parts
  obtain ⟨va, vc, rfl, _⟩ := id hsl
  repeat (first | refine RL.vv ?_ | refine RL.p ?_ | refine RL.nil ?_ | refine Sim.seq ?_ | refine Sim.region ?_ | refine Sim.block ?_ | refine Sim.skip ?_ | refine Sim.inBlock ?_ | refine Sim.exit rfl ?_ | refine Sim.condT rfl ?_ | refine Sim.condF rfl ?_)
  refine RL.al hu1 fun b6 w2 he6 hle6 hu2 h12 hb6 => ?_
  refine RL.vv ?_
  refine RL.st hu2 hb6 hle6 fun w3 hu3 hbt hb6 => ?_
  have hb6 : Box w3 b6 41 [.int .i64 (allM l).2.err, .int .i64 (allM l).2.at_] := hb6
  have h13 : Up w1 w3 := Up.but h12 hbt (Nat.le_of_eq he6.symm)
  have hsl := hsl.up h13
  clear hbt h12 hu2 hp
  repeat (first | refine RL.vv ?_ | refine RL.p ?_ | refine RL.nil ?_ | refine Sim.seq ?_ | refine Sim.region ?_ | refine Sim.block ?_ | refine Sim.skip ?_ | refine Sim.inBlock ?_ | refine Sim.exit rfl ?_ | refine Sim.condT rfl ?_ | refine Sim.condF rfl ?_)
  refine RL.cx (RAll_any w3 (hl.up hu3) hok) ?_
  rintro _ w4 ⟨v', rfl, h34, hds', lab', hp'⟩
  refine ⟨_, rfl, ?_⟩
  unfold fltV
  have hsl' := hp'.parts
  obtain ⟨va', vc', rfl, _⟩ := id hsl'
  have hu4 := hu3.trans h34
  repeat (first | refine RL.vv ?_ | refine RL.p ?_ | refine RL.nil ?_ | refine Sim.seq ?_ | refine Sim.region ?_ | refine Sim.block ?_ | refine Sim.skip ?_ | refine Sim.inBlock ?_ | refine Sim.exit rfl ?_ | refine Sim.condT rfl ?_ | refine Sim.condF rfl ?_)
  refine RL.al hu4 fun b8 w5 he8 hle8 hu5 h45 hb8 => ?_
  refine RL.vv ?_
  refine RL.st hu5 hb8 hle8 fun w6 hu6 hbt hb8 => ?_
  have hb8 : Box w6 b8 41 [.int .i64 (allM l).2.err, .int .i64 (allM l).2.at_] := hb8
  have h46 : Up w4 w6 := Up.but h45 hbt (Nat.le_of_eq he8.symm)
  have hb6 := hb6.up (h34.trans h46)
  have hsl := hsl.up (h34.trans h46)
  have hsl' := hsl'.up h46
  have ha6 := hb6.at
  have ha8 := hb8.at
  clear hbt h45 hu5 h13 h34 h46 hp' hu1 hu3 hu4
  repeat (first | refine RL.vv ?_ | refine RL.p ?_ | refine RL.nil ?_ | refine Sim.seq ?_ | refine Sim.region ?_ | refine Sim.block ?_ | refine Sim.skip ?_ | refine Sim.inBlock ?_ | refine Sim.exit rfl ?_ | refine Sim.condT rfl ?_ | refine Sim.condF rfl ?_)
  refine RL.val trivial rfl (y_neqA (b := true) rfl rfl guard_fault (flt_own (allM l).2)) ?_
  repeat (first | refine RL.vv ?_ | refine RL.p ?_ | refine RL.nil ?_ | refine Sim.seq ?_ | refine Sim.region ?_ | refine Sim.block ?_ | refine Sim.skip ?_ | refine Sim.inBlock ?_ | refine Sim.exit rfl ?_ | refine Sim.condT rfl ?_ | refine Sim.condF rfl ?_)
  refine RL.cu hu6 (SameParts_eq w6 hsl hsl') fun w7 hu7 h67 => ?_
  have hsl' := hsl'.up h67
  repeat (first | refine RL.vv ?_ | refine RL.p ?_ | refine RL.nil ?_ | refine Sim.seq ?_ | refine Sim.region ?_ | refine Sim.block ?_ | refine Sim.skip ?_ | refine Sim.inBlock ?_ | refine Sim.exit rfl ?_ | refine Sim.condT rfl ?_ | refine Sim.condF rfl ?_)
  refine RL.cu hu7 (MWrong_any w7 (hl.up hu7)) fun w8 hu8 h78 => ?_
  refine RL.vv ?_
  refine RL.cu hu8 (RWrongS_any w8 (hl.up hu8) hok) fun w9 hu9 h89 => ?_
  have hsl' := (hsl'.up h78).up h89
  unfold fltV
  refine RL.val ⟨_, _, rfl, rfl, rfl⟩ rfl (y_neqA (b := true) rfl rfl guard_fault (flt_own (wrongS l))) ?_
  repeat (first | refine RL.vv ?_ | refine RL.p ?_ | refine RL.nil ?_ | refine Sim.seq ?_ | refine Sim.region ?_ | refine Sim.block ?_ | refine Sim.skip ?_ | refine Sim.inBlock ?_ | refine Sim.exit rfl ?_ | refine Sim.condT rfl ?_ | refine Sim.condF rfl ?_)
  refine RL.cu hu9 (PFind_any n w9 hsl') fun w10 hu10 h910 => ?_
  have hsl' := hsl'.up h910
  repeat (first | refine RL.vv ?_ | refine RL.p ?_ | refine RL.nil ?_ | refine Sim.seq ?_ | refine Sim.region ?_ | refine Sim.block ?_ | refine Sim.skip ?_ | refine Sim.inBlock ?_ | refine Sim.exit rfl ?_ | refine Sim.condT rfl ?_ | refine Sim.condF rfl ?_)
  by_cases hf : 0 ≤ partF (allM l).1 n
  · obtain ⟨j, p, hj, hpx, h3, _⟩ := firstIdx_lt (l := (allM l).1) (p := fun p => decide (p.type.name = n)) hf
    have hj : partF (allM l).1 n = (j : Int) := hj
    have hpn : p.type.name = n := of_decide_eq_true h3
    have hpl := (List.getElem?_eq_some_iff.1 hpx).1
    obtain ⟨pb, po, cs, e, _, hat, ⟨f1, o1, h1, rfl, _⟩, _⟩ := hsl'.at hpx
    cases e
    have hat : At w10 pb (po + j * 4) _ := hat
    rw [hj]
    have hj0 : (0 : Int) ≤ (j : Int) := by omega
    have hjn : ¬ (j : Int) < 0 := by omega
    repeat (first | refine RL.vv ?_ | refine RL.p ?_ | refine RL.nil ?_ | refine Sim.seq ?_ | refine Sim.region ?_ | refine Sim.block ?_ | refine Sim.skip ?_ | refine Sim.inBlock ?_ | refine Sim.exit rfl ?_ | refine Sim.condT rfl ?_ | refine Sim.condF rfl ?_)
    refine RL.cs (v := .pointer (some ⟨pb, po + j * 4, none⟩)) (by have := RPart_any n w10 hsl'; rw [hj, ptrAt_nat] at this; exact this) ?_
    repeat (first | refine RL.vv ?_ | refine RL.p ?_ | refine RL.nil ?_ | refine Sim.seq ?_ | refine Sim.region ?_ | refine Sim.block ?_ | refine Sim.skip ?_ | refine Sim.inBlock ?_ | refine Sim.exit rfl ?_ | refine Sim.condT rfl ?_ | refine Sim.condF rfl ?_)
    refine RL.vv ?_ (hy := y_eqlB (a := true) (b := true) rfl rfl)
    repeat (first | refine RL.vv ?_ | refine RL.p ?_ | refine RL.nil ?_ | refine Sim.seq ?_ | refine Sim.region ?_ | refine Sim.block ?_ | refine Sim.skip ?_ | refine Sim.inBlock ?_ | refine Sim.exit rfl ?_ | refine Sim.condT rfl ?_ | refine Sim.condF rfl ?_)
    exact Sim.ret1 Try.func8 rfl rfl ⟨rfl, hu10⟩
  · have hj : partF (allM l).1 n = -1 := firstIdx_neg (l := (allM l).1) (p := fun t => decide (t.type.name = n)) hf
    rw [hj]
    have hj0 : ¬ (0 : Int) ≤ -1 := by decide
    have hjn : (-1 : Int) < 0 := by decide
    repeat (first | refine RL.vv ?_ | refine RL.p ?_ | refine RL.nil ?_ | refine Sim.seq ?_ | refine Sim.region ?_ | refine Sim.block ?_ | refine Sim.skip ?_ | refine Sim.inBlock ?_ | refine Sim.exit rfl ?_ | refine Sim.condT rfl ?_ | refine Sim.condF rfl ?_)
    refine RL.cs (v := .pointer none) (by have := RPart_any n w10 hsl'; rw [hj, ptrAt_neg] at this; exact this) ?_
    repeat (first | refine RL.vv ?_ | refine RL.p ?_ | refine RL.nil ?_ | refine Sim.seq ?_ | refine Sim.region ?_ | refine Sim.block ?_ | refine Sim.skip ?_ | refine Sim.inBlock ?_ | refine Sim.exit rfl ?_ | refine Sim.condT rfl ?_ | refine Sim.condF rfl ?_)
    refine RL.vv ?_ (hy := y_eqlB (a := false) (b := false) rfl rfl)
    repeat (first | refine RL.vv ?_ | refine RL.p ?_ | refine RL.nil ?_ | refine Sim.seq ?_ | refine Sim.region ?_ | refine Sim.block ?_ | refine Sim.skip ?_ | refine Sim.inBlock ?_ | refine Sim.exit rfl ?_ | refine Sim.condT rfl ?_ | refine Sim.condF rfl ?_)
    exact Sim.ret1 Try.func8 rfl rfl ⟨rfl, hu10⟩
end Go.Proofs.Ytgckpmcdlciibab
