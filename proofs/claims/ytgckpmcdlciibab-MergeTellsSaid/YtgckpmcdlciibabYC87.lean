/- The document's chapter 3, walked: parts compared. -/
import Derived.Test.YtgckpmcdlciibabZU
import Derived.Test.YtgckpmcdlciibabZB
namespace Go.Proofs.Ytgckpmcdlciibab
open Go.RowKit
theorem eq_ownr (a b : Str) (k : Int) (w : World) : (Op.equalIn 10000 89 (.agg #[.int .i64 k, .string a, .string b]) (.agg #[.int .i64 k, .string a, .string b])).run Try.prog w = .ok true w := by
  have h0 : Try.prog.underlying 89 = some (.struct (Try.prog.fieldsOf 89)) := by kernel_rfl
  have h1 : Try.prog.stoodInHeld 89 = false := by kernel_rfl
  have h2 : (Try.prog.fieldsOf 89).toList = [{ name := "Service", type := 3, offset := 0, embedded := false, tag := "", pkgPath := "", byteOffset := 0 }, { name := "Type", type := 9, offset := 1, embedded := false, tag := "", pkgPath := "", byteOffset := 8 }, { name := "Field", type := 9, offset := 2, embedded := false, tag := "", pkgPath := "", byteOffset := 24 }] := by kernel_rfl
  rw [run_equalIn_struct w 9999 _ _ _ h0 h1, h2]
  have s1 := Sca.isAgg Try.prog 9
  have s2 := Sca.isAgg Try.prog 3
  have u1 := fun w c => run_equalIn_string (P := Try.prog) w 9998 9 c c Try.underlying9
  have u2 := fun w => run_equalIn_int (P := Try.prog) w 9998 3 .i64 .i64 k k Try.underlying3
  simp [Op.eqFields, part, s1, s2, u1, u2]
theorem guard_ownr : Try.prog.eqGuardType Try.prog.depth 89 = false := by kernel_rfl
set_option maxHeartbeats 4000000 in
theorem SameParts_eq {S S' : Nat → Prop} {v v' : Value} {l : List Prt} (w : World) (hl : SliceOf prtLay S w v l) (hl' : SliceOf prtLay S' w v' l) :
    Calls Try.prog 30 #[v, v'] w fun en w' => en = .returned (.bool true) ∧ Up w w' := by
  refine calls_of_sim Try.func30 rfl (Nat.le_of_ble_eq_true rfl) ?_
  obtain ⟨a, c, rfl, hnc, hcm, _⟩ := id hl
  obtain ⟨a', c', rfl, hnc', hcm', _⟩ := id hl'
  unfold maxLen at hcm hcm'
  have k0 : ¬ ¬ (l.length : Int) = (l.length : Int) := fun h => h rfl
  repeat (first | refine RL.vv ?_ | refine RL.p ?_ | refine RL.nil ?_ | refine Sim.seq ?_ | refine Sim.region ?_ | refine Sim.block ?_ | refine Sim.skip ?_ | refine Sim.inBlock ?_ | refine Sim.exit rfl ?_ | refine Sim.condT rfl ?_ | refine Sim.condF rfl ?_)
  refine Sim.loop (σ := Nat) (fun i => [(0, .slice a l.length c), (1, .slice a' l.length c'), (14, .int .i64 (l.length : Int)), (15, .int .i64 (i : Int))]) (fun i w' => i ≤ l.length ∧ Up w w') (fun i => l.length - i) 0 sb ⟨Nat.zero_le _, .refl _⟩ ?_
  rintro i w1 ⟨hi, hu⟩ next
  by_cases hlt : i < l.length
  rotate_left
  · repeat (first | refine RL.vv ?_ | refine RL.p ?_ | refine RL.nil ?_ | refine Sim.seq ?_ | refine Sim.region ?_ | refine Sim.block ?_ | refine Sim.skip ?_ | refine Sim.inBlock ?_ | refine Sim.exit rfl ?_ | refine Sim.condT rfl ?_ | refine Sim.condF rfl ?_)
    exact Sim.ret1 Try.func30 rfl rfl ⟨rfl, hu⟩
  have hx : l[i]? = some l[i] := List.getElem?_eq_getElem hlt
  obtain ⟨b, o, cs, rfl, _, hat, ⟨f1, o1, h1, rfl, hf1, ho1, hh1⟩, _⟩ := (hl.up hu).at hx
  obtain ⟨b', o', cs', rfl, _, hat', ⟨f2, o2, h2, rfl, hf2, ho2, hh2⟩, _⟩ := (hl'.up hu).at hx
  have hat : At w1 b (o + i * 4) _ := hat
  have hat' : At w1 b' (o' + i * 4) _ := hat'
  generalize l[i] = p at *
  obtain ⟨⟨pn, pf⟩, po, ph⟩ := p
  simp only at hf1 ho1 hh1 hf2 ho2 hh2 hat hat'
  obtain ⟨fa, fc, rfl, _⟩ := id hf1
  obtain ⟨fa', fc', rfl, _⟩ := id hf2
  obtain ⟨oa, oc, rfl, honc, hocm, _⟩ := id ho1
  obtain ⟨oa', oc', rfl, _⟩ := id ho2
  obtain ⟨ha, hc, rfl, hhnc, hhcm, _⟩ := id hh1
  obtain ⟨ha', hc', rfl, _⟩ := id hh2
  unfold maxLen at hocm hhcm
  have hp1 : At w1 b (o + i * 4) [.string pn, .slice fa pf.length fc] := fun j u hj => hat j u (by match j, hj with | 0, hj => exact hj | 1, hj => exact hj)
  have hp2 : At w1 b' (o' + i * 4) [.string pn, .slice fa' pf.length fc'] := fun j u hj => hat' j u (by match j, hj with | 0, hj => exact hj | 1, hj => exact hj)
  have k1 : ¬ ¬ (po.length : Int) = (po.length : Int) := fun h => h rfl
  have k2 : ¬ ¬ (ph.length : Int) = (ph.length : Int) := fun h => h rfl
  repeat (first | refine RL.vv ?_ | refine RL.p ?_ | refine RL.nil ?_ | refine Sim.seq ?_ | refine Sim.region ?_ | refine Sim.block ?_ | refine Sim.skip ?_ | refine Sim.inBlock ?_ | refine Sim.exit rfl ?_ | refine Sim.condT rfl ?_ | refine Sim.condF rfl ?_)
  refine Sim.q ?_
  refine RQ.vv ?_
  refine RQ.vv ?_
  refine RQ.vv ?_
  refine RQ.vv ?_
  refine RQ.vv ?_ (hy := fun wq hq => y_loadA rfl (hp1.up hq) rfl)
  refine RQ.vv ?_
  refine RQ.vv ?_
  refine RQ.vv ?_
  refine RQ.vv ?_
  refine RQ.vv ?_ (hy := fun wq hq => y_loadA rfl (hp2.up hq) rfl)
  refine RQ.cu (fun wq hq => q_call (SameType_eq ⟨pn, pf⟩ wq (hf1.up hq) (hf2.up hq)) hq) ?_
  clear hp1 hp2
  repeat (first | refine RQ.vv ?_ | refine RQ.p ?_)
  refine RQ.nil fun w2 hq => ?_
  have hu2 := hu.trans hq
  have hat2 := hat.up hq
  have hat2' := hat'.up hq
  clear hat hat'
  repeat (first | refine RL.vv ?_ | refine RL.p ?_ | refine RL.nil ?_ | refine Sim.seq ?_ | refine Sim.region ?_ | refine Sim.block ?_ | refine Sim.skip ?_ | refine Sim.inBlock ?_ | refine Sim.exit rfl ?_ | refine Sim.condT rfl ?_ | refine Sim.condF rfl ?_)
  refine Sim.loop (σ := Nat) (fun j => [(0, .slice (some ⟨b, o, none⟩) l.length c), (1, .slice (some ⟨b', o', none⟩) l.length c'), (14, .int .i64 (l.length : Int)), (15, .int .i64 (i : Int)), (5, .int .i64 (i : Int)), (65, .int .i64 (po.length : Int)), (66, .int .i64 (j : Int))]) (fun j w' => j ≤ po.length ∧ Up w2 w') (fun j => po.length - j) 0 sb ⟨Nat.zero_le _, .refl _⟩ ?_
  rintro j w3 ⟨hj, hu3⟩ next2
  by_cases hjl : j < po.length
  · have hxo : po[j]? = some po[j] := List.getElem?_eq_getElem hjl
    obtain ⟨ob, oo, cs, rfl, _, hoat, rfl, _⟩ := (ho1.up (hq.trans hu3)).at hxo
    obtain ⟨ob', oo', cs, rfl, _, hoat', rfl, _⟩ := (ho2.up (hq.trans hu3)).at hxo
    have hoat : At w3 ob (oo + j * 3) _ := hoat
    have hoat' : At w3 ob' (oo' + j * 3) _ := hoat'
    have hat3 := hat2.up hu3
    have hat3' := hat2'.up hu3
    generalize po[j] = x at *
    repeat (first | refine RL.vv ?_ | refine RL.p ?_ | refine RL.nil ?_ | refine Sim.seq ?_ | refine Sim.region ?_ | refine Sim.block ?_ | refine Sim.skip ?_ | refine Sim.inBlock ?_ | refine Sim.exit rfl ?_ | refine Sim.condT rfl ?_ | refine Sim.condF rfl ?_)
    refine Sim.q ?_
    repeat (first | refine RQ.vv ?_ | refine RQ.p ?_)
    refine RQ.val trivial rfl (fun wq hq => y_neqA (b := true) rfl rfl guard_ownr (eq_ownr x.type x.field x.service)) ?_
    refine RQ.nil fun w4 hq4 => ?_
    repeat (first | refine RL.vv ?_ | refine RL.p ?_ | refine RL.nil ?_ | refine Sim.seq ?_ | refine Sim.region ?_ | refine Sim.block ?_ | refine Sim.skip ?_ | refine Sim.inBlock ?_ | refine Sim.exit rfl ?_ | refine Sim.condT rfl ?_ | refine Sim.condF rfl ?_)
    exact next2 (j + 1) _ _ ⟨by omega, hu3.trans hq4⟩ (by omega) sb
  obtain rfl : j = po.length := by omega
  clear next2
  have hat3 := hat2.up hu3
  have hat3' := hat2'.up hu3
  repeat (first | refine RL.vv ?_ | refine RL.p ?_ | refine RL.nil ?_ | refine Sim.seq ?_ | refine Sim.region ?_ | refine Sim.block ?_ | refine Sim.skip ?_ | refine Sim.inBlock ?_ | refine Sim.exit rfl ?_ | refine Sim.condT rfl ?_ | refine Sim.condF rfl ?_)
  refine Sim.loop (σ := Nat) (fun j => [(0, .slice (some ⟨b, o, none⟩) l.length c), (1, .slice (some ⟨b', o', none⟩) l.length c'), (14, .int .i64 (l.length : Int)), (15, .int .i64 (i : Int)), (5, .int .i64 (i : Int)), (92, .int .i64 (ph.length : Int)), (93, .int .i64 (j : Int))]) (fun j w' => j ≤ ph.length ∧ Up w3 w') (fun j => ph.length - j) 0 sb ⟨Nat.zero_le _, .refl _⟩ ?_
  rintro j w4 ⟨hj, hu4⟩ next2
  by_cases hjl : j < ph.length
  · have hxo : ph[j]? = some ph[j] := List.getElem?_eq_getElem hjl
    obtain ⟨ob, oo, cs, rfl, _, hoat, rfl, _⟩ := (hh1.up ((hq.trans hu3).trans hu4)).at hxo
    obtain ⟨ob', oo', cs, rfl, _, hoat', rfl, _⟩ := (hh2.up ((hq.trans hu3).trans hu4)).at hxo
    have hoat : At w4 ob (oo + j * 3) _ := hoat
    have hoat' : At w4 ob' (oo' + j * 3) _ := hoat'
    have hat4 := hat3.up hu4
    have hat4' := hat3'.up hu4
    generalize ph[j] = x at *
    repeat (first | refine RL.vv ?_ | refine RL.p ?_ | refine RL.nil ?_ | refine Sim.seq ?_ | refine Sim.region ?_ | refine Sim.block ?_ | refine Sim.skip ?_ | refine Sim.inBlock ?_ | refine Sim.exit rfl ?_ | refine Sim.condT rfl ?_ | refine Sim.condF rfl ?_)
    refine Sim.q ?_
    repeat (first | refine RQ.vv ?_ | refine RQ.p ?_)
    refine RQ.val trivial rfl (fun wq hq => y_neqA (b := true) rfl rfl guard_ownr (eq_ownr x.type x.field x.service)) ?_
    refine RQ.nil fun w5 hq5 => ?_
    repeat (first | refine RL.vv ?_ | refine RL.p ?_ | refine RL.nil ?_ | refine Sim.seq ?_ | refine Sim.region ?_ | refine Sim.block ?_ | refine Sim.skip ?_ | refine Sim.inBlock ?_ | refine Sim.exit rfl ?_ | refine Sim.condT rfl ?_ | refine Sim.condF rfl ?_)
    exact next2 (j + 1) _ _ ⟨by omega, hu4.trans hq5⟩ (by omega) sb
  repeat (first | refine RL.vv ?_ | refine RL.p ?_ | refine RL.nil ?_ | refine Sim.seq ?_ | refine Sim.region ?_ | refine Sim.block ?_ | refine Sim.skip ?_ | refine Sim.inBlock ?_ | refine Sim.exit rfl ?_ | refine Sim.condT rfl ?_ | refine Sim.condF rfl ?_)
  exact next (i + 1) _ _ ⟨by omega, (hu2.trans hu3).trans hu4⟩ (by omega) sb
end Go.Proofs.Ytgckpmcdlciibab
