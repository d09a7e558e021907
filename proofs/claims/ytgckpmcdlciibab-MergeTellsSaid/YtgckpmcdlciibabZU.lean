/- Contracts of chapter 1: a type compared with another. -/
import Derived.Test.YtgckpmcdlciibabZB
import Derived.Test.YtgckpmcdlciibabZK
namespace Go.Proofs.Ytgckpmcdlciibab
open Go.RowKit
theorem eq_field (a b : Str) (k : Int) (w : World) : (Op.equalIn 10000 86 (.agg #[.string a, .int .i64 k, .string b]) (.agg #[.string a, .int .i64 k, .string b])).run Try.prog w = .ok true w := by
  have h0 : Try.prog.underlying 86 = some (.struct (Try.prog.fieldsOf 86)) := by kernel_rfl
  have h1 : Try.prog.stoodInHeld 86 = false := by kernel_rfl
  have h2 : (Try.prog.fieldsOf 86).toList = [{ name := "Name", type := 9, offset := 0, embedded := false, tag := "", pkgPath := "", byteOffset := 0 }, { name := "Kind", type := 3, offset := 1, embedded := false, tag := "", pkgPath := "", byteOffset := 16 }, { name := "Type", type := 9, offset := 2, embedded := false, tag := "", pkgPath := "", byteOffset := 24 }] := by kernel_rfl
  rw [run_equalIn_struct w 9999 _ _ _ h0 h1, h2]
  have s1 := Sca.isAgg Try.prog 9
  have s2 := Sca.isAgg Try.prog 3
  have u1 := fun w c => run_equalIn_string (P := Try.prog) w 9998 9 c c Try.underlying9
  have u2 := fun w => run_equalIn_int (P := Try.prog) w 9998 3 .i64 .i64 k k Try.underlying3
  simp [Op.eqFields, part, s1, s2, u1, u2]
theorem guard_field : Try.prog.eqGuardType Try.prog.depth 86 = false := by kernel_rfl
set_option maxHeartbeats 1000000 in
theorem SameType_eq {S S' : Nat → Prop} {v v' : Value} (t : Typ) (w : World) (hl : SliceOf fldLay S w v t.fields) (hl' : SliceOf fldLay S' w v' t.fields) :
    Calls Try.prog 68 #[.agg #[.string t.name, v], .agg #[.string t.name, v']] w fun en w' => en = .returned (.bool true) ∧ Up w w' := by
  refine calls_of_sim Try.func68 rfl (Nat.le_of_ble_eq_true rfl) ?_
  obtain ⟨n, l⟩ := t
  simp only at hl hl' ⊢
  obtain ⟨a, c, rfl, hnc, hcm, _⟩ := id hl
  obtain ⟨a', c', rfl, hnc', hcm', _⟩ := id hl'
  unfold maxLen at hcm hcm'
  have hnn : n = n := rfl
  repeat (first | refine RL.vv ?_ | refine RL.p ?_ | refine RL.nil ?_ | refine Sim.seq ?_ | refine Sim.region ?_ | refine Sim.block ?_ | refine Sim.skip ?_ | refine Sim.inBlock ?_ | refine Sim.exit rfl ?_ | refine Sim.condT rfl ?_ | refine Sim.condF rfl ?_)
  refine RL.bx (.refl w) fun b2 w1 _ _ hu1 _ hb2 => ?_
  refine RL.bx hu1 fun b3 w2 _ _ hu h12 hb3 => ?_
  have hb2 := hb2.up h12
  have ha2 := hb2.at
  have ha3 := hb3.at
  repeat (first | refine RL.vv ?_ | refine RL.p ?_ | refine RL.nil ?_ | refine Sim.seq ?_ | refine Sim.region ?_ | refine Sim.block ?_ | refine Sim.skip ?_ | refine Sim.inBlock ?_ | refine Sim.exit rfl ?_ | refine Sim.condT rfl ?_ | refine Sim.condF rfl ?_)
  refine Sim.loop (σ := Nat) (fun i => [(2, .pointer (some ⟨b2, 0, none⟩)), (3, .pointer (some ⟨b3, 0, none⟩)), (22, .int .i64 (l.length : Int)), (23, .int .i64 (i : Int))]) (fun i w' => i ≤ l.length ∧ Up w w' ∧ Box w' b2 _ _ ∧ Box w' b3 _ _) (fun i => l.length - i) 0 sb ⟨Nat.zero_le _, hu, hb2, hb3⟩ ?_
  clear hu hb2 hb3 ha2 ha3 hu1 h12
  rintro i w1 ⟨hi, hu, hb2, hb3⟩ next
  have ha2 := hb2.at
  have ha3 := hb3.at
  by_cases hlt : i < l.length
  · have hx : l[i]? = some l[i] := List.getElem?_eq_getElem hlt
    obtain ⟨b, o, cs, rfl, _, hat, rfl, _⟩ := (hl.up hu).at hx
    obtain ⟨b', o', cs', rfl, _, hat', rfl, _⟩ := (hl'.up hu).at hx
    have hat : At w1 b (o + i * 3) _ := hat
    have hat' : At w1 b' (o' + i * 3) _ := hat'
    generalize l[i] = x at *
    repeat (first | refine RL.vv ?_ | refine RL.p ?_ | refine RL.nil ?_ | refine Sim.seq ?_ | refine Sim.region ?_ | refine Sim.block ?_ | refine Sim.skip ?_ | refine Sim.inBlock ?_ | refine Sim.exit rfl ?_ | refine Sim.condT rfl ?_ | refine Sim.condF rfl ?_)
    refine Sim.q ?_
    repeat (first | refine RQ.vv ?_ | refine RQ.p ?_)
    refine RQ.val trivial rfl (fun wq hq => y_neqA (b := true) rfl rfl guard_field (eq_field x.name x.type x.kind)) ?_
    refine RQ.nil fun w2 hq => ?_
    repeat (first | refine RL.vv ?_ | refine RL.p ?_ | refine RL.nil ?_ | refine Sim.seq ?_ | refine Sim.region ?_ | refine Sim.block ?_ | refine Sim.skip ?_ | refine Sim.inBlock ?_ | refine Sim.exit rfl ?_ | refine Sim.condT rfl ?_ | refine Sim.condF rfl ?_)
    exact next (i + 1) _ _ ⟨by omega, hu.trans hq, hb2.up hq, hb3.up hq⟩ (by omega) sb
  · repeat (first | refine RL.vv ?_ | refine RL.p ?_ | refine RL.nil ?_ | refine Sim.seq ?_ | refine Sim.region ?_ | refine Sim.block ?_ | refine Sim.skip ?_ | refine Sim.inBlock ?_ | refine Sim.exit rfl ?_ | refine Sim.condT rfl ?_ | refine Sim.condF rfl ?_)
    exact Sim.ret1 Try.func68 rfl rfl ⟨rfl, hu⟩
end Go.Proofs.Ytgckpmcdlciibab
