/- Comparing structs and bools; fields of a struct's value. -/
import Derived.Test.YtgckpmcdlciibaaEng5
namespace Go.Proofs.Ytgckpmcdlciibaa
open Go.RowKit
section
variable {P : Program} {e : Env} {w : World} {ty : TypeId} {v : Value}
class IsBool (P : Program) (t : TypeId) : Prop where
  h : P.underlying t = some .bool
theorem run_eqGuard_bool (op : BinOp) (t : TypeId) (x y : Operand) (a b : Bool) (w : World) : (eqGuard op t x y (.bool a) (.bool b)).run P w = .ok () w := by
  unfold eqGuard
  split <;> simp
theorem y_neqB {t u : TypeId} {x y : Operand} {a b : Bool} [IsBool P t] (hx : e.ev x = some (.bool a)) (hy : e.ev y = some (.bool b)) : Yld P (.binOp .neq t x y u) ty e w (.bool (a != b)) := Yld.mk fun ρ hρ => by
  have h1 := run_equalIn_bool' (P := P) w 9999 t a b IsBool.h
  have h3 := run_eqGuard_bool (P := P) .neq t x y a b w
  have h4 : binOp .neq t (.bool a) (.bool b) = (Op.equal t (.bool a) (.bool b) >>= fun b => pure (.bool (!b))) := rfl
  have h5 : (Op.equal t (.bool a) (.bool b)).run P w = .ok (a == b) w := h1
  simp only [xop, execOp, hρ x _ hx, hρ y _ hy, Sem.run_bind, h3, Result.andThen_ok, h4, h5, Sem.run_pure]
  rfl
theorem y_eqlB {t u : TypeId} {x y : Operand} {a b : Bool} [IsBool P t] (hx : e.ev x = some (.bool a)) (hy : e.ev y = some (.bool b)) : Yld P (.binOp .eql t x y u) ty e w (.bool (a == b)) := Yld.mk fun ρ hρ => by
  have h1 := run_equalIn_bool' (P := P) w 9999 t a b IsBool.h
  have h3 := run_eqGuard_bool (P := P) .eql t x y a b w
  have h4 : binOp .eql t (.bool a) (.bool b) = (Op.equal t (.bool a) (.bool b) >>= fun b => pure (.bool b)) := rfl
  have h5 : (Op.equal t (.bool a) (.bool b)).run P w = .ok (a == b) w := h1
  simp only [xop, execOp, hρ x _ hx, hρ y _ hy, Sem.run_bind, h3, Result.andThen_ok, h4, h5, Sem.run_pure]
theorem y_neqBF {t u : TypeId} {x y : Operand} {a : Bool} [IsBool P t] (hx : e.ev x = some (.bool a)) (hy : e.ev y = some (.bool a)) : Yld P (.binOp .neq t x y u) ty e w (.bool false) := by
  have := y_neqB (P := P) (w := w) (ty := ty) (t := t) (u := u) hx hy
  simpa using this
/-- two structs compared: the fields' run is given -/
theorem y_neqA {t u : TypeId} {x y : Operand} {xs ys : Array Value} {b : Bool} (hx : e.ev x = some (.agg xs)) (hy : e.ev y = some (.agg ys)) (hm : P.eqGuardType P.depth t = false) (hq : ∀ w, (Op.equalIn 10000 t (.agg xs) (.agg ys)).run P w = .ok b w) :
    Yld P (.binOp .neq t x y u) ty e w (.bool (!b)) := Yld.mk fun ρ hρ => by
  have h3 := run_eqGuard_agg (P := P) w .neq t x y xs ys hm
  have h4 := run_neq_struct (P := P) w t xs ys
  simp only [xop, execOp, hρ x _ hx, hρ y _ hy, Sem.run_bind, h3, Result.andThen_ok, h4, hq w, Sem.run_pure]
theorem y_eqlA {t u : TypeId} {x y : Operand} {xs ys : Array Value} {b : Bool} (hx : e.ev x = some (.agg xs)) (hy : e.ev y = some (.agg ys)) (hm : P.eqGuardType P.depth t = false) (hq : ∀ w, (Op.equalIn 10000 t (.agg xs) (.agg ys)).run P w = .ok b w) :
    Yld P (.binOp .eql t x y u) ty e w (.bool b) := Yld.mk fun ρ hρ => by
  have h3 := run_eqGuard_agg (P := P) w .eql t x y xs ys hm
  have h4 := run_eql_struct (P := P) w t xs ys
  simp only [xop, execOp, hρ x _ hx, hρ y _ hy, Sem.run_bind, h3, Result.andThen_ok, h4, hq w, Sem.run_pure]
/-- a field of a struct's value -/
theorem y_field {t : TypeId} {x : Operand} {i : Nat} {xs : Array Value} (hx : e.ev x = some (.agg xs)) (hr : ∀ w, (Instr.field t (.agg xs) i).run P w = .ok v w) : Yld P (.field t x i) ty e w v := Yld.mk fun ρ hρ => by
  simp [xop, execOp, hρ x _ hx, hr w]
end
instance : IsBool Try.prog 4 := ⟨Try.underlying4⟩
theorem eq_fault (a b c d : Int) (w : World) : (Op.equalIn 10000 51 (.agg #[.int .i64 a, .int .i64 b]) (.agg #[.int .i64 c, .int .i64 d])).run Try.prog w = .ok ((a == c) && (b == d)) w := by
  have h0 : Try.prog.underlying 51 = some (.struct (Try.prog.fieldsOf 51)) := by kernel_rfl
  have h1 : Try.prog.stoodInHeld 51 = false := by kernel_rfl
  have h2 : (Try.prog.fieldsOf 51).toList = [{ name := "Err", type := 30, offset := 0, embedded := false, tag := "", pkgPath := "", byteOffset := 0 }, { name := "At", type := 3, offset := 1, embedded := false, tag := "", pkgPath := "", byteOffset := 8 }] := by kernel_rfl
  rw [run_equalIn_struct w 9999 _ _ _ h0 h1, h2]
  have s1 := Sca.isAgg Try.prog 30
  have s2 := Sca.isAgg Try.prog 3
  have u1 := fun w => run_equalIn_int (P := Try.prog) w 9998 30 .i64 .i64 a c Try.underlying30
  have u2 := fun w => run_equalIn_int (P := Try.prog) w 9998 3 .i64 .i64 b d Try.underlying3
  cases h : (a == c)
  · simp [Op.eqFields, part, s1, s2, u1, u2, h]
  · simp [Op.eqFields, part, s1, s2, u1, u2, h]
    by_cases hb : b = d <;> simp [hb]
theorem guard_fault : Try.prog.eqGuardType Try.prog.depth 51 = false := by kernel_rfl

section
variable {P : Program} {f : FuncId} {N : Nat} {k : List Item} {K : Act → World → Prop} {e : Env} {w : World} {R : Ending → World → Prop} {C : World → Prop}
variable {ops : Array Oper} {rest : List Oper} {d : Nat} {op : Op} {ty : TypeId} {ps : String} {af : Array Edge} {g : Option (Nat × Bool)} {v : Value}
theorem sb {e' e : Env} (h : Env.Sub e' e := by repeat (first | exact Env.Sub.nil _ | refine Env.Sub.cons rfl ?_)) : Env.Sub e' e := h
/-- one operation that yields a value: the rule is looked for -/
theorem RL.vv (h : RL P f N ops rest K ((d, v) :: e) w R) (hw : Wants ops e g := by first | exact trivial | exact ⟨_, _, rfl, rfl, rfl⟩) (hd : Nat.blt d N = true := by rfl) (hy : Yld P op ty e w v := by (first | exact y_move rfl | exact y_assign rfl | exact y_pickT rfl rfl | exact y_pickF rfl rfl | exact y_nilCheck rfl | exact y_notT rfl | exact y_notF rfl | exact y_not rfl | exact y_len rfl | exact y_lenS rfl | exact y_fieldAddr rfl | exact y_makeFunc rfl | exact y_neqNilF rfl | exact y_neqBF rfl rfl | exact y_neqNilT rfl | exact y_eqlNilF rfl | exact y_eqlNilT rfl | exact y_loadF rfl (by assumption) rfl | exact y_loadF rfl (Box.at (by assumption)) rfl | exact y_loadF rfl (At.up (by assumption) hq) rfl | exact y_loadF rfl (Box.at (Box.up (by assumption) hq)) rfl | exact y_loadF rfl (At.up (w := w) (by assumption) hu) rfl | exact y_loadF rfl (At.up (w := w) (by assumption) (hu.trans hq)) rfl | exact y_load0 rfl (by assumption) rfl | exact y_load0 rfl (Box.at (by assumption)) rfl | exact y_load0 rfl (At.up (by assumption) hq) rfl | exact y_load0 rfl (Box.at (Box.up (by assumption) hq)) rfl | exact y_load0 rfl (At.up (w := w) (by assumption) hu) rfl | exact y_load0 rfl (At.up (w := w) (by assumption) (hu.trans hq)) rfl | exact y_load1 rfl (by assumption) | exact y_loadA rfl (by assumption) (by first | rfl | assumption) | exact y_loadA rfl (Box.at (by assumption)) rfl | exact y_loadA rfl (At.up (by assumption) hq) (by first | rfl | assumption) | exact y_loadA rfl (At.up (w := w) (by assumption) hu) (by first | rfl | assumption) | exact y_loadA rfl (At.up (w := w) (by assumption) (hu.trans hq)) (by first | rfl | assumption) | exact y_extract rfl rfl | exact dT (by (first | assumption | omega)) (y_lss rfl rfl) | exact dF (by (first | assumption | omega)) (y_lss rfl rfl) | exact dT (by (first | assumption | omega)) (y_gtr rfl rfl) | exact dF (by (first | assumption | omega)) (y_gtr rfl rfl) | exact dT (by (first | assumption | omega)) (y_geq rfl rfl) | exact dF (by (first | assumption | omega)) (y_geq rfl rfl) | exact dT (by (first | assumption | omega)) (y_leq rfl rfl) | exact dF (by (first | assumption | omega)) (y_leq rfl rfl) | exact dT (by (first | assumption | omega)) (y_eql rfl rfl) | exact dF (by (first | assumption | omega)) (y_eql rfl rfl) | exact dT (by (first | assumption | omega)) (y_neq rfl rfl) | exact dF (by (first | assumption | omega)) (y_neq rfl rfl) | exact y_lss rfl rfl | exact y_gtr rfl rfl | exact y_geq rfl rfl | exact y_leq rfl rfl | exact y_eql rfl rfl | exact y_neq rfl rfl | exact y_indexAddr rfl rfl (by omega) | exact y_inc rfl rfl (by omega) | exact dT (by assumption) (y_eqlS rfl rfl) | exact dF (by assumption) (y_eqlS rfl rfl) | exact dT (by assumption) (y_neqS rfl rfl) | exact y_neqSF (by assumption) rfl rfl | exact y_eqlS rfl rfl | exact y_neqS rfl rfl | exact y_indexS rfl rfl (by assumption) | exact y_sliceHi rfl rfl (by omega))) :
    RL P f N ops ({ dst := some d, op := op, type := ty, pos := ps, after := af, guard := g } :: rest) K e w R := RL.val hw hd hy h
theorem RL.p (h : RL P f N ops rest K ((d, undef) :: e) w R) (hw : Spurns ops e g := by first | exact ⟨_, _, rfl, rfl, .inl rfl⟩ | exact ⟨_, _, rfl, rfl, .inr rfl⟩) (hd : Nat.blt d N = true := by rfl) :
    RL P f N ops ({ dst := some d, op := op, type := ty, pos := ps, after := af, guard := g } :: rest) K e w R := RL.pass hw hd h
theorem RQ.vv (h : RQ P f N ops C rest k ((d, v) :: e) R) (hw : Wants ops e g := by first | exact trivial | exact ⟨_, _, rfl, rfl, rfl⟩) (hd : Nat.blt d N = true := by rfl) (hy : ∀ w, C w → Yld P op ty e w v := by (intro wq hq; (first | exact y_move rfl | exact y_assign rfl | exact y_pickT rfl rfl | exact y_pickF rfl rfl | exact y_nilCheck rfl | exact y_notT rfl | exact y_notF rfl | exact y_not rfl | exact y_len rfl | exact y_lenS rfl | exact y_fieldAddr rfl | exact y_makeFunc rfl | exact y_neqNilF rfl | exact y_neqBF rfl rfl | exact y_neqNilT rfl | exact y_eqlNilF rfl | exact y_eqlNilT rfl | exact y_loadF rfl (by assumption) rfl | exact y_loadF rfl (Box.at (by assumption)) rfl | exact y_loadF rfl (At.up (by assumption) hq) rfl | exact y_loadF rfl (Box.at (Box.up (by assumption) hq)) rfl | exact y_loadF rfl (At.up (w := w) (by assumption) hu) rfl | exact y_loadF rfl (At.up (w := w) (by assumption) (hu.trans hq)) rfl | exact y_load0 rfl (by assumption) rfl | exact y_load0 rfl (Box.at (by assumption)) rfl | exact y_load0 rfl (At.up (by assumption) hq) rfl | exact y_load0 rfl (Box.at (Box.up (by assumption) hq)) rfl | exact y_load0 rfl (At.up (w := w) (by assumption) hu) rfl | exact y_load0 rfl (At.up (w := w) (by assumption) (hu.trans hq)) rfl | exact y_load1 rfl (by assumption) | exact y_loadA rfl (by assumption) (by first | rfl | assumption) | exact y_loadA rfl (Box.at (by assumption)) rfl | exact y_loadA rfl (At.up (by assumption) hq) (by first | rfl | assumption) | exact y_loadA rfl (At.up (w := w) (by assumption) hu) (by first | rfl | assumption) | exact y_loadA rfl (At.up (w := w) (by assumption) (hu.trans hq)) (by first | rfl | assumption) | exact y_extract rfl rfl | exact dT (by (first | assumption | omega)) (y_lss rfl rfl) | exact dF (by (first | assumption | omega)) (y_lss rfl rfl) | exact dT (by (first | assumption | omega)) (y_gtr rfl rfl) | exact dF (by (first | assumption | omega)) (y_gtr rfl rfl) | exact dT (by (first | assumption | omega)) (y_geq rfl rfl) | exact dF (by (first | assumption | omega)) (y_geq rfl rfl) | exact dT (by (first | assumption | omega)) (y_leq rfl rfl) | exact dF (by (first | assumption | omega)) (y_leq rfl rfl) | exact dT (by (first | assumption | omega)) (y_eql rfl rfl) | exact dF (by (first | assumption | omega)) (y_eql rfl rfl) | exact dT (by (first | assumption | omega)) (y_neq rfl rfl) | exact dF (by (first | assumption | omega)) (y_neq rfl rfl) | exact y_lss rfl rfl | exact y_gtr rfl rfl | exact y_geq rfl rfl | exact y_leq rfl rfl | exact y_eql rfl rfl | exact y_neq rfl rfl | exact y_indexAddr rfl rfl (by omega) | exact y_inc rfl rfl (by omega) | exact dT (by assumption) (y_eqlS rfl rfl) | exact dF (by assumption) (y_eqlS rfl rfl) | exact dT (by assumption) (y_neqS rfl rfl) | exact y_neqSF (by assumption) rfl rfl | exact y_eqlS rfl rfl | exact y_neqS rfl rfl | exact y_indexS rfl rfl (by assumption) | exact y_sliceHi rfl rfl (by omega)))) :
    RQ P f N ops C ({ dst := some d, op := op, type := ty, pos := ps, after := af, guard := g } :: rest) k e R := RQ.val hw hd hy h
theorem RQ.p (h : RQ P f N ops C rest k ((d, undef) :: e) R) (hw : Spurns ops e g := by first | exact ⟨_, _, rfl, rfl, .inl rfl⟩ | exact ⟨_, _, rfl, rfl, .inr rfl⟩) (hd : Nat.blt d N = true := by rfl) :
    RQ P f N ops C ({ dst := some d, op := op, type := ty, pos := ps, after := af, guard := g } :: rest) k e R := RQ.pass hw hd h
end
end Go.Proofs.Ytgckpmcdlciibaa
