/- The engine's rules: what one operation does, off the frame's entries. The facts on types and functions come as instances. -/
import Derived.Test.YtgckpmcdlciibaaEng1
namespace Go.Proofs.Ytgckpmcdlciibaa
open Go.RowKit

def scalarB : TypeDesc → Bool
  | .struct _ => false
  | .array _ _ => false
  | _ => true
class Sli (P : Program) (t : TypeId) (el : outParam TypeId) : Prop where
  h : P.underlying t = some (.slice el)
class Sca (P : Program) (t : TypeId) : Prop where
  h : ∃ d, P.underlying t = some d ∧ scalarB d = true
class Siz (P : Program) (t : TypeId) (k : outParam Nat) : Prop where
  h : ∃ i, P.info? t = some i ∧ i.size = k
class Byt (P : Program) (t : TypeId) (k : outParam Nat) : Prop where
  h : ∃ i, P.info? t = some i ∧ i.bytes = k
class Zer (P : Program) (t : TypeId) (z : outParam Value) : Prop where
  h : ∃ i, P.info? t = some i ∧ i.zero = some z
class Stc (P : Program) (t : TypeId) : Prop where
  h : ∃ fs, P.underlying t = some (.struct fs)
class Fo (P : Program) (t : TypeId) (i : Nat) (off : outParam Nat) (ft : outParam TypeId) : Prop where
  h : ∃ fs fl, P.underlying t = some (.struct fs) ∧ fs[i]? = some fl ∧ fl.offset = off ∧ fl.type = ft ∧ (P.cellsOf ft == 0) = false ∧ (P.info? ft).isSome = true
class IsStr (P : Program) (t : TypeId) : Prop where
  h : P.underlying t = some .string
class IsInt (P : Program) (t : TypeId) (k : outParam IntKind) : Prop where
  h : P.underlying t = some (.int k)
class IsPtr (P : Program) (t : TypeId) (el : outParam TypeId) : Prop where
  h : P.underlying t = some (.pointer el)
class IsMap (P : Program) (t : TypeId) (k el : outParam TypeId) : Prop where
  h : P.underlying t = some (.map k el)
class Fun (P : Program) (g : FuncId) : Prop where
  h : ∃ fn, P.funcs[g]? = some fn ∧ (fn.name == "runtime.NumGoroutine") = false ∧ fn.body.isSome = true

section
variable {P : Program} {e : Env} {w : World} {ty : TypeId} {v : Value}

theorem Sca.isAgg (P : Program) (t : TypeId) [hs : Sca P t] (w : World) : (Go.isAgg t).run P w = .ok false w := by
  obtain ⟨d, h, hd⟩ := hs.h
  unfold Go.isAgg
  rw [Sem.run_bind, run_underlying h]
  simp only [Result.andThen_ok]
  cases d <;> simp_all [scalarB]
theorem Stc.isAgg (P : Program) (t : TypeId) [hs : Stc P t] (w : World) : (Go.isAgg t).run P w = .ok true w := by
  obtain ⟨d, h⟩ := hs.h
  unfold Go.isAgg
  rw [Sem.run_bind, run_underlying h]
  simp
theorem Siz.run (P : Program) (t : TypeId) {k : Nat} [hs : Siz P t k] (w : World) : (sizeOf t).run P w = .ok k w := by
  obtain ⟨i, h, hk⟩ := hs.h
  simp [Go.sizeOf, typeInfo, h, hk]
theorem Zer.run (P : Program) (t : TypeId) {z : Value} [hs : Zer P t z] (w : World) : (zeroValue t).run P w = .ok z w := by
  obtain ⟨i, h, hk⟩ := hs.h
  simp [zeroValue, typeInfo, h, hk]

theorem y_move {x : Operand} (hx : e.ev x = some v) : Yld P (.move x) ty e w v := Yld.mk fun ρ hρ => by
  simp [xop, execOp, hρ x v hx]
theorem y_assign {x : Operand} (hx : e.ev x = some v) : Yld P (.assign x) ty e w v := Yld.mk fun ρ hρ => by
  simp [xop, execOp, hρ x v hx]
theorem y_pickT {c x y : Operand} (hc : e.ev c = some (.bool true)) (hx : e.ev x = some v) : Yld P (.pick c x y) ty e w v := Yld.mk fun ρ hρ => by
  simp [xop, execOp, hρ c _ hc, hρ x v hx, asBool]
theorem y_pickF {c x y : Operand} (hc : e.ev c = some (.bool false)) (hx : e.ev y = some v) : Yld P (.pick c x y) ty e w v := Yld.mk fun ρ hρ => by
  simp [xop, execOp, hρ c _ hc, hρ y v hx, asBool]
theorem y_load1 {t : TypeId} {x : Operand} {a : Addr} [Sca P t] (hx : e.ev x = some (.pointer (some a))) (hc : w.cell? a = some v) : Yld P (.load t x) ty e w v := Yld.mk fun ρ hρ => by
  have h1 := Sca.isAgg P t w
  simp [xop, execOp, hρ x _ hx, Instr.loadAt, Instr.sureAddr, loadVar, h1, load, Sem.run, hc]

/-- these cells stand from here on -/
def At (w : World) (b o : Nat) (cs : List Value) : Prop := ∀ j v, cs[j]? = some v → w.cell? ⟨b, o + j, none⟩ = some v
theorem addr_add (b o j : Nat) : (⟨b, o, none⟩ : Addr).add j = ⟨b, o + j, none⟩ := by
  unfold Addr.add; split <;> simp_all
theorem run_loadCellsFrom {b o : Nat} : ∀ (cs : List Value) (i : Nat) (acc : Array Value), (∀ j v, cs[j]? = some v → w.cell? ⟨b, o + (i + j), none⟩ = some v) →
    (loadCellsFrom ⟨b, o, none⟩ i cs.length acc).run P w = .ok (acc ++ cs.toArray) w
  | [], i, acc, _ => by simp [loadCellsFrom]
  | c :: cs, i, acc, h => by
    have h0 := h 0 c (by simp)
    have ih := run_loadCellsFrom cs (i + 1) (acc.push c) (fun j v hj => by have := h (j + 1) v (by simpa using hj); rwa [show i + 1 + j = i + (j + 1) by omega])
    simp only [Nat.add_zero] at h0
    simp only [List.length_cons, loadCellsFrom, Sem.run_bind, load, addr_add, Sem.run, h0, Result.andThen_ok]
    rw [ih]
    simp
theorem y_loadA {t : TypeId} {x : Operand} {b o : Nat} {cs : List Value} {k : Nat} [Stc P t] [Siz P t k] (hx : e.ev x = some (.pointer (some ⟨b, o, none⟩))) (hc : At w b o cs) (hk : cs.length = k) :
    Yld P (.load t x) ty e w (.agg cs.toArray) := Yld.mk fun ρ hρ => by
  have h1 := Stc.isAgg P t w
  have h2 := Siz.run P t (k := k) w
  have h3 := run_loadCellsFrom (P := P) (w := w) (b := b) (o := o) cs 0 #[] (by simpa [At] using hc)
  subst hk
  simp [xop, execOp, hρ x _ hx, Instr.loadAt, Instr.sureAddr, loadVar, h1, h2, loadCells, h3]
theorem y_loadF {t : TypeId} {x : Operand} {b o j : Nat} {cs : List Value} [Sca P t] (hx : e.ev x = some (.pointer (some ⟨b, o + j, none⟩))) (hc : At w b o cs) (hj : cs[j]? = some v) :
    Yld P (.load t x) ty e w v := y_load1 hx (hc j v hj)
theorem y_load0 {t : TypeId} {x : Operand} {b o : Nat} {cs : List Value} [Sca P t] (hx : e.ev x = some (.pointer (some ⟨b, o, none⟩))) (hc : At w b o cs) (hj : cs[0]? = some v) :
    Yld P (.load t x) ty e w v := y_load1 hx (hc 0 v hj)
theorem y_nilCheck {x : Operand} {a : Addr} (hx : e.ev x = some (.pointer (some a))) : Yld P (.nilCheck x) ty e w (.pointer (some a)) := Yld.mk fun ρ hρ => by
  simp [xop, execOp, hρ x _ hx]
theorem y_not {t : TypeId} {x : Operand} {b : Bool} (hx : e.ev x = some (.bool b)) : Yld P (.unOp .not t x) ty e w (.bool !b) := Yld.mk fun ρ hρ => by
  simp [xop, execOp, hρ x _ hx, Op.unary]
theorem y_notT {t : TypeId} {x : Operand} (hx : e.ev x = some (.bool true)) : Yld P (.unOp .not t x) ty e w (.bool false) := y_not hx
theorem y_notF {t : TypeId} {x : Operand} (hx : e.ev x = some (.bool false)) : Yld P (.unOp .not t x) ty e w (.bool true) := y_not hx

theorem int_beq (a b : Int) : (a == b) = decide (a = b) := by by_cases h : a = b <;> simp [h]
theorem int_bne (a b : Int) : (a != b) = decide (¬ a = b) := by by_cases h : a = b <;> simp [h, bne]
section ints
variable {t u : TypeId} {x y : Operand} {k : IntKind} {a b : Int}
theorem run_eqGuard_int (op : BinOp) (t : TypeId) (x y : Operand) (k k' : IntKind) (a b : Int) (w : World) : (eqGuard op t x y (.int k a) (.int k' b)).run P w = .ok () w := by
  unfold eqGuard
  split <;> simp
theorem y_cmp (op : BinOp) (c : Bool) (hx : e.ev x = some (.int k a)) (hy : e.ev y = some (.int k b)) (hc : Op.intCmp op a b = pure (.bool c)) (hop : op = .lss ∨ op = .leq ∨ op = .gtr ∨ op = .geq ∨ op = .eql ∨ op = .neq) :
    Yld P (.binOp op t x y u) ty e w (.bool c) := Yld.mk fun ρ hρ => by
  have hg := run_eqGuard_int (P := P) op t x y k k a b w
  rcases hop with rfl | rfl | rfl | rfl | rfl | rfl <;>
    simp [xop, execOp, hρ x _ hx, hρ y _ hy, hg, binOp, hc]
theorem y_lss (hx : e.ev x = some (.int k a)) (hy : e.ev y = some (.int k b)) : Yld P (.binOp .lss t x y u) ty e w (.bool (decide (a < b))) := y_cmp _ _ hx hy rfl (by simp)
theorem y_leq (hx : e.ev x = some (.int k a)) (hy : e.ev y = some (.int k b)) : Yld P (.binOp .leq t x y u) ty e w (.bool (decide (a ≤ b))) := y_cmp _ _ hx hy rfl (by simp)
theorem y_gtr (hx : e.ev x = some (.int k a)) (hy : e.ev y = some (.int k b)) : Yld P (.binOp .gtr t x y u) ty e w (.bool (decide (b < a))) := y_cmp _ _ hx hy rfl (by simp)
theorem y_geq (hx : e.ev x = some (.int k a)) (hy : e.ev y = some (.int k b)) : Yld P (.binOp .geq t x y u) ty e w (.bool (decide (b ≤ a))) := y_cmp _ _ hx hy rfl (by simp)
theorem y_eql (hx : e.ev x = some (.int k a)) (hy : e.ev y = some (.int k b)) : Yld P (.binOp .eql t x y u) ty e w (.bool (decide (a = b))) :=
  y_cmp _ _ hx hy (by simp only [Op.intCmp, int_beq]) (by simp)
theorem y_neq (hx : e.ev x = some (.int k a)) (hy : e.ev y = some (.int k b)) : Yld P (.binOp .neq t x y u) ty e w (.bool (decide (¬ a = b))) :=
  y_cmp _ _ hx hy (by simp only [Op.intCmp, int_bne]) (by simp)
theorem dT {p : Prop} [Decidable p] (h : p) {op : Op} (hy : Yld P op ty e w (.bool (decide p))) : Yld P op ty e w (.bool true) := by rw [decide_eq_true h] at hy; exact hy
theorem dF {p : Prop} [Decidable p] (h : ¬ p) {op : Op} (hy : Yld P op ty e w (.bool (decide p))) : Yld P op ty e w (.bool false) := by rw [decide_eq_false h] at hy; exact hy
theorem y_arith (op : BinOp) (c d : Int) (hx : e.ev x = some (.int k a)) (hy : e.ev y = some (.int k b)) (hc : Op.intArith op k a b = pure (.int k (k.wrap c))) (hcd : c = d) (hw : k.wrap d = d) (hop : op = .add ∨ op = .sub ∨ op = .mul) :
    Yld P (.binOp op t x y u) ty e w (.int k d) := Yld.mk fun ρ hρ => by
  subst hcd
  have hg := run_eqGuard_int (P := P) op t x y k k a b w
  rcases hop with rfl | rfl | rfl <;> simp [xop, execOp, hρ x _ hx, hρ y _ hy, hg, binOp, hc, hw]
theorem wrap_i64 {d : Int} (h1 : -9223372036854775808 ≤ d) (h2 : d ≤ 9223372036854775807) : IntKind.i64.wrap d = d := IntWalk.i64_in _ ⟨h1, h2⟩
theorem y_add {d : Int} (hx : e.ev x = some (.int .i64 a)) (hy : e.ev y = some (.int .i64 b)) (hd : a + b = d) (h1 : -9223372036854775808 ≤ d) (h2 : d ≤ 9223372036854775807) : Yld P (.binOp .add t x y u) ty e w (.int .i64 d) :=
  y_arith .add _ d hx hy rfl hd (wrap_i64 h1 h2) (by simp)
theorem y_sub {d : Int} (hx : e.ev x = some (.int .i64 a)) (hy : e.ev y = some (.int .i64 b)) (hd : a - b = d) (h1 : -9223372036854775808 ≤ d) (h2 : d ≤ 9223372036854775807) : Yld P (.binOp .sub t x y u) ty e w (.int .i64 d) :=
  y_arith .sub _ d hx hy rfl hd (wrap_i64 h1 h2) (by simp)
/-- a counter goes up by one -/
theorem y_inc {n : Nat} (hx : e.ev x = some (.int .i64 (n : Int))) (hy : e.ev y = some (.int .i64 1)) (h : n < 9223372036854775807) : Yld P (.binOp .add t x y u) ty e w (.int .i64 ((n + 1 : Nat) : Int)) :=
  y_add hx hy (by omega) (by omega) (by omega)
end ints

section strings
variable {t u : TypeId} {x y : Operand} {a b : ByteArray}
theorem toList_beq (a b : ByteArray) : (a.toList == b.toList) = decide (a = b) := by
  by_cases h : a = b
  · subst h; simp
  · have : a.toList ≠ b.toList := fun hh => h (by
      rw [ByteArray.toList_eq, ByteArray.toList_eq] at hh
      cases a; cases b
      congr
      exact Array.toList_inj.1 hh)
    simp [h, this]
theorem y_eqlS (hx : e.ev x = some (.string a)) (hy : e.ev y = some (.string b)) : Yld P (.binOp .eql t x y u) ty e w (.bool (decide (a = b))) := Yld.mk fun ρ hρ => by
  simp [xop, execOp, hρ x _ hx, hρ y _ hy, eqGuard, binOp, Op.stringOp, toList_beq]
theorem y_neqS (hx : e.ev x = some (.string a)) (hy : e.ev y = some (.string b)) : Yld P (.binOp .neq t x y u) ty e w (.bool (decide (¬ a = b))) := Yld.mk fun ρ hρ => by
  simp [xop, execOp, hρ x _ hx, hρ y _ hy, eqGuard, binOp, Op.stringOp, toList_beq]
theorem y_lenS {x : Operand} [IsStr P t] (hx : e.ev x = some (.string a)) : Yld P (.call { callee := .builtin .len, args := #[x], argTypes := #[t] }) ty e w (.int .i64 (a.size : Int)) := Yld.mk fun ρ hρ => by
  have h1 := run_underlying (IsStr.h (P := P) (t := t)) w
  simp [xop, execOp, hρ x _ hx, resolve, invoke, builtin, Builtin.len_, h1, goInt]
theorem y_indexS {i : Nat} {c : UInt8} [IsStr P t] (hx : e.ev x = some (.string a)) (hy : e.ev y = some (.int .i64 (i : Int))) (hc : a[i]? = some c) : Yld P (.index t x y) ty e w (.int .u8 (c.toNat : Int)) := Yld.mk fun ρ hρ => by
  have h1 := run_underlying (IsStr.h (P := P) (t := t)) w
  simp [xop, execOp, hρ x _ hx, hρ y _ hy, Instr.index, asIntOf, h1, hc]
end strings

section slices
variable {t el u : TypeId} {x y : Operand} {a : Option Addr} {n c : Nat}
theorem y_len [Sli P t el] (hx : e.ev x = some (.slice a n c)) : Yld P (.call { callee := .builtin .len, args := #[x], argTypes := #[t] }) ty e w (.int .i64 (n : Int)) := Yld.mk fun ρ hρ => by
  have h1 := run_underlying (Sli.h (P := P) (t := t) (el := el)) w
  simp [xop, execOp, hρ x _ hx, resolve, invoke, builtin, Builtin.len_, h1, goInt]
theorem y_indexAddr {b o i k : Nat} [Sli P t el] [Siz P el k] (hx : e.ev x = some (.slice (some ⟨b, o, none⟩) n c)) (hy : e.ev y = some (.int .i64 (i : Int))) (hi : i < n) :
    Yld P (.indexAddr t x y) ty e w (.pointer (some ⟨b, o + i * k, none⟩)) := Yld.mk fun ρ hρ => by
  have h1 := run_underlying (Sli.h (P := P) (t := t) (el := el)) w
  have h2 := Siz.run P el (k := k) w
  have h3 : (0 : Int) ≤ i ∧ (i : Int) < n := by omega
  simp [xop, execOp, hρ x _ hx, hρ y _ hy, Instr.indexAt, asIntOf, h1, h2, hi, addr_add]
/-- x[:i] -/
theorem y_sliceHi {i k : Nat} [Sli P t el] [Siz P el k] (hx : e.ev x = some (.slice a n c)) (hy : e.ev y = some (.int .i64 (i : Int))) (hi : i ≤ c) :
    Yld P (.slice t x none (some y) none) ty e w (.slice a i c) := Yld.mk fun ρ hρ => by
  have h1 := run_underlying (Sli.h (P := P) (t := t) (el := el)) w
  have h2 := Siz.run P el (k := k) w
  have h3 : (i : Int) ≤ c := by omega
  have ha : (a.map fun x => x.add 0) = a := by cases a <;> simp [Addr.add]
  simp [xop, execOp, hρ x _ hx, hρ y _ hy, Instr.sliceAt, Instr.slice, h1, h2, Instr.sliceBounds, Instr.sliceBound, asIntOf, ha]
  intro hh
  omega
end slices

theorem y_fieldAddr {t : TypeId} {x : Operand} {i off : Nat} {ft : TypeId} {b o : Nat} [hf : Fo P t i off ft] (hx : e.ev x = some (.pointer (some ⟨b, o, none⟩))) : Yld P (.fieldAddr t x i) ty e w (.pointer (some ⟨b, o + off, none⟩)) := Yld.mk fun ρ hρ => by
  obtain ⟨fs, fl, h1, h2, h3, h4, h5, h6⟩ := hf.h
  have h1' := run_underlying h1 w
  obtain ⟨inf, h7⟩ := Option.isSome_iff_exists.1 h6
  have h8 : inf.size ≠ 0 := by
    intro hz
    simp [Program.cellsOf, h7, hz] at h5
  simp [xop, execOp, hρ x _ hx, Instr.fieldAt, h1', h2, Instr.sureAddr, fieldPlace, h4, Go.sizeOf, typeInfo, h7, h8, h3, addr_add]
theorem y_makeFunc {g : FuncId} {caps : Array Operand} {cs : List Value} (hc : e.evs caps.toList = some cs) : Yld P (.makeFunc (.func g) #[] caps) ty e w (.func (.func g) #[] cs.toArray) := Yld.mk fun ρ hρ => by
  have h2 : caps.map ρ = cs.toArray := Array.toList_inj.1 (by simpa using hρ.evs hc)
  simp [xop, execOp, Instr.makeFunc, h2]
theorem y_extract {x : Operand} {vs : Array Value} {i : Nat} (hx : e.ev x = some (.tuple vs)) (hv : vs[i]? = some v) : Yld P (.extract x i) ty e w v := Yld.mk fun ρ hρ => by
  simp [xop, execOp, hρ x _ hx, Instr.extract, hv]

theorem c_static {g : FuncId} {args : Array Operand} {ts : Array TypeId} {vs : List Value} [hf : Fun P g] (ha : e.evs args.toList = some vs) :
    Ent P (.call { callee := .value (.func g), args := args, argTypes := ts }) ty e w g vs.toArray := Ent.mk fun ρ hρ => by
  obtain ⟨fn, h1, h2, h3⟩ := hf.h
  have h4 : args.map ρ = vs.toArray := Array.toList_inj.1 (by simpa using hρ.evs ha)
  have h5 := hρ (.func g) _ rfl
  obtain ⟨c, hb⟩ := Option.isSome_iff_exists.1 h3
  simp [xop, execOp, resolve, h4, h5, Deferred.ofValue, invoke, callFunc, program, Sem.run, h1, hb]
  simpa using h2
theorem c_closure {g : FuncId} {x : Operand} {args : Array Operand} {ts : Array TypeId} {vs : List Value} {caps : Array Value} [hf : Fun P g] (hx : e.ev x = some (.func (.func g) #[] caps)) (ha : e.evs args.toList = some vs) :
    Ent P (.call { callee := .value x, args := args, argTypes := ts }) ty e w g (vs.toArray ++ caps) := Ent.mk fun ρ hρ => by
  obtain ⟨fn, h1, h2, h3⟩ := hf.h
  have h4 : args.map ρ = vs.toArray := Array.toList_inj.1 (by simpa using hρ.evs ha)
  have h5 := hρ x _ hx
  obtain ⟨c, hb⟩ := Option.isSome_iff_exists.1 h3
  simp [xop, execOp, resolve, h4, h5, Deferred.ofValue, invoke, callFunc, program, Sem.run, h1, hb]
  simpa using h2

theorem e_box {t : TypeId} {x : Operand} (hx : e.ev x = some v) : Eff P (.box t x) ty e w (.pointer (some ⟨w.heap.size, 0, none⟩)) (w.alloc (.cells v.cells t)) := Eff.mk fun ρ hρ => by
  simp [xop, execOp, hρ x _ hx, Instr.box, newVar, newRow, newObj, Sem.run]
theorem e_alloc {t : TypeId} {z : Value} [Zer P t z] : Eff P (.alloc t) ty e w (.pointer (some ⟨w.heap.size, 0, none⟩)) (w.alloc (.cells z.cells t)) := Eff.mk fun ρ _ => by
  have h1 := Zer.run P t (z := z) w
  simp [xop, execOp, Instr.alloc, h1, newVar, newRow, newObj, Sem.run]
end
end Go.Proofs.Ytgckpmcdlciibaa
