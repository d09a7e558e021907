/- Several texts in one: The library's builder of strings: rules for what it does. The library's builder of strings: its functions. The library's builder of strings: what its functions do. The library's builder of strings: the text that it holds. Contracts of chapter 4: picks are written. -/
import Derived.Test.YtgckpmcdlciibabZB
import Derived.Test.YtgckpmcdlciibabZ4
import Derived.Test.YtgckpmcdlciibabZ3
import Derived.Lib.AppendStr
import Derived.Lib.UnsafeStr
import Derived.Lib.Builder
import Derived.Laws.Externs
import Derived.Test.YtgckpmcdlciibabZC1
namespace Go.Proofs.Ytgckpmcdlciibab
open Go.RowKit
/-- bytes in cells -/
def bytLay : Lay UInt8 where
  k := 1
  pos := by decide
  is := fun _ _ cs c => cs = [.int .u8 (c.toNat : Int)]
  len := by rintro S w cs x rfl; rfl
  keep := fun h _ => h
  mono := fun h _ => h
  old := fun h => h
instance : OneC bytLay := ⟨by
  rintro S w cs x rfl c hc
  simp only [List.mem_singleton] at hc
  subst hc
  rfl⟩
section
variable {el : TypeId} {B : Nat} {S : Nat → Prop} {w w1 : World} {v : Value} {bs : List UInt8}
theorem flat_bytes : ∀ {css : List (List Value)} {bs : List UInt8}, css.length = bs.length → (∀ (i : Nat) cs x, css[i]? = some cs → bs[i]? = some x → cs = [.int .u8 (x.toNat : Int)]) → css.flatten = Lib.byteCells bs
  | [], [], _, _ => rfl
  | [], _ :: _, h, _ => by simp at h
  | _ :: _, [], h, _ => by simp at h
  | c :: css, b :: bs, h, hi => by
    rw [List.flatten_cons, hi 0 c b rfl rfl, flat_bytes (css := css) (bs := bs) (by simpa using h) fun i cs x h1 h2 => hi (i + 1) cs x (by simpa using h1) (by simpa using h2)]
    rfl
theorem Own.toBytes (h : Own bytLay el B S w v bs) : w.ownsRow B el 1 v bs.length (Lib.byteCells bs) := by
  obtain ⟨css, ho, hl, hi⟩ := h
  rw [flat_bytes hl hi] at ho
  exact ho
theorem Own.ofBytes (h : w.ownsRow B el 1 v bs.length (Lib.byteCells bs)) : Own bytLay el B S w v bs := by
  refine ⟨bs.map fun c => [.int .u8 (c.toNat : Int)], ?_, by simp, fun i cs x h1 h2 => ?_⟩
  · rw [flat_bytes (bs := bs) (by simp) fun i cs x h1 h2 => by
      rw [List.getElem?_map, h2] at h1
      simpa using h1.symm]
    exact h
  · rw [List.getElem?_map, h2] at h1
    show cs = [.int .u8 (x.toNat : Int)]
    simpa using h1.symm
/-- a block of another type is not the row's -/
theorem Own.neT (h : Own bytLay el B S w v bs) {b : Nat} {t : TypeId} {cs : List Value} (hb : Box w b t cs) (ht : t ≠ el) : some b ≠ v.ownBlock := by
  intro e
  rcases h.toBytes.2 with ⟨rfl, _⟩ | ⟨g, cap, cur, rfl, _, hg, _⟩
  · cases e
  · simp only [Value.ownBlock, Option.some.injEq] at e
    subst e
    unfold Box at hb
    rw [hb] at hg
    simp only [Option.some.injEq, Obj.cells.injEq] at hg
    exact ht hg.2.1
end
section
variable {P : Program} {f : FuncId} {N : Nat} {K : Act → World → Prop} {e : Env} {w w0 : World} {R : Ending → World → Prop}
variable {ops : Array Oper} {rest : List Oper} {d : Nat} {ty : TypeId} {ps : String} {af : Array Edge} {g : Option (Nat × Bool)} {v : Value}
theorem e_appendS {t u : TypeId} {x y : Operand} {xv v' : Value} {w' : World} (hx : e.ev x = some v) (hy : e.ev y = some xv) (hr : (Builtin.append_ #[t, u] ty #[v, xv]).run P w = .ok v' w') : Eff P (.call { callee := .builtin .append, args := #[x, y], argTypes := #[t, u] }) ty e w v' w' := Eff.mk fun ρ hρ => by
  simp [xop, execOp, hρ x _ hx, hρ y _ hy, resolve, invoke, builtin, hr]
/-- a text behind bytes -/
theorem RL.appS {t u el : TypeId} [Sli P t el] [IsStr P u] [h2 : Siz P el 1] [h3 : Byt P el 1] [h4 : Zer P el (.int .u8 0)] {x y : Operand} {B : Nat} {S : Nat → Prop} {s : Str} {bs : List UInt8} (hu : Up w0 w) (ho : Own bytLay el B S w v bs) (hsz : bs.length + s.size ≤ 1000000) (hB : w0.heap.size ≤ B) (hBw : B ≤ w.heap.size)
    (h : ∀ v' w1, Up w0 w1 → Own bytLay el B S w1 v' (bs ++ bytes s) → w.grownBy w1 v.ownBlock → RL P f N ops rest K ((d, v') :: e) w1 R)
    (hw : Wants ops e g := by first | exact trivial | exact ⟨_, _, rfl, rfl, rfl⟩) (hd : Nat.blt d N = true := by rfl) (hx : e.ev x = some v := by rfl) (hy : e.ev y = some (.string s) := by rfl) :
    RL P f N ops ({ dst := some d, op := .call { callee := .builtin .append, args := #[x, y], argTypes := #[t, u] }, type := ty, pos := ps, after := af, guard := g } :: rest) K e w R := by
  obtain ⟨i, hinf, hsize⟩ := h2.h
  have hby : i.bytes = 1 := by
    obtain ⟨i', h, he⟩ := h3.h
    rw [hinf] at h
    cases h
    exact he
  have hzz : i.zero = some (.int .u8 0) := by
    obtain ⟨i', h, he⟩ := h4.h
    rw [hinf] at h
    cases h
    exact he
  obtain ⟨v', w1, hr, h1, h2, _⟩ := Lib.run_append_own_string (P := P) w B t u ty el i Sli.h IsStr.h hinf hzz hsize hby v bs.length (Lib.byteCells bs) ho.toBytes s (by unfold maxLen; omega) (by omega) hBw
  have hbl : (bs ++ bytes s).length = bs.length + s.size := by rw [List.length_append, bytes_len]
  have ho2 : Own bytLay el B S w1 v' (bs ++ bytes s) := Own.ofBytes (by
    rw [hbl, Lib.byteCells_append]
    exact h1)
  exact RL.eff hw hd (e_appendS hx hy hr) (h v' w1 (Grown.up h2 hu fun k hk => Nat.le_trans hB (ho.lt k hk).1) ho2 h2)
theorem y_cats {t u : TypeId} {x y : Operand} {a b : Str} (hx : e.ev x = some (.string a)) (hy : e.ev y = some (.string b)) (hs : a.size + b.size ≤ 9223372036854775807) : Yld P (.binOp .add t x y u) ty e w (.string (a ++ b)) := Yld.mk fun ρ hρ => by
  simp [xop, execOp, hρ x _ hx, hρ y _ hy, binOp, go_sem, hs]
theorem run_sameAddr_self (a : Addr) (w : World) : (sameAddr a a).run P w = .ok true w := by simp [sameAddr]
theorem run_equalIn_ptr {t el : TypeId} {k : Nat} [IsPtr P t el] [Siz P el k] (n : Nat) (a : Addr) (w : World) : (Op.equalIn (n + 1) t (.pointer (some a)) (.pointer (some a))).run P w = .ok true w := by
  have h1 := run_underlying (IsPtr.h (P := P) (t := t) (el := el)) w
  have h2 := Siz.run P el (k := k) w
  by_cases hk : k = 0
  · simp [Op.equalIn, h1, h2, hk]
  · simp [Op.equalIn, h1, h2, hk, run_sameAddr_self]
/-- an address is itself -/
theorem y_neqSame {t u el : TypeId} {k : Nat} {x y : Operand} {a : Addr} [IsPtr P t el] [Siz P el k] (hx : e.ev x = some (.pointer (some a))) (hy : e.ev y = some (.pointer (some a))) : Yld P (.binOp .neq t x y u) ty e w (.bool false) := Yld.mk fun ρ hρ => by
  have h1 : (Op.equal t (.pointer (some a)) (.pointer (some a))).run P w = .ok true w := run_equalIn_ptr (el := el) (k := k) 9999 a w
  have h3 := run_eqGuard_ptr (P := P) .neq t x y (some a) (some a) w
  have h4 : binOp .neq t (.pointer (some a)) (.pointer (some a)) = (Op.equal t (.pointer (some a)) (.pointer (some a)) >>= fun b => pure (.bool (!b))) := rfl
  simp only [xop, execOp, hρ x _ hx, hρ y _ hy, Sem.run_bind, h3, Result.andThen_ok, h4, h1, Sem.run_pure]
  rfl
end
end Go.Proofs.Ytgckpmcdlciibab

namespace Go.Proofs.Ytgckpmcdlciibab
open Go.RowKit
section
variable {P : Program} {e : Env} {w : World} {ty : TypeId}
theorem Box.shape {b : Nat} {t : TypeId} {cs : List Value} (h : Box w b t cs) : w.shape? b = some (t, cs.length) := by
  unfold Box at h
  simp [World.shape?, h]
theorem y_toU {src dst t T : TypeId} {k : Nat} {x : Operand} {b : Nat} {cs : List Value} [IsPtr P src t] [Siz P t k] (hx : e.ev x = some (.pointer (some ⟨b, 0, none⟩))) (hb : Box w b T cs) (hl : 0 < cs.length) (hd : P.underlying dst = some .unsafePointer) (hk : k ≠ 0) : Yld P (.convert src dst x) ty e w (.pointer (some ⟨b, 0, none⟩)) := Yld.mk fun ρ hρ => by
  obtain ⟨j, hj, hjs⟩ := Siz.h (P := P) (t := t) (k := k)
  have h1 := Lib.run_to_unsafe (P := P) w ⟨b, 0, none⟩ (IsPtr.h (P := P) (t := src) (el := t)) hd hj (by rw [hjs]; exact hk) hb.shape hl
  simp [xop, execOp, hρ x _ hx, h1]
theorem y_fromU {src dst u T : TypeId} {k : Nat} {x : Operand} {b : Nat} {cs : List Value} [IsPtr P dst u] [Siz P u k] (hx : e.ev x = some (.pointer (some ⟨b, 0, none⟩))) (hb : Box w b T cs) (hs : P.underlying src = some .unsafePointer) (hlies : liesAt P P.depth T (cs.length / P.cellsOf T) 0 u 1 = true) : Yld P (.convert src dst x) ty e w (.pointer (some ⟨b, 0, none⟩)) := Yld.mk fun ρ hρ => by
  obtain ⟨j, hj, hjs⟩ := Siz.h (P := P) (t := u) (k := k)
  have h1 := Lib.run_from_unsafe (P := P) w ⟨b, 0, none⟩ hs (IsPtr.h (P := P) (t := dst) (el := u)) hj hb.shape hlies
  simp [xop, execOp, hρ x _ hx, h1]
end
theorem y_noEsc {e : Env} {w : World} {ty : TypeId} {ts : Array TypeId} {x : Operand} {v : Value} (hx : e.ev x = some v) : Yld Try.prog (.call { callee := .value (.func 123), args := #[x], argTypes := ts }) ty e w v := Yld.mk fun ρ hρ => by
  have h1 := run_callFunc_extern (P := Try.prog) Try.func123 (by kernel_rfl) (by kernel_rfl) (by kernel_rfl) (e := Extern.AbiNoEscape.same) (by kernel_rfl) #[v] w
  rw [Lib.run_noEscape] at h1
  have h5 := hρ (.func 123) _ rfl
  simp [xop, execOp, h5, hρ x _ hx, resolve, Deferred.ofValue, invoke, h1]
end Go.Proofs.Ytgckpmcdlciibab

namespace Go.Proofs.Ytgckpmcdlciibab
open Go.RowKit
/-- blocks of another type than bytes stand, but for b -/
structure Oth (b : Nat) (w w' : World) : Prop where
  size : w.heap.size ≤ w'.heap.size
  box : ∀ k t cs, Box w k t cs → k ≠ b → t ≠ 5 → Box w' k t cs
theorem Oth.refl (b : Nat) (w : World) : Oth b w w := ⟨Nat.le_refl _, fun _ _ _ h _ _ => h⟩
theorem Oth.trans {b : Nat} {x y z : World} (h : Oth b x y) (k : Oth b y z) : Oth b x z := ⟨Nat.le_trans h.size k.size, fun i t cs hb h1 h2 => k.box i t cs (h.box i t cs hb h1 h2) h1 h2⟩
theorem Oth.of_up {b : Nat} {w w' : World} (h : Up w w') : Oth b w w' := ⟨h.size, fun _ _ _ hb _ _ => hb.up h⟩
theorem Oth.of_but {b : Nat} {w w' : World} (h : But b w w') : Oth b w w' := ⟨h.size, fun _ _ _ hb h1 _ => hb.but h h1⟩
theorem Oth.of_grown {b B : Nat} {S : Nat → Prop} {w w' : World} {v : Value} {bs : List UInt8} (h : w.grownBy w' v.ownBlock) (ho : Own bytLay 5 B S w v bs) : Oth b w w' := ⟨h.size, fun _ _ _ hb _ h2 => hb.grown h (ho.neT hb h2)⟩
theorem Own.butB {el : TypeId} {B b : Nat} {S : Nat → Prop} {w w1 : World} {v : Value} {bs : List UInt8} (h : Own bytLay el B S w v bs) (hb : But b w w1) (hne : ∀ g, v.ownBlock = some g → g ≠ b) : Own bytLay el B S w1 v bs :=
  Own.ofBytes ((Own.ofBytes (S := fun _ => False) h.toBytes).but hb (fun _ h => h.elim) hne).toBytes
/-- a builder and its bytes -/
def Bld (B b : Nat) (bs : List UInt8) (w : World) : Prop := B ≤ b ∧ ∃ p v, (p = Value.pointer none ∨ p = .pointer (some ⟨b, 0, none⟩)) ∧ Box w b 113 [p, v] ∧ Own bytLay 5 B (fun _ => True) w v bs
theorem Bld.up {B b : Nat} {bs : List UInt8} {w w' : World} (h : Bld B b bs w) (hu : Up w w') : Bld B b bs w' := by
  obtain ⟨h1, p, v, h2, h3, h4⟩ := h
  exact ⟨h1, p, v, h2, h3.up hu, h4.up hu⟩
set_option maxHeartbeats 400000 in
theorem copyCheck_any {b : Nat} {p v : Value} (w : World) (hp : p = Value.pointer none ∨ p = .pointer (some ⟨b, 0, none⟩)) (hb : Box w b 113 [p, v]) :
    Calls Try.prog 86 #[.pointer (some ⟨b, 0, none⟩)] w fun en w' => en = .returned (.tuple #[]) ∧ But b w w' ∧ Box w' b 113 [.pointer (some ⟨b, 0, none⟩), v] := by
  refine calls_of_sim Try.func86 rfl (Nat.le_of_ble_eq_true rfl) ?_
  have ha := hb.at
  rcases hp with rfl | rfl
  · repeat (first | refine RL.vv ?_ | refine RL.p ?_ | refine RL.nil ?_ | refine Sim.seq ?_ | refine Sim.region ?_ | refine Sim.block ?_ | refine Sim.skip ?_ | refine Sim.inBlock ?_ | refine Sim.exit rfl ?_ | refine Sim.condT rfl ?_ | refine Sim.condF rfl ?_)
    refine RL.vv ?_ (hy := y_toU rfl hb (Nat.zero_lt_succ _) (by kernel_rfl) (by decide))
    refine RL.vv ?_ (hy := y_noEsc rfl)
    refine RL.vv ?_ (hy := y_fromU rfl hb (by kernel_rfl) (by kernel_rfl))
    repeat (first | refine RL.vv ?_ | refine RL.p ?_ | refine RL.nil ?_ | refine Sim.seq ?_ | refine Sim.region ?_ | refine Sim.block ?_ | refine Sim.skip ?_ | refine Sim.inBlock ?_ | refine Sim.exit rfl ?_ | refine Sim.condT rfl ?_ | refine Sim.condF rfl ?_)
    refine RL.sb hb fun w1 hbt hb1 => ?_
    have hb1 : Box w1 b 113 [.pointer (some ⟨b, 0, none⟩), v] := hb1
    repeat (first | refine RL.vv ?_ | refine RL.p ?_ | refine RL.nil ?_ | refine Sim.seq ?_ | refine Sim.region ?_ | refine Sim.block ?_ | refine Sim.skip ?_ | refine Sim.inBlock ?_ | refine Sim.exit rfl ?_ | refine Sim.condT rfl ?_ | refine Sim.condF rfl ?_)
    first
      | exact Sim.fin0 Try.func86 rfl ⟨rfl, hbt, hb1⟩
      | exact Sim.ret0 Try.func86 rfl ⟨rfl, hbt, hb1⟩
  · repeat (first | refine RL.vv ?_ | refine RL.p ?_ | refine RL.nil ?_ | refine Sim.seq ?_ | refine Sim.region ?_ | refine Sim.block ?_ | refine Sim.skip ?_ | refine Sim.inBlock ?_ | refine Sim.exit rfl ?_ | refine Sim.condT rfl ?_ | refine Sim.condF rfl ?_)
    refine RL.vv ?_ (hy := y_neqSame rfl rfl)
    repeat (first | refine RL.vv ?_ | refine RL.p ?_ | refine RL.nil ?_ | refine Sim.seq ?_ | refine Sim.region ?_ | refine Sim.block ?_ | refine Sim.skip ?_ | refine Sim.inBlock ?_ | refine Sim.exit rfl ?_ | refine Sim.condT rfl ?_ | refine Sim.condF rfl ?_)
    first
      | exact Sim.fin0 Try.func86 rfl ⟨rfl, But.of_up (.refl w), hb⟩
      | exact Sim.ret0 Try.func86 rfl ⟨rfl, But.of_up (.refl w), hb⟩
set_option maxHeartbeats 400000 in
theorem WriteByte_any {w0 : World} {b : Nat} {bs : List UInt8} (c : UInt8) (w : World) (hu : Up w0 w) (hB : Bld w0.heap.size b bs w) (hsz : bs.length ≤ 100000) :
    Calls Try.prog 87 #[.pointer (some ⟨b, 0, none⟩), .int .u8 (c.toNat : Int)] w fun en w' => en = .returned .nilIface ∧ Up w0 w' ∧ Bld w0.heap.size b (bs ++ [c]) w' ∧ Oth b w w' := by
  refine calls_of_sim Try.func87 rfl (Nat.le_of_ble_eq_true rfl) ?_
  obtain ⟨hbB, p, v, hp, hb, ho⟩ := hB
  repeat (first | refine RL.vv ?_ | refine RL.p ?_ | refine RL.nil ?_ | refine Sim.seq ?_ | refine Sim.region ?_ | refine Sim.block ?_ | refine Sim.skip ?_ | refine Sim.inBlock ?_ | refine Sim.exit rfl ?_ | refine Sim.condT rfl ?_ | refine Sim.condF rfl ?_)
  refine RL.cx (copyCheck_any w hp hb) ?_
  rintro _ w1 ⟨rfl, hbt, hb1⟩
  refine ⟨_, rfl, ?_⟩
  have hu1 := Up.but hu hbt hbB
  have hbl := hb.lt
  have hob : ∀ g, v.ownBlock = some g → g ≠ b := fun g hg e => ho.neT hb (by decide) (by rw [hg, e])
  have ho1 := ho.butB hbt hob
  have ha := hb1.at
  have hot := Oth.of_but hbt
  repeat (first | refine RL.vv ?_ | refine RL.p ?_ | refine RL.nil ?_ | refine Sim.seq ?_ | refine Sim.region ?_ | refine Sim.block ?_ | refine Sim.skip ?_ | refine Sim.inBlock ?_ | refine Sim.exit rfl ?_ | refine Sim.condT rfl ?_ | refine Sim.condF rfl ?_)
  refine RL.bu (el := 5) [.int .u8 (c.toNat : Int)] hu1 fun b13 w2 he13 hle13 hu2 h12 hb13 => ?_
  have hs2 := hu2.size
  have hb2 := hb1.up h12
  have ho2 := ho1.up h12
  refine RL.app (L := bytLay) (el := 5) (S := fun _ => True) (B := w0.heap.size) (ys := [c]) hu2 ho2 (SliceOf.one hb13 ⟨trivial, ho1.ne (Nat.le_of_eq he13.symm)⟩ rfl) (by simp only [List.length_cons, List.length_nil]; omega) (Nat.le_refl _) hs2 fun v' w3 hu3 ho3 hg hv => ?_
  have hb3 := hb2.grown hg (ho2.neT hb2 (by decide))
  have hot := (hot.trans (Oth.of_up h12)).trans (Oth.of_grown hg ho2)
  obtain ⟨x1, x2, x3, rfl⟩ := ho3.sh
  repeat (first | refine RL.vv ?_ | refine RL.p ?_ | refine RL.nil ?_ | refine Sim.seq ?_ | refine Sim.region ?_ | refine Sim.block ?_ | refine Sim.skip ?_ | refine Sim.inBlock ?_ | refine Sim.exit rfl ?_ | refine Sim.condT rfl ?_ | refine Sim.condF rfl ?_)
  refine RL.st hu3 hb3 hbB fun w4 hu4 hbt4 hb4 => ?_
  have hb4 : Box w4 b 113 [.pointer (some ⟨b, 0, none⟩), .slice x1 x2 x3] := hb4
  have ho4 := ho3.butB hbt4 fun g hg e => ho3.neT hb3 (by decide) (by rw [hg, e])
  repeat (first | refine RL.vv ?_ | refine RL.p ?_ | refine RL.nil ?_ | refine Sim.seq ?_ | refine Sim.region ?_ | refine Sim.block ?_ | refine Sim.skip ?_ | refine Sim.inBlock ?_ | refine Sim.exit rfl ?_ | refine Sim.condT rfl ?_ | refine Sim.condF rfl ?_)
  exact Sim.ret1 Try.func87 rfl rfl ⟨rfl, hu4, ⟨hbB, _, _, .inr rfl, hb4, ho4⟩, hot.trans (Oth.of_but hbt4)⟩
set_option maxHeartbeats 400000 in
theorem WriteString_any {w0 : World} {b : Nat} {bs : List UInt8} (s : Str) (w : World) (hu : Up w0 w) (hB : Bld w0.heap.size b bs w) (hsz : bs.length + s.size ≤ 1000000) :
    Calls Try.prog 45 #[.pointer (some ⟨b, 0, none⟩), .string s] w fun en w' => en = .returned (.tuple #[.int .i64 (s.size : Int), .nilIface]) ∧ Up w0 w' ∧ Bld w0.heap.size b (bs ++ bytes s) w' ∧ Oth b w w' := by
  refine calls_of_sim Try.func45 rfl (Nat.le_of_ble_eq_true rfl) ?_
  obtain ⟨hbB, p, v, hp, hb, ho⟩ := hB
  repeat (first | refine RL.vv ?_ | refine RL.p ?_ | refine RL.nil ?_ | refine Sim.seq ?_ | refine Sim.region ?_ | refine Sim.block ?_ | refine Sim.skip ?_ | refine Sim.inBlock ?_ | refine Sim.exit rfl ?_ | refine Sim.condT rfl ?_ | refine Sim.condF rfl ?_)
  refine RL.cx (copyCheck_any w hp hb) ?_
  rintro _ w1 ⟨rfl, hbt, hb1⟩
  refine ⟨_, rfl, ?_⟩
  have hu1 := Up.but hu hbt hbB
  have hob : ∀ g, v.ownBlock = some g → g ≠ b := fun g hg e => ho.neT hb (by decide) (by rw [hg, e])
  have ho1 := ho.butB hbt hob
  have ha := hb1.at
  have hot := Oth.of_but hbt
  have hs1 := hu1.size
  repeat (first | refine RL.vv ?_ | refine RL.p ?_ | refine RL.nil ?_ | refine Sim.seq ?_ | refine Sim.region ?_ | refine Sim.block ?_ | refine Sim.skip ?_ | refine Sim.inBlock ?_ | refine Sim.exit rfl ?_ | refine Sim.condT rfl ?_ | refine Sim.condF rfl ?_)
  refine RL.appS (el := 5) (B := w0.heap.size) (bs := bs) hu1 ho1 hsz (Nat.le_refl _) hs1 fun v' w3 hu3 ho3 hg => ?_
  have hb3 := hb1.grown hg (ho1.neT hb1 (by decide))
  have hot := hot.trans (Oth.of_grown hg ho1)
  obtain ⟨x1, x2, x3, rfl⟩ := ho3.sh
  repeat (first | refine RL.vv ?_ | refine RL.p ?_ | refine RL.nil ?_ | refine Sim.seq ?_ | refine Sim.region ?_ | refine Sim.block ?_ | refine Sim.skip ?_ | refine Sim.inBlock ?_ | refine Sim.exit rfl ?_ | refine Sim.condT rfl ?_ | refine Sim.condF rfl ?_)
  refine RL.st hu3 hb3 hbB fun w4 hu4 hbt4 hb4 => ?_
  have hb4 : Box w4 b 113 [.pointer (some ⟨b, 0, none⟩), .slice x1 x2 x3] := hb4
  have ho4 := ho3.butB hbt4 fun g hg e => ho3.neT hb3 (by decide) (by rw [hg, e])
  repeat (first | refine RL.vv ?_ | refine RL.p ?_ | refine RL.nil ?_ | refine Sim.seq ?_ | refine Sim.region ?_ | refine Sim.block ?_ | refine Sim.skip ?_ | refine Sim.inBlock ?_ | refine Sim.exit rfl ?_ | refine Sim.condT rfl ?_ | refine Sim.condF rfl ?_)
  exact Sim.ret2 Try.func45 rfl rfl rfl ⟨rfl, hu4, ⟨hbB, _, _, .inr rfl, hb4, ho4⟩, hot.trans (Oth.of_but hbt4)⟩
theorem Len_any {B b : Nat} {bs : List UInt8} (w : World) (hB : Bld B b bs w) :
    Calls Try.prog 47 #[.pointer (some ⟨b, 0, none⟩)] w fun en w' => en = .returned (.int .i64 (bs.length : Int)) ∧ w' = w := by
  refine calls_of_sim Try.func47 rfl (Nat.le_of_ble_eq_true rfl) ?_
  obtain ⟨hbB, p, v, hp, hb, ho⟩ := hB
  obtain ⟨a, c, rfl⟩ := ho.shape
  have ha := hb.at
  repeat (first | refine RL.vv ?_ | refine RL.p ?_ | refine RL.nil ?_ | refine Sim.seq ?_ | refine Sim.region ?_ | refine Sim.block ?_ | refine Sim.skip ?_ | refine Sim.inBlock ?_ | refine Sim.exit rfl ?_ | refine Sim.condT rfl ?_ | refine Sim.condF rfl ?_)
  exact Sim.ret1 Try.func47 rfl rfl ⟨rfl, rfl⟩
end Go.Proofs.Ytgckpmcdlciibab

namespace Go.Proofs.Ytgckpmcdlciibab
open Go.RowKit
section
variable {P : Program} {e : Env} {w : World} {ty : TypeId} {v : Value}
theorem y_sliceData {ts : Array TypeId} {x : Operand} {a : Addr} {n c : Nat} (hx : e.ev x = some (.slice (some a) n c)) (hc : c ≠ 0) : Yld P (.call { callee := .builtin .unsafeSliceData, args := #[x], argTypes := ts }) ty e w (.pointer (some a)) := Yld.mk fun ρ hρ => by
  have h1 := Lib.run_unsafeSliceData_row (P := P) w ts ty a n c hc
  simp [xop, execOp, hρ x _ hx, resolve, invoke, builtin, h1]
theorem e_unsafeString {pt it : TypeId} {x y : Operand} {xv yv v : Value} {w' : World} (hx : e.ev x = some xv) (hy : e.ev y = some yv) (hr : (Builtin.unsafeString_ #[pt, it] ty #[xv, yv]).run P w = .ok v w') : Eff P (.call { callee := .builtin .unsafeString, args := #[x, y], argTypes := #[pt, it] }) ty e w v w' := Eff.mk fun ρ hρ => by
  simp [xop, execOp, hρ x _ hx, hρ y _ hy, resolve, invoke, builtin, hr]
end
theorem freeze_cell (w : World) (p : Addr) (n : Nat) (a : Addr) : (w.freeze p n).cell? a = w.cell? a := by
  unfold World.freeze
  split
  · rfl
  · simp only [World.cell?, Array.getElem?_modify]
    by_cases h : p.block = a.block
    · rw [if_pos h]
      cases w.heap[a.block]? with
      | none => rfl
      | some o => cases o <;> rfl
    · rw [if_neg h]
theorem freeze_shape (w : World) (p : Addr) (n r : Nat) : (w.freeze p n).shape? r = w.shape? r := by
  unfold World.freeze
  split
  · rfl
  · simp only [World.shape?, Array.getElem?_modify]
    by_cases h : p.block = r
    · rw [if_pos h]
      cases w.heap[r]? with
      | none => rfl
      | some o => cases o <;> rfl
    · rw [if_neg h]
set_option maxHeartbeats 400000 in
theorem String_any {w0 : World} {b : Nat} {bs : List UInt8} (w : World) (hu : Up w0 w) (hB : Bld w0.heap.size b bs w) (h0 : bs ≠ []) :
    Calls Try.prog 48 #[.pointer (some ⟨b, 0, none⟩)] w fun en w' => en = .returned (.string ⟨bs.toArray⟩) ∧ Up w0 w' := by
  refine calls_of_sim Try.func48 rfl (Nat.le_of_ble_eq_true rfl) ?_
  obtain ⟨hbB, p, v, hp, hb, ho⟩ := hB
  have hrow := ho.toBytes
  obtain ⟨g, cap, cur, rfl, hgB, hg, hnc, hcm, hcs, htk⟩ : ∃ g cap cur, v = .slice (some ⟨g, 0, none⟩) bs.length cap ∧ w0.heap.size ≤ g ∧ w.heap[g]? = some (.cells cur 5 (0, 0)) ∧ bs.length ≤ cap ∧ cap ≤ maxLen ∧ cur.size = cap * 1 ∧ cur.toList.take (bs.length * 1) = Lib.byteCells bs := by
    rcases hrow.2 with ⟨_, h⟩ | h
    · exact absurd (List.eq_nil_of_length_eq_zero h) h0
    · exact h
  have hlen : 0 < bs.length := List.length_pos_iff.2 h0
  unfold maxLen at hcm
  have hcell : ∀ (j : Nat) x, bs[j]? = some x → w.cell? ((⟨g, 0, none⟩ : Addr).add j) = some (.int .u8 (x.toNat : Int)) := fun j x hx => hrow.cells (g := g) rfl j (.int .u8 (x.toNat : Int)) (by simp [Lib.byteCells, hx])
  have hsh : w.shape? g = some (5, cur.size) := by simp [World.shape?, hg]
  repeat (first | refine RL.vv ?_ | refine RL.p ?_ | refine RL.nil ?_ | refine Sim.seq ?_ | refine Sim.region ?_ | refine Sim.block ?_ | refine Sim.skip ?_ | refine Sim.inBlock ?_ | refine Sim.exit rfl ?_ | refine Sim.condT rfl ?_ | refine Sim.condF rfl ?_)
  have hS1 : At w.drew b 0 [p, .slice (some ⟨g, 0, none⟩) bs.length cap] ∧ w.drew.shape? g = some (5, cur.size) ∧ ∀ (j : Nat) x, bs[j]? = some x → w.drew.cell? ((⟨g, 0, none⟩ : Addr).add j) = some (.int .u8 (x.toNat : Int)) := ⟨hb.at.up (Up.drew w), hsh, hcell⟩
  have hu2 := hu.trans (Up.drew w)
  refine Sim.ordD [11] (fun wq => At wq b 0 [p, .slice (some ⟨g, 0, none⟩) bs.length cap] ∧ wq.shape? g = some (5, cur.size) ∧ ∀ (j : Nat) x, bs[j]? = some x → wq.cell? ((⟨g, 0, none⟩ : Addr).add j) = some (.int .u8 (x.toNat : Int))) (Up w0) ?_ mixed
  refine RD.tk 0 ?_
  refine RD.tk 1 ?_
  refine RD.tk 2 ?_
  refine RD.tk 3 ?_ (hy := fun wq hq => y_loadF rfl hq.1 rfl)
  refine RD.tk 4 ?_ (hy := fun wq hq => y_sliceData rfl (by omega))
  refine RD.tk 5 ?_
  refine RD.tk 6 ?_
  refine RD.tk 7 ?_
  refine RD.tk 8 ?_ (hy := fun wq hq => y_loadF rfl hq.1 rfl)
  refine RD.tk 9 ?_
  refine RD.one 10 ?_
  have hr := Lib.run_unsafeString_row (P := Try.prog) w.drew 177 3 9 5 Try.underlying177 (by kernel_rfl) g cur.size hS1.2.1 bs h0 (by omega) (by omega) hS1.2.2
  refine RL.eff trivial rfl (e_unsafeString rfl rfl hr) ?_
  have hu3 : Up w0 (w.drew.freeze ⟨g, 0, none⟩ bs.length) := Lib.below_freeze hu2 hgB _
  refine RL.od hu3 ⟨fun j v hj => by rw [freeze_cell]; exact hS1.1 j v hj, by rw [freeze_shape]; exact hS1.2.1, fun j x hx => by rw [freeze_cell]; exact hS1.2.2 j x hx⟩ ?_
  refine RD.on 11 hu3 ?_
  refine RD.done (RL.nil ?_)
  repeat (first | refine RL.vv ?_ | refine RL.p ?_ | refine RL.nil ?_ | refine Sim.seq ?_ | refine Sim.region ?_ | refine Sim.block ?_ | refine Sim.skip ?_ | refine Sim.inBlock ?_ | refine Sim.exit rfl ?_ | refine Sim.condT rfl ?_ | refine Sim.condF rfl ?_)
  exact Sim.ret1 Try.func48 rfl rfl ⟨rfl, hu3⟩
end Go.Proofs.Ytgckpmcdlciibab

namespace Go.Proofs.Ytgckpmcdlciibab
open Go.RowKit

def WriteC (m : Nat) : Prop := ∀ {S3 : Nat → Prop} {kv : Value} {l : List Pck} {b : Nat} {bs : List UInt8} {w : World} (w1 : World), Up w w1 → SliceOf (pckLay m) S3 w kv l → Bld w.heap.size b bs w1 → bs.length + (textT (m + 1) l).length ≤ 100000 →
  Calls Try.prog 46 #[.pointer (some ⟨b, 0, none⟩), kv] w1 fun en w' => en = .returned (.tuple #[]) ∧ Up w w' ∧ Bld w.heap.size b (bs ++ textT (m + 1) l) w' ∧ Oth b w1 w'
set_option maxHeartbeats 2000000 in
theorem write_gen {m : Nat} (H : ∀ n, m = n + 1 → WriteC n) : WriteC m := by
  intro S3 kv l b bs w w1 hu1 hl hB hsz
  refine calls_of_sim Try.func46 rfl (Nat.le_of_ble_eq_true rfl) ?_
  obtain ⟨a, c, rfl, hnc, hcm, _⟩ := id hl
  unfold maxLen at hcm
  have ht : textT (m + 1) l = preT (textT m) l ++ [125] := list_pre _ _
  rw [ht, List.length_append, List.length_singleton] at hsz
  have hple := pre_le (textT m) l
  have hlo := hple l.length 0 (by omega)
  have hlo : 1 ≤ (preT (textT m) l).length := hlo
  repeat (first | refine RL.vv ?_ | refine RL.p ?_ | refine RL.nil ?_ | refine Sim.seq ?_ | refine Sim.region ?_ | refine Sim.block ?_ | refine Sim.skip ?_ | refine Sim.inBlock ?_ | refine Sim.exit rfl ?_ | refine Sim.condT rfl ?_ | refine Sim.condF rfl ?_)
  refine RL.cx (WriteByte_any 123 w1 hu1 hB (by omega)) ?_
  rintro _ w2 ⟨rfl, hu2, hB2, ho2⟩
  refine ⟨_, rfl, ?_⟩
  repeat (first | refine RL.vv ?_ | refine RL.p ?_ | refine RL.nil ?_ | refine Sim.seq ?_ | refine Sim.region ?_ | refine Sim.block ?_ | refine Sim.skip ?_ | refine Sim.inBlock ?_ | refine Sim.exit rfl ?_ | refine Sim.condT rfl ?_ | refine Sim.condF rfl ?_)
  refine Sim.loop (σ := Nat) (fun i => [(0, .pointer (some ⟨b, 0, none⟩)), (8, .slice a l.length c), (9, .int .i64 (l.length : Int)), (10, .int .i64 (i : Int))])
    (fun i w' => i ≤ l.length ∧ Up w w' ∧ Bld w.heap.size b (bs ++ preT (textT m) (l.take i)) w' ∧ Oth b w1 w') (fun i => l.length - i) 0 sb ⟨Nat.zero_le _, hu2, hB2, ho2⟩ ?_
  clear hB2 ho2 hu2
  rintro i w3 ⟨hi, hu, hB3, ho3⟩ next
  have hpi := hple (l.length - i) i (by omega)
  by_cases hlt : i < l.length
  rotate_left
  · have : i = l.length := by omega
    subst this
    rw [List.take_length] at hB3
    repeat (first | refine RL.vv ?_ | refine RL.p ?_ | refine RL.nil ?_ | refine Sim.seq ?_ | refine Sim.region ?_ | refine Sim.block ?_ | refine Sim.skip ?_ | refine Sim.inBlock ?_ | refine Sim.exit rfl ?_ | refine Sim.condT rfl ?_ | refine Sim.condF rfl ?_)
    refine RL.cx (WriteByte_any 125 w3 hu hB3 (by rw [List.length_append]; omega)) ?_
    rintro _ w4 ⟨rfl, hu4, hB4, ho4⟩
    refine ⟨_, rfl, ?_⟩
    repeat (first | refine RL.vv ?_ | refine RL.p ?_ | refine RL.nil ?_ | refine Sim.seq ?_ | refine Sim.region ?_ | refine Sim.block ?_ | refine Sim.skip ?_ | refine Sim.inBlock ?_ | refine Sim.exit rfl ?_ | refine Sim.condT rfl ?_ | refine Sim.condF rfl ?_)
    have hfin : Bld w.heap.size b (bs ++ textT (m + 1) l) w4 := by rw [ht, ← List.append_assoc]; exact hB4
    first
      | exact Sim.fin0 Try.func46 rfl ⟨rfl, hu4, hfin, ho3.trans ho4⟩
      | exact Sim.ret0 Try.func46 rfl ⟨rfl, hu4, hfin, ho3.trans ho4⟩
  have hx : l[i]? = some l[i] := List.getElem?_eq_getElem hlt
  have hpj := hple (l.length - (i + 1)) (i + 1) (by omega)
  have hsn := pre_snoc (textT m) hx
  cases m with
  | zero =>
    obtain ⟨_, _, _, _, _, _, hh, _⟩ := hl.at hx
    exact hh.elim
  | succ m =>
  obtain ⟨kb, ko, cs, rfl, _, hkat, hkis, _⟩ := hl.at hx
  have hkat : At w kb (ko + i * 3) _ := hkat
  generalize l[i] = q at *
  obtain ⟨qv, rfl, hqv⟩ := pckLay_succ hkis
  obtain ⟨qa, qc, rfl, _⟩ := id hqv
  rw [hsn, List.length_append, List.length_append] at hpj
  unfold pickT at hsn hpj
  repeat (first | refine RL.vv ?_ | refine RL.p ?_ | refine RL.nil ?_ | refine Sim.seq ?_ | refine Sim.region ?_ | refine Sim.block ?_ | refine Sim.skip ?_ | refine Sim.inBlock ?_ | refine Sim.exit rfl ?_ | refine Sim.condT rfl ?_ | refine Sim.condF rfl ?_)
  refine RL.al hu fun b5 w4 he5 hle5 hu4 h34 hb5 => ?_
  repeat (first | refine RL.vv ?_ | refine RL.p ?_ | refine RL.nil ?_ | refine Sim.seq ?_ | refine Sim.region ?_ | refine Sim.block ?_ | refine Sim.skip ?_ | refine Sim.inBlock ?_ | refine Sim.exit rfl ?_ | refine Sim.condT rfl ?_ | refine Sim.condF rfl ?_)
  refine RL.st hu4 hb5 hle5 fun w5 hu5 hbt hb5 => ?_
  have hb5 : Box w5 b5 102 [.string q.as, .string q.field, .slice qa q.picks.length qc] := hb5
  have h35 : Up w3 w5 := Up.but h34 hbt (Nat.le_of_eq he5.symm)
  have hB5 := hB3.up h35
  have ho5 := ho3.trans (Oth.of_up h35)
  have hn5 : b5 ≠ b := by
    obtain ⟨_, p, v, _, hb, _⟩ := hB3
    have := hb.lt
    omega
  clear hbt h34 hu4 he5 hB3 ho3 hu
  repeat (first | refine RL.vv ?_ | refine RL.p ?_ | refine RL.nil ?_ | refine Sim.seq ?_ | refine Sim.region ?_ | refine Sim.block ?_ | refine Sim.skip ?_ | refine Sim.inBlock ?_ | refine Sim.exit rfl ?_ | refine Sim.condT rfl ?_ | refine Sim.condF rfl ?_)
  refine Sim.cutX (σ := Unit) (fun _ => [(0, .pointer (some ⟨b, 0, none⟩)), (8, .slice (some ⟨kb, ko, none⟩) l.length c), (9, .int .i64 (l.length : Int)), (10, .int .i64 (i : Int)), (5, .pointer (some ⟨b5, 0, none⟩))]) (fun _ w' => Up w w' ∧ Bld w.heap.size b (bs ++ (preT (textT (m + 1)) (l.take i) ++ if 0 < i then [32] else [])) w' ∧ Oth b w1 w' ∧ Box w' b5 102 [.string q.as, .string q.field, .slice qa q.picks.length qc]) (fun k' next => ?_) ?_
  · refine Sim.cond rfl (fun ht => ?_) (fun hf => ?_)
    · have h0 : 0 < i := by have := of_decide_eq_true ht; omega
      rw [if_pos h0] at next hpj
      repeat (first | refine RL.vv ?_ | refine RL.p ?_ | refine RL.nil ?_ | refine Sim.seq ?_ | refine Sim.region ?_ | refine Sim.block ?_ | refine Sim.skip ?_ | refine Sim.inBlock ?_ | refine Sim.exit rfl ?_ | refine Sim.condT rfl ?_ | refine Sim.condF rfl ?_)
      refine RL.cx (WriteByte_any 32 w5 hu5 hB5 (by rw [List.length_append]; omega)) ?_
      rintro _ w6 ⟨rfl, hu6, hB6, ho6⟩
      refine ⟨_, rfl, ?_⟩
      repeat (first | refine RL.vv ?_ | refine RL.p ?_ | refine RL.nil ?_ | refine Sim.seq ?_ | refine Sim.region ?_ | refine Sim.block ?_ | refine Sim.skip ?_ | refine Sim.inBlock ?_ | refine Sim.exit rfl ?_ | refine Sim.condT rfl ?_ | refine Sim.condF rfl ?_)
      exact next () _ _ ⟨hu6, by rw [← List.append_assoc]; exact hB6, ho5.trans ho6, ho6.box _ _ _ hb5 hn5 (by decide)⟩ sb
    · have h0 : ¬ 0 < i := by have := of_decide_eq_false hf; omega
      rw [if_neg h0, List.append_nil] at next
      repeat (first | refine RL.vv ?_ | refine RL.p ?_ | refine RL.nil ?_ | refine Sim.seq ?_ | refine Sim.region ?_ | refine Sim.block ?_ | refine Sim.skip ?_ | refine Sim.inBlock ?_ | refine Sim.exit rfl ?_ | refine Sim.condT rfl ?_ | refine Sim.condF rfl ?_)
      exact next () _ _ ⟨hu5, hB5, ho5, hb5⟩ sb
  clear hB5 ho5 hb5 hu5
  rintro ⟨⟩ w6 ⟨hu6, hB6, ho6, hb5⟩
  have hpj' : (preT (textT (m + 1)) (l.take i) ++ (if 0 < i then [32] else [])).length + ((if q.as = (⟨#[]⟩ : Str) then [] else bytes q.as ++ [58]) ++ bytes q.field ++ (if 0 < q.picks.length then textT (m + 1) q.picks else [])).length ≤ (preT (textT (m + 1)) l).length := by
    rw [List.length_append]
    exact hpj
  clear hpj
  have hpj := hpj'
  clear hpj'
  generalize preT (textT (m + 1)) (l.take i) ++ (if 0 < i then [32] else []) = X at *
  have ha5 := hb5.at
  repeat (first | refine RL.vv ?_ | refine RL.p ?_ | refine RL.nil ?_ | refine Sim.seq ?_ | refine Sim.region ?_ | refine Sim.block ?_ | refine Sim.skip ?_ | refine Sim.inBlock ?_ | refine Sim.exit rfl ?_ | refine Sim.condT rfl ?_ | refine Sim.condF rfl ?_)
  refine Sim.cutX (σ := Unit) (fun _ => [(0, .pointer (some ⟨b, 0, none⟩)), (8, .slice (some ⟨kb, ko, none⟩) l.length c), (9, .int .i64 (l.length : Int)), (10, .int .i64 (i : Int)), (5, .pointer (some ⟨b5, 0, none⟩))]) (fun _ w' => Up w w' ∧ Bld w.heap.size b (bs ++ X ++ if q.as = ⟨#[]⟩ then [] else bytes q.as ++ [58]) w' ∧ Oth b w1 w' ∧ Box w' b5 102 [.string q.as, .string q.field, .slice qa q.picks.length qc]) (fun k' next => ?_) ?_
  · refine Sim.cond rfl (fun ht => ?_) (fun hf => ?_)
    · have h0 : ¬ q.as = ⟨#[]⟩ := of_decide_eq_true ht
      rw [if_neg h0] at next
      simp only [if_neg h0, List.length_append, List.length_singleton, bytes_len] at hpj
      have hz : (q.as ++ (⟨#[58]⟩ : Str)).size = q.as.size + 1 := ByteArray.size_append
      repeat (first | refine RL.vv ?_ | refine RL.p ?_ | refine RL.nil ?_ | refine Sim.seq ?_ | refine Sim.region ?_ | refine Sim.block ?_ | refine Sim.skip ?_ | refine Sim.inBlock ?_ | refine Sim.exit rfl ?_ | refine Sim.condT rfl ?_ | refine Sim.condF rfl ?_)
      refine RL.vv ?_ (hy := y_cats rfl rfl (by show q.as.size + 1 ≤ _; omega))
      refine RL.cx (WriteString_any (q.as ++ (⟨#[58]⟩ : Str)) w6 hu6 hB6 (by rw [hz, List.length_append]; omega)) ?_
      rintro _ w7 ⟨rfl, hu7, hB7, ho7⟩
      refine ⟨_, rfl, ?_⟩
      repeat (first | refine RL.vv ?_ | refine RL.p ?_ | refine RL.nil ?_ | refine Sim.seq ?_ | refine Sim.region ?_ | refine Sim.block ?_ | refine Sim.skip ?_ | refine Sim.inBlock ?_ | refine Sim.exit rfl ?_ | refine Sim.condT rfl ?_ | refine Sim.condF rfl ?_)
      have hfin : Bld w.heap.size b (bs ++ X ++ (bytes q.as ++ [58])) w7 := by rw [bytes_app] at hB7; exact hB7
      exact next () _ _ ⟨hu7, hfin, ho6.trans ho7, ho7.box _ _ _ hb5 hn5 (by decide)⟩ sb
    · have h0 : q.as = ⟨#[]⟩ := Classical.not_not.1 (of_decide_eq_false hf)
      rw [if_pos h0, List.append_nil] at next
      repeat (first | refine RL.vv ?_ | refine RL.p ?_ | refine RL.nil ?_ | refine Sim.seq ?_ | refine Sim.region ?_ | refine Sim.block ?_ | refine Sim.skip ?_ | refine Sim.inBlock ?_ | refine Sim.exit rfl ?_ | refine Sim.condT rfl ?_ | refine Sim.condF rfl ?_)
      exact next () _ _ ⟨hu6, hB6, ho6, hb5⟩ sb
  clear hB6 ho6 hb5 hu6 ha5
  rintro ⟨⟩ w7 ⟨hu7, hB7, ho7, hb5⟩
  simp only [List.length_append] at hpj
  generalize hY : (if q.as = ⟨#[]⟩ then ([] : Txt) else bytes q.as ++ [58]) = Y at *
  have ha5 := hb5.at
  repeat (first | refine RL.vv ?_ | refine RL.p ?_ | refine RL.nil ?_ | refine Sim.seq ?_ | refine Sim.region ?_ | refine Sim.block ?_ | refine Sim.skip ?_ | refine Sim.inBlock ?_ | refine Sim.exit rfl ?_ | refine Sim.condT rfl ?_ | refine Sim.condF rfl ?_)
  refine RL.cx (WriteString_any q.field w7 hu7 hB7 (by simp only [List.length_append]; rw [bytes_len] at hpj; omega)) ?_
  rintro _ w8 ⟨rfl, hu8, hB8, ho8⟩
  refine ⟨_, rfl, ?_⟩
  have hb5 := ho8.box _ _ _ hb5 hn5 (by decide)
  have ha5 := hb5.at
  have ho8 := ho7.trans ho8
  have hfin : ∀ Z wz, Z = (if 0 < q.picks.length then textT (m + 1) q.picks else []) → Bld w.heap.size b (bs ++ X ++ Y ++ bytes q.field ++ Z) wz → Bld w.heap.size b (bs ++ preT (textT (m + 1)) (l.take (i + 1))) wz := fun Z wz he hz => by
    rw [hsn, ← he]
    simpa only [List.append_assoc] using hz
  by_cases hk0 : (0 : Int) < q.picks.length
  · rw [if_pos (by omega)] at hpj hfin
    repeat (first | refine RL.vv ?_ | refine RL.p ?_ | refine RL.nil ?_ | refine Sim.seq ?_ | refine Sim.region ?_ | refine Sim.block ?_ | refine Sim.skip ?_ | refine Sim.inBlock ?_ | refine Sim.exit rfl ?_ | refine Sim.condT rfl ?_ | refine Sim.condF rfl ?_)
    refine RL.cx (H m rfl w8 hu8 hqv hB8 (by simp only [List.length_append]; omega)) ?_
    rintro _ w9 ⟨rfl, hu9, hB9, ho9⟩
    refine ⟨_, rfl, ?_⟩
    repeat (first | refine RL.vv ?_ | refine RL.p ?_ | refine RL.nil ?_ | refine Sim.seq ?_ | refine Sim.region ?_ | refine Sim.block ?_ | refine Sim.skip ?_ | refine Sim.inBlock ?_ | refine Sim.exit rfl ?_ | refine Sim.condT rfl ?_ | refine Sim.condF rfl ?_)
    exact next (i + 1) w9 _ ⟨by omega, hu9, hfin _ _ rfl hB9, ho8.trans ho9⟩ (by omega) sb
  · rw [if_neg (by omega)] at hpj hfin
    repeat (first | refine RL.vv ?_ | refine RL.p ?_ | refine RL.nil ?_ | refine Sim.seq ?_ | refine Sim.region ?_ | refine Sim.block ?_ | refine Sim.skip ?_ | refine Sim.inBlock ?_ | refine Sim.exit rfl ?_ | refine Sim.condT rfl ?_ | refine Sim.condF rfl ?_)
    exact next (i + 1) w8 _ ⟨by omega, hu8, hfin [] _ rfl (by rw [List.append_nil]; exact hB8), ho8⟩ (by omega) sb
theorem write_any : ∀ m, WriteC m
  | 0 => write_gen fun n h => by cases h
  | m + 1 => write_gen fun n h => by cases h; exact write_any m
end Go.Proofs.Ytgckpmcdlciibab
