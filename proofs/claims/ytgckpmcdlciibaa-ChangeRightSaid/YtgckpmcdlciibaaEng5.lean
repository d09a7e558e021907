/- The rules with the new world behind a name; results that lie in cells. -/
import Derived.Test.YtgckpmcdlciibaaEng4
namespace Go.Proofs.Ytgckpmcdlciibaa
open Go.RowKit
section
variable {P : Program} {f : FuncId} {N : Nat} {k : List Item} {K : Act → World → Prop} {e : Env} {w : World} {R : Ending → World → Prop}
variable {ops : Array Oper} {rest : List Oper} {d : Nat} {op : Op} {ty : TypeId} {ps : String} {af : Array Edge} {g : Option (Nat × Bool)} {v : Value}

theorem RL.alloc {t : TypeId} {z : Value} [Zer P t z] (hw : Wants ops e g) (hd : Nat.blt d N = true) (h : ∀ w1, Up w w1 → Box w1 w.heap.size t z.cells.toList → w1.heap.size = w.heap.size + 1 → RL P f N ops rest K ((d, .pointer (some ⟨w.heap.size, 0, none⟩)) :: e) w1 R) :
    RL P f N ops ({ dst := some d, op := .alloc t, type := ty, pos := ps, after := af, guard := g } :: rest) K e w R :=
  RL.eff hw hd e_alloc (h _ (Up.alloc w _) (Box.box w z t) (by simp))
theorem RL.box {t : TypeId} {x : Operand} (hw : Wants ops e g) (hd : Nat.blt d N = true) (hx : e.ev x = some v) (h : ∀ w1, Up w w1 → Box w1 w.heap.size t v.cells.toList → w1.heap.size = w.heap.size + 1 → RL P f N ops rest K ((d, .pointer (some ⟨w.heap.size, 0, none⟩)) :: e) w1 R) :
    RL P f N ops ({ dst := some d, op := .box t x, type := ty, pos := ps, after := af, guard := g } :: rest) K e w R :=
  RL.eff hw hd (e_box hx) (h _ (Up.alloc w _) (Box.box w v t) (by simp))
theorem RL.store {t u : TypeId} {x y : Operand} {b o : Nat} {cs cs' news : List Value} {n : Nat} [Siz P t n] (hw : Wants ops e g) (hx : e.ev x = some (.pointer (some ⟨b, o, none⟩))) (hy : e.ev y = some v) (hb : Box w b u cs) (hv : v.cells = news.toArray) (hk : news.length = n)
    (h1 : ∀ c ∈ news, c.oneCell' = true) (hfit : o + news.length ≤ cs.length) (hcs : cs.take o ++ news ++ cs.drop (o + news.length) = cs') (h : ∀ w1, But b w w1 → Box w1 b u cs' → RL P f N ops rest K e w1 R) :
    RL P f N ops ({ dst := none, op := .store t x y, type := ty, pos := ps, after := af, guard := g } :: rest) K e w R := by
  obtain ⟨w1, hs, hb1, hb2⟩ := s_store (P := P) (ty := ty) (t := t) (k := n) hx hy hb hv hk h1 hfit hcs
  exact RL.sto hw hs (h w1 hb1 hb2)
theorem RL.build {n : Nat} {t el : TypeId} {parts : Array (Nat × Operand)} {qs : List (Nat × Value)} (cs : List Value) (hw : Wants ops e g) (hd : Nat.blt d N = true) (hp : e.parts parts.toList = some qs) (hb : ∀ w, (Instr.buildSlice t n qs.toArray).run P w = .ok (.slice (some ⟨w.heap.size, 0, none⟩) n n) (w.alloc (.cells cs.toArray el)))
    (h : ∀ w1, Up w w1 → Box w1 w.heap.size el cs → w1.heap.size = w.heap.size + 1 → RL P f N ops rest K ((d, .slice (some ⟨w.heap.size, 0, none⟩) n n) :: e) w1 R) :
    RL P f N ops ({ dst := some d, op := .buildSlice t n parts, type := ty, pos := ps, after := af, guard := g } :: rest) K e w R :=
  RL.eff hw hd (e_buildSlice hp hb) (h _ (Up.alloc w _) (Box.new w cs el) (by simp))

theorem run_loadVar_cells {t : TypeId} {b o n : Nat} {cs : List Value} [Stc P t] [Siz P t n] (hc : At w b o cs) (hk : cs.length = n) : (loadVar t ⟨b, o, none⟩).run P w = .ok (.agg cs.toArray) w := by
  have h1 := Stc.isAgg P t w
  have h2 := Siz.run P t (k := n) w
  have h3 := run_loadCellsFrom (P := P) (w := w) (b := b) (o := o) cs 0 #[] (by simpa [At] using hc)
  subst hk
  simp [loadVar, h1, h2, loadCells, h3]
theorem run_loadVar_one {t : TypeId} {b o : Nat} [Sca P t] (hc : w.cell? ⟨b, o, none⟩ = some v) : (loadVar t ⟨b, o, none⟩).run P w = .ok v w := by
  have h1 := Sca.isAgg P t w
  simp [loadVar, h1, load, Sem.run, hc]
variable {fn : Func}
theorem Sim.retC {a b n : Nat} {t : TypeId} {cs : List Value} [Stc P t] [Siz P t n] (hf : P.funcs[f]? = some fn) (hr : fn.results = #[.cell a t]) (ha : e.get a = some (.pointer (some ⟨b, 0, none⟩))) (hc : At w b 0 cs) (hk : cs.length = n) (hR : R (.returned (.agg cs.toArray)) w) :
    Sim P f N (.code .ret :: k) e w R := Sim.ret hf (fun tm hok => by simp [results, hr, hok.get _ _ ha, asAddr, run_loadVar_cells hc hk]) hR
theorem Sim.retTC {u a b n : Nat} {t : TypeId} {cs : List Value} [Stc P t] [Siz P t n] (hf : P.funcs[f]? = some fn) (hr : fn.results = #[.tmp u, .cell a t]) (hu : e.get u = some v) (ha : e.get a = some (.pointer (some ⟨b, 0, none⟩))) (hc : At w b 0 cs) (hk : cs.length = n) (hR : R (.returned (.tuple #[v, .agg cs.toArray])) w) :
    Sim P f N (.code .ret :: k) e w R := Sim.ret hf (fun tm hok => by simp [results, hr, hok.get _ _ ha, hok.get _ _ hu, asAddr, run_loadVar_cells hc hk]) hR
theorem Sim.retCT {u a b n : Nat} {t : TypeId} {cs : List Value} [Stc P t] [Siz P t n] (hf : P.funcs[f]? = some fn) (hr : fn.results = #[.cell a t, .tmp u]) (hu : e.get u = some v) (ha : e.get a = some (.pointer (some ⟨b, 0, none⟩))) (hc : At w b 0 cs) (hk : cs.length = n) (hR : R (.returned (.tuple #[.agg cs.toArray, v])) w) :
    Sim P f N (.code .ret :: k) e w R := Sim.ret hf (fun tm hok => by simp [results, hr, hok.get _ _ ha, hok.get _ _ hu, asAddr, run_loadVar_cells hc hk]) hR
theorem Sim.retCC {a b n a' b' n' : Nat} {t t' : TypeId} {cs cs' : List Value} [Stc P t] [Siz P t n] [Stc P t'] [Siz P t' n'] (hf : P.funcs[f]? = some fn) (hr : fn.results = #[.cell a t, .cell a' t']) (ha : e.get a = some (.pointer (some ⟨b, 0, none⟩))) (hc : At w b 0 cs) (hk : cs.length = n)
    (ha' : e.get a' = some (.pointer (some ⟨b', 0, none⟩))) (hc' : At w b' 0 cs') (hk' : cs'.length = n') (hR : R (.returned (.tuple #[.agg cs.toArray, .agg cs'.toArray])) w) :
    Sim P f N (.code .ret :: k) e w R := Sim.ret hf (fun tm hok => by simp [results, hr, hok.get _ _ ha, hok.get _ _ ha', asAddr, run_loadVar_cells hc hk, run_loadVar_cells hc' hk']) hR
end
/-- the ways through x meet behind it -/
theorem Sim.cut {P : Program} {f : FuncId} {N : Nat} {k : List Item} {e : Env} {w : World} {R : Ending → World → Prop} {x : Code} (E : Env) (I : World → Prop)
    (first : ∀ k', (∀ w' e', I w' → Env.Sub E e' → Sim P f N k' e' w' R) → Sim P f N (.code x :: k') e w R) (rest : ∀ w', I w' → Sim P f N k E w' R) : Sim P f N (.code x :: k) e w R :=
  first k fun w' _ hI hs => Sim.weaken (rest w' hI) hs
theorem q_call {P : Program} {c : FuncId} {args : Array Value} {w0 wq : World} {v : Value} (h : Calls P c args wq fun en w' => en = .returned v ∧ Up wq w') (hq : Up w0 wq) : Calls P c args wq fun en w' => en = .returned v ∧ Up w0 w' :=
  h.mono fun _ _ ⟨he, hu⟩ => ⟨he, hq.trans hu⟩
theorem q_same {P : Program} {c : FuncId} {args : Array Value} {w0 wq : World} {v : Value} (h : Calls P c args wq fun en w' => en = .returned v ∧ w' = wq) (hq : Up w0 wq) : Calls P c args wq fun en w' => en = .returned v ∧ Up w0 w' :=
  h.mono fun _ _ ⟨he, hu⟩ => ⟨he, by rw [hu]; exact hq⟩
/-- a result known otherwise -/
theorem c_val {P : Program} {c : FuncId} {args : Array Value} {w : World} {v v' : Value} {K : World → Prop} (h : Calls P c args w fun en w' => en = .returned v ∧ K w') (hv : v = v') : Calls P c args w fun en w' => en = .returned v' ∧ K w' := hv ▸ h
/-- comparison of a pointer with nil -/
theorem run_equalIn_nil {P : Program} {t el : TypeId} [IsPtr P t el] (d : Nat) (a : Option Addr) (w : World) : (Op.equalIn (d + 1) t (.pointer a) (.pointer none)).run P w = .ok a.isNone w := by
  have h1 := run_underlying (IsPtr.h (P := P) (t := t) (el := el)) w
  cases a <;> simp [Op.equalIn, h1]
theorem run_equal_nil {P : Program} {t el : TypeId} [IsPtr P t el] (a : Option Addr) (w : World) : (Op.equal t (.pointer a) (.pointer none)).run P w = .ok a.isNone w := run_equalIn_nil (el := el) 9999 a w
theorem run_eqGuard_ptr {P : Program} (op : BinOp) (t : TypeId) (x y : Operand) (a b : Option Addr) (w : World) : (eqGuard op t x y (.pointer a) (.pointer b)).run P w = .ok () w := by
  unfold eqGuard
  split <;> simp
theorem y_neqNil {P : Program} {e : Env} {w : World} {ty t u el : TypeId} {x : Operand} {a : Option Addr} [IsPtr P t el] (hx : e.ev x = some (.pointer a)) : Yld P (.binOp .neq t x (.const (.pointer none)) u) ty e w (.bool a.isSome) := Yld.mk fun ρ hρ => by
  have h1 := run_equal_nil (P := P) (t := t) (el := el) a w
  have h2 := hρ (.const (.pointer none)) _ rfl
  have h3 := run_eqGuard_ptr (P := P) .neq t x (.const (.pointer none)) a none w
  have h4 : binOp .neq t (.pointer a) (.pointer none) = (Op.equal t (.pointer a) (.pointer none) >>= fun b => pure (.bool (!b))) := rfl
  simp only [xop, execOp, hρ x _ hx, h2, Sem.run_bind, h3, Result.andThen_ok, h4, h1, Sem.run_pure]
  cases a <;> rfl
theorem y_eqlNil {P : Program} {e : Env} {w : World} {ty t u el : TypeId} {x : Operand} {a : Option Addr} [IsPtr P t el] (hx : e.ev x = some (.pointer a)) : Yld P (.binOp .eql t x (.const (.pointer none)) u) ty e w (.bool a.isNone) := Yld.mk fun ρ hρ => by
  have h1 := run_equal_nil (P := P) (t := t) (el := el) a w
  have h2 := hρ (.const (.pointer none)) _ rfl
  have h3 := run_eqGuard_ptr (P := P) .eql t x (.const (.pointer none)) a none w
  have h4 : binOp .eql t (.pointer a) (.pointer none) = (Op.equal t (.pointer a) (.pointer none) >>= fun b => pure (.bool b)) := rfl
  simp only [xop, execOp, hρ x _ hx, h2, Sem.run_bind, h3, Result.andThen_ok, h4, h1, Sem.run_pure]
theorem y_neqNilF {P : Program} {e : Env} {w : World} {ty t u el : TypeId} {x : Operand} [IsPtr P t el] (hx : e.ev x = some (.pointer none)) : Yld P (.binOp .neq t x (.const (.pointer none)) u) ty e w (.bool false) := y_neqNil (el := el) hx
theorem y_neqNilT {P : Program} {e : Env} {w : World} {ty t u el : TypeId} {x : Operand} {a : Addr} [IsPtr P t el] (hx : e.ev x = some (.pointer (some a))) : Yld P (.binOp .neq t x (.const (.pointer none)) u) ty e w (.bool true) := y_neqNil (el := el) hx
theorem y_eqlNilT {P : Program} {e : Env} {w : World} {ty t u el : TypeId} {x : Operand} [IsPtr P t el] (hx : e.ev x = some (.pointer none)) : Yld P (.binOp .eql t x (.const (.pointer none)) u) ty e w (.bool true) := y_eqlNil (el := el) hx
theorem y_eqlNilF {P : Program} {e : Env} {w : World} {ty t u el : TypeId} {x : Operand} {a : Addr} [IsPtr P t el] (hx : e.ev x = some (.pointer (some a))) : Yld P (.binOp .eql t x (.const (.pointer none)) u) ty e w (.bool false) := y_eqlNil (el := el) hx
theorem y_neqSF {P : Program} {e : Env} {w : World} {ty t u : TypeId} {x y : Operand} {a b : ByteArray} (h : a = b) (hx : e.ev x = some (.string a)) (hy : e.ev y = some (.string b)) : Yld P (.binOp .neq t x y u) ty e w (.bool false) := dF (fun hn => hn h) (y_neqS hx hy)
end Go.Proofs.Ytgckpmcdlciibaa
