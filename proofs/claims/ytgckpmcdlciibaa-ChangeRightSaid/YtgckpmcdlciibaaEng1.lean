/- The engine: a function's run as a forward simulation over its todo list, the frame kept as an association list. -/
import Derived.WalkKit
import Derived.OrdersHeld
import Derived.Deep.Quiet
import Derived.KernelRfl
namespace Go.Proofs.Ytgckpmcdlciibaa
open Go.RowKit

/-- The frame, as far as it is known: slot, value; the newest first. -/
abbrev Env := List (Nat × Value)
def Env.get : Env → Nat → Option Value
  | [], _ => none
  | (d, v) :: e, t => bif Nat.beq d t then some v else Env.get e t
def Env.ev (e : Env) : Operand → Option Value
  | .tmp t => e.get t
  | .const v => some v
  | .global g => some (.pointer (some ⟨g, 0, none⟩))
  | .func f => some (.func (.func f) #[] #[])
def Env.evs (e : Env) : List Operand → Option (List Value)
  | [] => some []
  | x :: r => match e.ev x with
    | some v => match Env.evs e r with
      | some vs => some (v :: vs)
      | none => none
    | none => none
structure Env.Ok (N : Nat) (e : Env) (tm : Array Value) : Prop where
  size : N ≤ tm.size
  get : ∀ t v, e.get t = some v → tm[t]? = some v

theorem Env.Ok.put {N : Nat} {e : Env} {tm : Array Value} (h : Env.Ok N e tm) {d : Nat} (hd : Nat.blt d N = true) (v : Value) : Env.Ok N ((d, v) :: e) (tm.setIfInBounds d v) := by
  have hd' : d < N := by simp [Nat.blt] at hd; omega
  refine ⟨by simpa using h.size, fun t u hu => ?_⟩
  simp only [Env.get] at hu
  by_cases hdt : d = t
  · subst hdt
    simp at hu
    subst hu
    have := h.size
    simp [Array.getElem?_setIfInBounds]
    omega
  · have : Nat.beq d t = false := by
      rw [← Bool.not_eq_true]; intro hb; exact hdt (Nat.eq_of_beq_eq_true hb)
    simp [this] at hu
    rw [Array.getElem?_setIfInBounds_ne (by omega)]
    exact h.get t u hu
theorem Env.Ok.ev {N : Nat} {e : Env} {tm : Array Value} (h : Env.Ok N e tm) {ds : List Deferred} {x : Operand} {v : Value} (hx : e.ev x = some v) : (Act.mk tm ds).eval x = v := by
  cases x with
  | tmp t => have := h.get t v hx; simp [Act.eval, Array.getD_eq_getD_getElem?, this]
  | const u => simpa [Env.ev, Act.eval] using hx
  | global g => simpa [Env.ev, Act.eval] using hx
  | func f => simpa [Env.ev, Act.eval] using hx
/-- what a state's operands are -/
def Env.Sees (e : Env) (ρ : Operand → Value) : Prop := ∀ x v, e.ev x = some v → ρ x = v
theorem Env.Ok.sees {N : Nat} {e : Env} {tm : Array Value} (h : Env.Ok N e tm) (ds : List Deferred) : e.Sees (Act.mk tm ds).eval := fun _ _ hx => h.ev hx
theorem Env.Sees.evs {e : Env} {ρ : Operand → Value} (h : e.Sees ρ) : ∀ {l : List Operand} {vs : List Value}, e.evs l = some vs → l.map ρ = vs
  | [], vs, hv => by simpa [Env.evs] using hv
  | x :: r, vs, hv => by
    simp only [Env.evs] at hv
    split at hv
    · rename_i v hx
      split at hv
      · rename_i us hr
        simp at hv
        subst hv
        simp [h x v hx, Env.Sees.evs h hr]
      · cases hv
    · cases hv
def Env.ofArgs : Nat → List Value → Env
  | _, [] => []
  | i, v :: r => (i, v) :: Env.ofArgs (i + 1) r
theorem Env.ofArgs_get : ∀ (l : List Value) (i t : Nat) (v : Value), (Env.ofArgs i l).get t = some v → ∃ j, t = i + j ∧ l[j]? = some v
  | [], i, t, v, h => by simp [Env.ofArgs, Env.get] at h
  | x :: r, i, t, v, h => by
    simp only [Env.ofArgs, Env.get] at h
    by_cases hit : i = t
    · subst hit; simp at h; exact ⟨0, by simp, by simpa using h⟩
    · have : Nat.beq i t = false := by
        rw [← Bool.not_eq_true]; intro hb; exact hit (Nat.eq_of_beq_eq_true hb)
      simp [this] at h
      obtain ⟨j, hj, hv⟩ := Env.ofArgs_get r (i + 1) t v h
      exact ⟨j + 1, by omega, by simpa using hv⟩
theorem Env.Ok.ofArgs (args : Array Value) (n : Nat) (hn : args.size ≤ n) : Env.Ok n (Env.ofArgs 0 args.toList) (args ++ Array.replicate (n - args.size) undef) := by
  refine ⟨by simp; omega, fun t v h => ?_⟩
  obtain ⟨j, hj, hv⟩ := Env.ofArgs_get _ _ _ _ h
  simp at hj
  subst hj
  have hlt : t < args.size := by
    have := (List.getElem?_eq_some_iff.1 hv).1
    simpa using this
  rw [Array.getElem?_append_left hlt]
  simpa using hv
/-- a frame of which less is known -/
theorem Env.Ok.weaken {N : Nat} {e e' : Env} {tm : Array Value} (h : Env.Ok N e tm) (hs : ∀ t v, e'.get t = some v → e.get t = some v) : Env.Ok N e' tm :=
  ⟨h.size, fun t v hv => h.get t v (hs t v hv)⟩
/-- all of a list's entries stand in the frame -/
def Env.Sub (e' e : Env) : Prop := ∀ t v, e'.get t = some v → e.get t = some v
theorem Env.Sub.nil (e : Env) : Env.Sub [] e := fun t v h => by simp [Env.get] at h
theorem Env.Sub.cons {e' e : Env} {d : Nat} {v : Value} (h : e.get d = some v) (hs : Env.Sub e' e) : Env.Sub ((d, v) :: e') e := fun t u hu => by
  simp only [Env.get] at hu
  by_cases hdt : d = t
  · subst hdt; simp at hu; subst hu; exact h
  · have : Nat.beq d t = false := by
      rw [← Bool.not_eq_true]; intro hb; exact hdt (Nat.eq_of_beq_eq_true hb)
    simp [this] at hu
    exact hs t u hu

def fb (f : FuncId) : Frame := { (default : Frame) with fn := f, kind := .normal }

/-- From this frame, with these things left to do, the function comes to an end of which R holds. -/
def SimA (P : Program) (f : FuncId) (k : List Item) (a : Act) (w : World) (R : Ending → World → Prop) : Prop :=
  ∀ cs, ∃ en w' fr, R en w' ∧ Comes P (lone ((fb f).at a k) cs w) (lone fr cs w') en ∧ fr.fn = f ∧ fr.leaving P w' en
def Sim (P : Program) (f : FuncId) (N : Nat) (k : List Item) (e : Env) (w : World) (R : Ending → World → Prop) : Prop :=
  ∀ tm, Env.Ok N e tm → SimA P f k ⟨tm, []⟩ w R

section
variable {P : Program} {f : FuncId} {N : Nat} {k : List Item} {e : Env} {w : World} {R : Ending → World → Prop}

theorem calls_of_sim {fn : Func} {c : Code} {args : Array Value} (hf : P.funcs[f]? = some fn) (hb : fn.body = some c) (hn : args.size ≤ fn.ntmps)
    (h : Sim P f fn.ntmps [.code c] (Env.ofArgs 0 args.toList) w R) : Calls P f args w R := by
  intro cs
  have henter : Frame.enter P f args .normal = (fb f).at { tmps := args ++ Array.replicate (fn.ntmps - args.size) undef, defers := [] } [.code c] := by
    simp [Frame.enter, Frame.at, hf, hb, fb]
  rw [henter]
  exact h _ (Env.Ok.ofArgs args fn.ntmps hn) cs

theorem SimA.of_step {a a' : Act} {k k' : List Item} {w w' : World} (hs : ∀ cs, step P (lone ((fb f).at a k) cs w) = .next (lone ((fb f).at a' k') cs w')) (h : SimA P f k' a' w' R) : SimA P f k a w R := fun cs =>
  let ⟨en, w', fr, hR, hc, hfn, hl⟩ := h cs
  ⟨en, w', fr, hR, hc.of_steps (.one (hs cs)), hfn, hl⟩
theorem Sim.of_step {k k' : List Item} (hs : ∀ a cs, step P (lone ((fb f).at a k) cs w) = .next (lone ((fb f).at a k') cs w)) (h : Sim P f N k' e w R) : Sim P f N k e w R :=
  fun tm hok => SimA.of_step (hs _) (h tm hok)
theorem Sim.weaken {e' : Env} (h : Sim P f N k e' w R) (hs : Env.Sub e' e) : Sim P f N k e w R := fun tm hok => h tm (hok.weaken hs)
theorem Sim.mono {R' : Ending → World → Prop} (h : Sim P f N k e w R) (hr : ∀ en w, R en w → R' en w) : Sim P f N k e w R' := fun tm hok cs =>
  let ⟨en, w', fr, hR, r⟩ := h tm hok cs; ⟨en, w', fr, hr _ _ hR, r⟩

theorem Sim.seq {x y : Code} (h : Sim P f N (.code x :: .code y :: k) e w R) : Sim P f N (.code (.seq x y) :: k) e w R := Sim.of_step (fun _ _ => step_seq) h
theorem Sim.skip (h : Sim P f N k e w R) : Sim P f N (.code .skip :: k) e w R := Sim.of_step (fun _ _ => step_skip) h
theorem Sim.label {l : Nat} (h : Sim P f N k e w R) : Sim P f N (.code (.label l) :: k) e w R := Sim.of_step (fun _ _ => step_label) h
theorem Sim.inBlock {id : Nat} (h : Sim P f N k e w R) : Sim P f N (.inBlock id :: k) e w R := Sim.of_step (fun _ _ => step_inBlock) h
theorem Sim.block {id : Nat} {c : Code} (h : Sim P f N (.code c :: .inBlock id :: k) e w R) : Sim P f N (.code (.block id c) :: k) e w R := Sim.of_step (fun _ _ => step_block) h
theorem Sim.exit {id : Nat} {k' : List Item} (hx : exitTo id k = some k') (h : Sim P f N k' e w R) : Sim P f N (.code (.exit id) :: k) e w R := Sim.of_step (fun _ _ => step_exit hx) h
theorem Sim.inLoop {c : Code} (h : Sim P f N (.code c :: .inLoop c :: k) e w R) : Sim P f N (.inLoop c :: k) e w R := Sim.of_step (fun _ _ => step_inLoop) h
theorem Sim.cond {c : Operand} {x y : Code} {t : Bool} (hc : e.ev c = some (.bool t)) (ht : t = true → Sim P f N (.code x :: k) e w R) (hf : t = false → Sim P f N (.code y :: k) e w R) : Sim P f N (.code (.cond c x y) :: k) e w R := by
  intro tm hok
  refine SimA.of_step (fun cs => step_cond (t := t) (hok.ev hc)) ?_
  cases t
  · exact hf rfl tm hok
  · exact ht rfl tm hok
theorem Sim.condT {c : Operand} {x y : Code} (hc : e.ev c = some (.bool true)) (h : Sim P f N (.code x :: k) e w R) : Sim P f N (.code (.cond c x y) :: k) e w R :=
  Sim.cond hc (fun _ => h) (fun h => by cases h)
theorem Sim.condF {c : Operand} {x y : Code} (hc : e.ev c = some (.bool false)) (h : Sim P f N (.code y :: k) e w R) : Sim P f N (.code (.cond c x y) :: k) e w R :=
  Sim.cond hc (fun h => by cases h) (fun _ => h)
theorem Sim.condP {c : Operand} {x y : Code} {p : Prop} [Decidable p] (hc : e.ev c = some (.bool (decide p))) (ht : p → Sim P f N (.code x :: k) e w R) (hf : ¬ p → Sim P f N (.code y :: k) e w R) : Sim P f N (.code (.cond c x y) :: k) e w R :=
  Sim.cond hc (fun h => ht (of_decide_eq_true h)) (fun h => hf (of_decide_eq_false h))

/-- A LOOP: its head's frame by a state of one's own; every round lowers the measure. -/
theorem Sim.loop {σ : Type} {c : Code} (E : σ → Env) (I : σ → World → Prop) (μ : σ → Nat) (s₀ : σ) (hs : Env.Sub (E s₀) e) (h₀ : I s₀ w)
    (round : ∀ s w, I s w → (∀ s' w' e', I s' w' → μ s' < μ s → Env.Sub (E s') e' → Sim P f N (.inLoop c :: k) e' w' R) → Sim P f N (.code c :: .inLoop c :: k) (E s) w R) :
    Sim P f N (.code (.loop c) :: k) e w R := by
  refine Sim.of_step (fun _ _ => step_loop) (Sim.weaken ?_ hs)
  have key : ∀ n s w, μ s = n → I s w → Sim P f N (.code c :: .inLoop c :: k) (E s) w R := by
    intro n
    induction n using Nat.strongRecOn with
    | _ n ih =>
      intro s w hn hI
      exact round s w hI fun s' w' e' hI' hlt hsub => Sim.inLoop (Sim.weaken (ih (μ s') (hn ▸ hlt) s' w' rfl hI') hsub)
  exact key _ _ _ rfl h₀

theorem Sim.ret {fn : Func} {v : Value} (hf : P.funcs[f]? = some fn) (hr : ∀ tm, Env.Ok N e tm → (results fn tm).run P w = .ok v w) (hR : R (.returned v) w) : Sim P f N (.code .ret :: k) e w R := fun tm hok _ =>
  ⟨.returned v, w, _, hR, .one step_ret, rfl, rfl, rfl, rfl, fn, hf, hr tm hok⟩
theorem Sim.fin {fn : Func} {v : Value} (hf : P.funcs[f]? = some fn) (hr : ∀ tm, Env.Ok N e tm → (results fn tm).run P w = .ok v w) (hR : R (.returned v) w) : Sim P f N [] e w R := fun tm hok _ =>
  ⟨.returned v, w, _, hR, .one step_end, rfl, rfl, rfl, rfl, fn, hf, hr tm hok⟩
theorem results_1 {fn : Func} {t : Tmp} {v : Value} {tm : Array Value} (h : fn.results = #[.tmp t]) (hv : e.get t = some v) (hok : Env.Ok N e tm) : (results fn tm).run P w = .ok v w := by
  rw [results_tmp h]
  simp [Array.getD_eq_getD_getElem?, hok.get _ _ hv]
theorem results_2 {fn : Func} {t u : Tmp} {v v' : Value} {tm : Array Value} (h : fn.results = #[.tmp t, .tmp u]) (hv : e.get t = some v) (hv' : e.get u = some v') (hok : Env.Ok N e tm) : (results fn tm).run P w = .ok (.tuple #[v, v']) w := by
  rw [results_tmp2 h]
  simp [Array.getD_eq_getD_getElem?, hok.get _ _ hv, hok.get _ _ hv']
theorem Sim.ret1 {fn : Func} {t : Tmp} {v : Value} (hf : P.funcs[f]? = some fn) (h : fn.results = #[.tmp t]) (hv : e.get t = some v) (hR : R (.returned v) w) : Sim P f N (.code .ret :: k) e w R :=
  Sim.ret hf (fun _ hok => results_1 h hv hok) hR
theorem Sim.ret2 {fn : Func} {t u : Tmp} {v v' : Value} (hf : P.funcs[f]? = some fn) (h : fn.results = #[.tmp t, .tmp u]) (hv : e.get t = some v) (hv' : e.get u = some v') (hR : R (.returned (.tuple #[v, v'])) w) : Sim P f N (.code .ret :: k) e w R :=
  Sim.ret hf (fun _ hok => results_2 h hv hv' hok) hR
theorem Sim.ret0 {fn : Func} (hf : P.funcs[f]? = some fn) (h : fn.results = #[]) (hR : R (.returned (.tuple #[])) w) : Sim P f N (.code .ret :: k) e w R :=
  Sim.ret hf (fun _ _ => results_none h _ _ _) hR
theorem Sim.fin0 {fn : Func} (hf : P.funcs[f]? = some fn) (h : fn.results = #[]) (hR : R (.returned (.tuple #[])) w) : Sim P f N [] e w R :=
  Sim.fin hf (fun _ _ => results_none h _ _ _) hR

/-- What a region's wp is asked: what comes behind it. -/
def QX (P : Program) (f : FuncId) (K : Act → World → Prop) (R : Ending → World → Prop) : Exit → Act → World → Prop
  | .normal, a, w => a.defers = [] ∧ K a w
  | .panic chain, a, w => a.defers = [] ∧ (∃ fn, P.funcs[f]? = some fn) ∧ R (.panicked chain) w
  | .outgrown, _, w => R .outgrown w
  | _, _, _ => False
/-- the rest of the function -/
def SK (P : Program) (f : FuncId) (k : List Item) (R : Ending → World → Prop) (a : Act) (w : World) : Prop := SimA P f k a w R
abbrev QK (P : Program) (f : FuncId) (k : List Item) (R : Ending → World → Prop) : Exit → Act → World → Prop := QX P f (SK P f k R) R

/-- A region's operations, one behind the other; K: what comes behind them. -/
def RL (P : Program) (f : FuncId) (N : Nat) (ops : Array Oper) (l : List Oper) (K : Act → World → Prop) (e : Env) (w : World) (R : Ending → World → Prop) : Prop :=
  ∀ tm, Env.Ok N e tm → wpList P ops (QX P f K R) l ⟨tm, []⟩ w

theorem SimA.of_wp {c : Code} {a : Act} (h : c.wp P (QK P f k R) a w) : SimA P f (.code c :: k) a w R := by
  intro cs
  obtain ⟨e, a', w', hq, harr⟩ := h (fb f) k cs
  cases e with
  | normal =>
    obtain ⟨hd', hs⟩ := hq
    obtain ⟨en, w₂, fr, hR, hc, hfn, hl⟩ := hs cs
    exact ⟨en, w₂, fr, hR, hc.of_steps harr, hfn, hl⟩
  | ret => exact hq.elim
  | panic chain =>
    obtain ⟨hd, hfn, hR⟩ := hq
    obtain ⟨todo, hs⟩ := harr
    exact ⟨.panicked chain, w', _, hR, hs, rfl, rfl, hd, hfn⟩
  | exit id => exact hq.elim
  | goto l => exact hq.elim
  | outgrown => exact ⟨.outgrown, w', fb f, hq, harr.resolve_left (by simp [fb]), rfl, trivial⟩
theorem Sim.region {id : Nat} {l : List Oper} (h : RL P f N l.toArray l (SK P f k R) e w R) : Sim P f N (.code (.region id l.toArray false) :: k) e w R :=
  fun tm hok => SimA.of_wp (wp_region_lit (h tm hok))

/-- What an operation does, its destination, guard and place left aside. -/
def xop (ρ : Operand → Value) (op : Op) (ty : TypeId) : Sem Next := execOp ρ { dst := none, op := op, type := ty, pos := "", after := #[], guard := none }
theorem execOp_eq (ρ : Operand → Value) (o : Oper) : execOp ρ o = xop ρ o.op o.type := by
  obtain ⟨d, op, ty, ps, af, g⟩ := o
  unfold xop execOp
  rfl
/-- In this frame and world the operation yields v and leaves the world as it is. -/
def Yld (P : Program) (op : Op) (ty : TypeId) (e : Env) (w : World) (v : Value) : Prop := ∀ ρ, e.Sees ρ → (xop ρ op ty).run P w = .ok (.value v) w
/-- It yields v and leaves the world w'. -/
def Eff (P : Program) (op : Op) (ty : TypeId) (e : Env) (w : World) (v : Value) (w' : World) : Prop := ∀ ρ, e.Sees ρ → (xop ρ op ty).run P w = .ok (.value v) w'
/-- It yields nothing (a store). -/
def Sto (P : Program) (op : Op) (ty : TypeId) (e : Env) (w w' : World) : Prop := ∀ ρ, e.Sees ρ → (xop ρ op ty).run P w = .ok .skip w'
/-- It calls. -/
def Ent (P : Program) (op : Op) (ty : TypeId) (e : Env) (w : World) (g : FuncId) (args : Array Value) : Prop := ∀ ρ, e.Sees ρ → (xop ρ op ty).run P w = .ok (.enter g args) w
theorem Yld.eff {op : Op} {ty : TypeId} {v : Value} (h : Yld P op ty e w v) : Eff P op ty e w v w := h

section
variable {K : Act → World → Prop} {ops : Array Oper} {rest : List Oper} {d : Nat} {op : Op} {ty : TypeId} {ps : String} {af : Array Edge} {g : Option (Nat × Bool)} {v : Value} {w' : World}
/-- whether a guarded operation is wanted -/
def Wants (ops : Array Oper) (e : Env) : Option (Nat × Bool) → Prop
  | none => True
  | some (j, b) => ∃ o dj, ops[j]? = some o ∧ o.dst = some dj ∧ e.get dj = some (.bool b)
def Spurns (ops : Array Oper) (e : Env) : Option (Nat × Bool) → Prop
  | none => False
  | some (j, b) => ∃ o dj, ops[j]? = some o ∧ o.dst = some dj ∧ (e.get dj = some (.bool !b) ∨ e.get dj = some undef)
theorem Wants.wanted {o : Oper} {tm : Array Value} (h : Wants ops e o.guard) (hok : Env.Ok N e tm) : Region.wanted o (yielded ops tm) = true := by
  unfold Region.wanted
  cases hg : o.guard with
  | none => rfl
  | some x =>
    obtain ⟨j, b⟩ := x
    rw [hg] at h
    obtain ⟨oj, dj, h1, h2, h3⟩ := h
    simp [yielded, h1, h2, hok.get _ _ h3]
theorem Spurns.wanted {o : Oper} {tm : Array Value} (h : Spurns ops e o.guard) (hok : Env.Ok N e tm) : Region.wanted o (yielded ops tm) = false := by
  unfold Region.wanted
  cases hg : o.guard with
  | none => rw [hg] at h; exact h.elim
  | some x =>
    obtain ⟨j, b⟩ := x
    rw [hg] at h
    obtain ⟨oj, dj, h1, h2, h3 | h3⟩ := h
    · cases b <;> simp [yielded, h1, h2, hok.get _ _ h3]
    · simp [yielded, h1, h2, hok.get _ _ h3, undef]
theorem RL.nil (h : Sim P f N k e w R) : RL P f N ops [] (SK P f k R) e w R := fun tm hok => wpList_nil ⟨rfl, h tm hok⟩
theorem RL.nilK (h : ∀ tm, Env.Ok N e tm → K ⟨tm, []⟩ w) : RL P f N ops [] K e w R := fun tm hok => wpList_nil ⟨rfl, h tm hok⟩
theorem RL.eff (hw : Wants ops e g) (hd : Nat.blt d N = true) (hy : Eff P op ty e w v w') (h : RL P f N ops rest K ((d, v) :: e) w' R) :
    RL P f N ops ({ dst := some d, op := op, type := ty, pos := ps, after := af, guard := g } :: rest) K e w R := fun tm hok => by
  have hy' := hy _ (hok.sees [])
  unfold wpList
  rw [if_pos (Wants.wanted (o := { dst := some d, op := op, type := ty, pos := ps, after := af, guard := g }) hw hok)]
  refine .inl ?_
  unfold Oper.wp
  rw [execOp_eq, hy', Oper.upon_value]
  exact h _ (hok.put hd v)
theorem RL.val (hw : Wants ops e g) (hd : Nat.blt d N = true) (hy : Yld P op ty e w v) (h : RL P f N ops rest K ((d, v) :: e) w R) :
    RL P f N ops ({ dst := some d, op := op, type := ty, pos := ps, after := af, guard := g } :: rest) K e w R := RL.eff hw hd hy.eff h
theorem RL.pass (hw : Spurns ops e g) (hd : Nat.blt d N = true) (h : RL P f N ops rest K ((d, undef) :: e) w R) :
    RL P f N ops ({ dst := some d, op := op, type := ty, pos := ps, after := af, guard := g } :: rest) K e w R := fun tm hok => by
  unfold wpList
  rw [if_neg (by rw [Spurns.wanted (o := { dst := some d, op := op, type := ty, pos := ps, after := af, guard := g }) hw hok]; exact Bool.false_ne_true)]
  exact h _ (hok.put hd _)
theorem RL.sto (hw : Wants ops e g) (hy : Sto P op ty e w w') (h : RL P f N ops rest K e w' R) :
    RL P f N ops ({ dst := none, op := op, type := ty, pos := ps, after := af, guard := g } :: rest) K e w R := fun tm hok => by
  have hy' := hy _ (hok.sees [])
  unfold wpList
  rw [if_pos (Wants.wanted (o := { dst := none, op := op, type := ty, pos := ps, after := af, guard := g }) hw hok)]
  refine .inl ?_
  unfold Oper.wp
  rw [execOp_eq, hy', Oper.upon_skip]
  exact h _ hok
theorem RL.call {c : FuncId} {args : Array Value} {R' : Ending → World → Prop} (hw : Wants ops e g) (hd : Nat.blt d N = true) (hy : Ent P op ty e w c args) (hc : Calls P c args w R')
    (h : ∀ en w', R' en w' → ∃ v, en = .returned v ∧ RL P f N ops rest K ((d, v) :: e) w' R) :
    RL P f N ops ({ dst := some d, op := op, type := ty, pos := ps, after := af, guard := g } :: rest) K e w R := fun tm hok => by
  have hy' := hy _ (hok.sees [])
  unfold wpList
  rw [if_pos (Wants.wanted (o := { dst := some d, op := op, type := ty, pos := ps, after := af, guard := g }) hw hok)]
  refine .inl ?_
  unfold Oper.wp
  rw [execOp_eq, hy', Oper.upon_enter]
  refine hc.mono fun en w' hr => ?_
  obtain ⟨v, rfl, hk⟩ := h en w' hr
  exact hk _ (hok.put hd v)
theorem RL.call0 {c : FuncId} {args : Array Value} {R' : Ending → World → Prop} (hw : Wants ops e g) (hy : Ent P op ty e w c args) (hc : Calls P c args w R')
    (h : ∀ en w', R' en w' → ∃ v, en = .returned v ∧ RL P f N ops rest K e w' R) :
    RL P f N ops ({ dst := none, op := op, type := ty, pos := ps, after := af, guard := g } :: rest) K e w R := fun tm hok => by
  have hy' := hy _ (hok.sees [])
  unfold wpList
  rw [if_pos (Wants.wanted (o := { dst := none, op := op, type := ty, pos := ps, after := af, guard := g }) hw hok)]
  refine .inl ?_
  unfold Oper.wp
  rw [execOp_eq, hy', Oper.upon_enter]
  refine hc.mono fun en w' hr => ?_
  obtain ⟨v, rfl, hk⟩ := h en w' hr
  exact hk _ hok

/-- A region that draws, all of whose operations are quiet in the class C. -/
def RQ (P : Program) (f : FuncId) (N : Nat) (ops : Array Oper) (C : World → Prop) (l : List Oper) (k : List Item) (e : Env) (R : Ending → World → Prop) : Prop :=
  ∀ tm, Env.Ok N e tm → wpQuiet P ops C (fun a' => ∀ w', C w' → QK P f k R .normal a' w') l ⟨tm, []⟩
variable {C : World → Prop}
theorem RQ.nil (h : ∀ w', C w' → Sim P f N k e w' R) : RQ P f N ops C [] k e R := fun tm hok => wpQuiet_nil fun w' hw' => ⟨rfl, h w' hw' tm hok⟩
theorem RQ.val (hw : Wants ops e g) (hd : Nat.blt d N = true) (hy : ∀ w, C w → Yld P op ty e w v) (h : RQ P f N ops C rest k ((d, v) :: e) R) :
    RQ P f N ops C ({ dst := some d, op := op, type := ty, pos := ps, after := af, guard := g } :: rest) k e R := fun tm hok => by
  unfold wpQuiet
  rw [if_pos (Wants.wanted (o := { dst := some d, op := op, type := ty, pos := ps, after := af, guard := g }) hw hok)]
  refine ⟨v, fun w hC => ?_, h _ (hok.put hd v)⟩
  unfold Oper.quietAt
  rw [execOp_eq, hy w hC _ (hok.sees [])]
  exact ⟨rfl, rfl⟩
theorem RQ.pass (hw : Spurns ops e g) (hd : Nat.blt d N = true) (h : RQ P f N ops C rest k ((d, undef) :: e) R) :
    RQ P f N ops C ({ dst := some d, op := op, type := ty, pos := ps, after := af, guard := g } :: rest) k e R := fun tm hok => by
  unfold wpQuiet
  rw [if_neg (by rw [Spurns.wanted (o := { dst := some d, op := op, type := ty, pos := ps, after := af, guard := g }) hw hok]; exact Bool.false_ne_true)]
  exact h _ (hok.put hd _)
theorem RQ.call {c : FuncId} {args : Array Value} (hw : Wants ops e g) (hd : Nat.blt d N = true) (hy : ∀ w, C w → Ent P op ty e w c args) (hc : ∀ w, C w → Calls P c args w fun en w' => en = .returned v ∧ C w')
    (h : RQ P f N ops C rest k ((d, v) :: e) R) :
    RQ P f N ops C ({ dst := some d, op := op, type := ty, pos := ps, after := af, guard := g } :: rest) k e R := fun tm hok => by
  unfold wpQuiet
  rw [if_pos (Wants.wanted (o := { dst := some d, op := op, type := ty, pos := ps, after := af, guard := g }) hw hok)]
  refine ⟨v, fun w hC => ?_, h _ (hok.put hd v)⟩
  unfold Oper.quietAt
  rw [execOp_eq, hy w hC _ (hok.sees [])]
  exact ⟨rfl, hc w hC⟩
end
theorem Sim.quiet {id : Nat} {l : List Oper} (C : World → Prop) (hm : P.follows .mixedOrders = true) (hB : Region.lexB .any l.toArray = true) (hC : C w.drew) (h : RQ P f N l.toArray C l k e R) :
    Sim P f N (.code (.region id l.toArray true) :: k) e w R :=
  fun tm hok => SimA.of_wp (wp_region_quiet hm hB hC (by simpa using h tm hok))
theorem Sim.mk (h : ∀ tm, Env.Ok N e tm → SimA P f k ⟨tm, []⟩ w R) : Sim P f N k e w R := h
theorem Sim.out (h : Sim P f N k e w R) : ∀ tm, Env.Ok N e tm → SimA P f k ⟨tm, []⟩ w R := h
theorem RL.out {ops : Array Oper} {l : List Oper} {K : Act → World → Prop} (h : RL P f N ops l K e w R) : ∀ tm, Env.Ok N e tm → wpList P ops (QX P f K R) l ⟨tm, []⟩ w := h
theorem Yld.mk {op : Op} {ty : TypeId} {v : Value} (h : ∀ ρ, e.Sees ρ → (xop ρ op ty).run P w = .ok (.value v) w) : Yld P op ty e w v := h
theorem Yld.out {op : Op} {ty : TypeId} {v : Value} (h : Yld P op ty e w v) : ∀ ρ, e.Sees ρ → (xop ρ op ty).run P w = .ok (.value v) w := h
theorem Eff.mk {op : Op} {ty : TypeId} {v : Value} {w' : World} (h : ∀ ρ, e.Sees ρ → (xop ρ op ty).run P w = .ok (.value v) w') : Eff P op ty e w v w' := h
theorem Eff.out {op : Op} {ty : TypeId} {v : Value} {w' : World} (h : Eff P op ty e w v w') : ∀ ρ, e.Sees ρ → (xop ρ op ty).run P w = .ok (.value v) w' := h
theorem Sto.mk {op : Op} {ty : TypeId} {w' : World} (h : ∀ ρ, e.Sees ρ → (xop ρ op ty).run P w = .ok .skip w') : Sto P op ty e w w' := h
theorem Ent.mk {op : Op} {ty : TypeId} {g : FuncId} {args : Array Value} (h : ∀ ρ, e.Sees ρ → (xop ρ op ty).run P w = .ok (.enter g args) w) : Ent P op ty e w g args := h
end
attribute [irreducible] Sim RL RQ Yld Eff Sto Ent
end Go.Proofs.Ytgckpmcdlciibaa
