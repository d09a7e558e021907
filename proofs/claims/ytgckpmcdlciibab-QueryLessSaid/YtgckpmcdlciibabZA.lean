/- Several texts in one: The engine: a function's run as a forward simulation over its todo list, the frame kept as an association list. The engine's rules: what one operation does, off the frame's entries. The facts on types and functions come as instances. Regions that draw their order, and write or call: one operation at a time, whichever may come up. -/
import Derived.WalkKit
import Derived.OrdersHeld
import Derived.Deep.Quiet
import Derived.KernelRfl
namespace Go.Proofs.Ytgckpmcdlciibab
open Go.RowKit

/-- The frame, as far as it is known: slot, value; the newest first. -/
abbrev Env := List (Nat × Value)
def Env.get : Env → Nat → Option Value
  | [], _ => none
  | (d, v) :: e, t => bif Nat.beq d t then some v else Env.get e t
def Env.ev (e : Env) : Operand → Option Value
  | .tmp t => e.get t
  | .const v => some v
  | .global g => some (.pointer (some ⟨g, 0, none⟩))
  | .func f => some (.func (.func f) #[] #[])
def Env.evs (e : Env) : List Operand → Option (List Value)
  | [] => some []
  | x :: r => match e.ev x with
    | some v => match Env.evs e r with
      | some vs => some (v :: vs)
      | none => none
    | none => none
structure Env.Ok (N : Nat) (e : Env) (tm : Array Value) : Prop where
  size : N ≤ tm.size
  get : ∀ t v, e.get t = some v → tm[t]? = some v

theorem Env.Ok.put {N : Nat} {e : Env} {tm : Array Value} (h : Env.Ok N e tm) {d : Nat} (hd : Nat.blt d N = true) (v : Value) : Env.Ok N ((d, v) :: e) (tm.setIfInBounds d v) := by
  have hd' : d < N := by simp [Nat.blt] at hd; omega
  refine ⟨by simpa using h.size, fun t u hu => ?_⟩
  simp only [Env.get] at hu
  by_cases hdt : d = t
  · subst hdt
    simp at hu
    subst hu
    have := h.size
    simp [Array.getElem?_setIfInBounds]
    omega
  · have : Nat.beq d t = false := by
      rw [← Bool.not_eq_true]; intro hb; exact hdt (Nat.eq_of_beq_eq_true hb)
    simp [this] at hu
    rw [Array.getElem?_setIfInBounds_ne (by omega)]
    exact h.get t u hu
theorem Env.Ok.ev {N : Nat} {e : Env} {tm : Array Value} (h : Env.Ok N e tm) {ds : List Deferred} {x : Operand} {v : Value} (hx : e.ev x = some v) : (Act.mk tm ds).eval x = v := by
  cases x with
  | tmp t => have := h.get t v hx; simp [Act.eval, Array.getD_eq_getD_getElem?, this]
  | const u => simpa [Env.ev, Act.eval] using hx
  | global g => simpa [Env.ev, Act.eval] using hx
  | func f => simpa [Env.ev, Act.eval] using hx
/-- what a state's operands are -/
def Env.Sees (e : Env) (ρ : Operand → Value) : Prop := ∀ x v, e.ev x = some v → ρ x = v
theorem Env.Ok.sees {N : Nat} {e : Env} {tm : Array Value} (h : Env.Ok N e tm) (ds : List Deferred) : e.Sees (Act.mk tm ds).eval := fun _ _ hx => h.ev hx
theorem Env.Sees.evs {e : Env} {ρ : Operand → Value} (h : e.Sees ρ) : ∀ {l : List Operand} {vs : List Value}, e.evs l = some vs → l.map ρ = vs
  | [], vs, hv => by simpa [Env.evs] using hv
  | x :: r, vs, hv => by
    simp only [Env.evs] at hv
    split at hv
    · rename_i v hx
      split at hv
      · rename_i us hr
        simp at hv
        subst hv
        simp [h x v hx, Env.Sees.evs h hr]
      · cases hv
    · cases hv
def Env.ofArgs : Nat → List Value → Env
  | _, [] => []
  | i, v :: r => (i, v) :: Env.ofArgs (i + 1) r
theorem Env.ofArgs_get : ∀ (l : List Value) (i t : Nat) (v : Value), (Env.ofArgs i l).get t = some v → ∃ j, t = i + j ∧ l[j]? = some v
  | [], i, t, v, h => by simp [Env.ofArgs, Env.get] at h
  | x :: r, i, t, v, h => by
    simp only [Env.ofArgs, Env.get] at h
    by_cases hit : i = t
    · subst hit; simp at h; exact ⟨0, by simp, by simpa using h⟩
    · have : Nat.beq i t = false := by
        rw [← Bool.not_eq_true]; intro hb; exact hit (Nat.eq_of_beq_eq_true hb)
      simp [this] at h
      obtain ⟨j, hj, hv⟩ := Env.ofArgs_get r (i + 1) t v h
      exact ⟨j + 1, by omega, by simpa using hv⟩
theorem Env.Ok.ofArgs (args : Array Value) (n : Nat) (hn : args.size ≤ n) : Env.Ok n (Env.ofArgs 0 args.toList) (args ++ Array.replicate (n - args.size) undef) := by
  refine ⟨by simp; omega, fun t v h => ?_⟩
  obtain ⟨j, hj, hv⟩ := Env.ofArgs_get _ _ _ _ h
  simp at hj
  subst hj
  have hlt : t < args.size := by
    have := (List.getElem?_eq_some_iff.1 hv).1
    simpa using this
  rw [Array.getElem?_append_left hlt]
  simpa using hv
/-- a frame of which less is known -/
theorem Env.Ok.weaken {N : Nat} {e e' : Env} {tm : Array Value} (h : Env.Ok N e tm) (hs : ∀ t v, e'.get t = some v → e.get t = some v) : Env.Ok N e' tm :=
  ⟨h.size, fun t v hv => h.get t v (hs t v hv)⟩
/-- all of a list's entries stand in the frame -/
def Env.Sub (e' e : Env) : Prop := ∀ t v, e'.get t = some v → e.get t = some v
theorem Env.Sub.nil (e : Env) : Env.Sub [] e := fun t v h => by simp [Env.get] at h
theorem Env.Sub.cons {e' e : Env} {d : Nat} {v : Value} (h : e.get d = some v) (hs : Env.Sub e' e) : Env.Sub ((d, v) :: e') e := fun t u hu => by
  simp only [Env.get] at hu
  by_cases hdt : d = t
  · subst hdt; simp at hu; subst hu; exact h
  · have : Nat.beq d t = false := by
      rw [← Bool.not_eq_true]; intro hb; exact hdt (Nat.eq_of_beq_eq_true hb)
    simp [this] at hu
    exact hs t u hu

def fb (f : FuncId) : Frame := { (default : Frame) with fn := f, kind := .normal }

/-- From this frame, with these things left to do, the function comes to an end of which R holds. -/
def SimA (P : Program) (f : FuncId) (k : List Item) (a : Act) (w : World) (R : Ending → World → Prop) : Prop :=
  ∀ cs, ∃ en w' fr, R en w' ∧ Comes P (lone ((fb f).at a k) cs w) (lone fr cs w') en ∧ fr.fn = f ∧ fr.leaving P w' en
def Sim (P : Program) (f : FuncId) (N : Nat) (k : List Item) (e : Env) (w : World) (R : Ending → World → Prop) : Prop :=
  ∀ tm, Env.Ok N e tm → SimA P f k ⟨tm, []⟩ w R

section
variable {P : Program} {f : FuncId} {N : Nat} {k : List Item} {e : Env} {w : World} {R : Ending → World → Prop}

theorem calls_of_sim {fn : Func} {c : Code} {args : Array Value} (hf : P.funcs[f]? = some fn) (hb : fn.body = some c) (hn : args.size ≤ fn.ntmps)
    (h : Sim P f fn.ntmps [.code c] (Env.ofArgs 0 args.toList) w R) : Calls P f args w R := by
  intro cs
  have henter : Frame.enter P f args .normal = (fb f).at { tmps := args ++ Array.replicate (fn.ntmps - args.size) undef, defers := [] } [.code c] := by
    simp [Frame.enter, Frame.at, hf, hb, fb]
  rw [henter]
  exact h _ (Env.Ok.ofArgs args fn.ntmps hn) cs

theorem SimA.of_step {a a' : Act} {k k' : List Item} {w w' : World} (hs : ∀ cs, step P (lone ((fb f).at a k) cs w) = .next (lone ((fb f).at a' k') cs w')) (h : SimA P f k' a' w' R) : SimA P f k a w R := fun cs =>
  let ⟨en, w', fr, hR, hc, hfn, hl⟩ := h cs
  ⟨en, w', fr, hR, hc.of_steps (.one (hs cs)), hfn, hl⟩
theorem Sim.of_step {k k' : List Item} (hs : ∀ a cs, step P (lone ((fb f).at a k) cs w) = .next (lone ((fb f).at a k') cs w)) (h : Sim P f N k' e w R) : Sim P f N k e w R :=
  fun tm hok => SimA.of_step (hs _) (h tm hok)
theorem Sim.weaken {e' : Env} (h : Sim P f N k e' w R) (hs : Env.Sub e' e) : Sim P f N k e w R := fun tm hok => h tm (hok.weaken hs)
theorem Sim.seq {x y : Code} (h : Sim P f N (.code x :: .code y :: k) e w R) : Sim P f N (.code (.seq x y) :: k) e w R := Sim.of_step (fun _ _ => step_seq) h
theorem Sim.skip (h : Sim P f N k e w R) : Sim P f N (.code .skip :: k) e w R := Sim.of_step (fun _ _ => step_skip) h
theorem Sim.inBlock {id : Nat} (h : Sim P f N k e w R) : Sim P f N (.inBlock id :: k) e w R := Sim.of_step (fun _ _ => step_inBlock) h
theorem Sim.block {id : Nat} {c : Code} (h : Sim P f N (.code c :: .inBlock id :: k) e w R) : Sim P f N (.code (.block id c) :: k) e w R := Sim.of_step (fun _ _ => step_block) h
theorem Sim.exit {id : Nat} {k' : List Item} (hx : exitTo id k = some k') (h : Sim P f N k' e w R) : Sim P f N (.code (.exit id) :: k) e w R := Sim.of_step (fun _ _ => step_exit hx) h
theorem Sim.inLoop {c : Code} (h : Sim P f N (.code c :: .inLoop c :: k) e w R) : Sim P f N (.inLoop c :: k) e w R := Sim.of_step (fun _ _ => step_inLoop) h
theorem Sim.cond {c : Operand} {x y : Code} {t : Bool} (hc : e.ev c = some (.bool t)) (ht : t = true → Sim P f N (.code x :: k) e w R) (hf : t = false → Sim P f N (.code y :: k) e w R) : Sim P f N (.code (.cond c x y) :: k) e w R := by
  intro tm hok
  refine SimA.of_step (fun cs => step_cond (t := t) (hok.ev hc)) ?_
  cases t
  · exact hf rfl tm hok
  · exact ht rfl tm hok
theorem Sim.condT {c : Operand} {x y : Code} (hc : e.ev c = some (.bool true)) (h : Sim P f N (.code x :: k) e w R) : Sim P f N (.code (.cond c x y) :: k) e w R :=
  Sim.cond hc (fun _ => h) (fun h => by cases h)
theorem Sim.condF {c : Operand} {x y : Code} (hc : e.ev c = some (.bool false)) (h : Sim P f N (.code y :: k) e w R) : Sim P f N (.code (.cond c x y) :: k) e w R :=
  Sim.cond hc (fun h => by cases h) (fun _ => h)
/-- A LOOP: its head's frame by a state of one's own; every round lowers the measure. -/
theorem Sim.loop {σ : Type} {c : Code} (E : σ → Env) (I : σ → World → Prop) (μ : σ → Nat) (s₀ : σ) (hs : Env.Sub (E s₀) e) (h₀ : I s₀ w)
    (round : ∀ s w, I s w → (∀ s' w' e', I s' w' → μ s' < μ s → Env.Sub (E s') e' → Sim P f N (.inLoop c :: k) e' w' R) → Sim P f N (.code c :: .inLoop c :: k) (E s) w R) :
    Sim P f N (.code (.loop c) :: k) e w R := by
  refine Sim.of_step (fun _ _ => step_loop) (Sim.weaken ?_ hs)
  have key : ∀ n s w, μ s = n → I s w → Sim P f N (.code c :: .inLoop c :: k) (E s) w R := by
    intro n
    induction n using Nat.strongRecOn with
    | _ n ih =>
      intro s w hn hI
      exact round s w hI fun s' w' e' hI' hlt hsub => Sim.inLoop (Sim.weaken (ih (μ s') (hn ▸ hlt) s' w' rfl hI') hsub)
  exact key _ _ _ rfl h₀

theorem Sim.ret {fn : Func} {v : Value} (hf : P.funcs[f]? = some fn) (hr : ∀ tm, Env.Ok N e tm → (results fn tm).run P w = .ok v w) (hR : R (.returned v) w) : Sim P f N (.code .ret :: k) e w R := fun tm hok _ =>
  ⟨.returned v, w, _, hR, .one step_ret, rfl, rfl, rfl, rfl, fn, hf, hr tm hok⟩
theorem Sim.fin {fn : Func} {v : Value} (hf : P.funcs[f]? = some fn) (hr : ∀ tm, Env.Ok N e tm → (results fn tm).run P w = .ok v w) (hR : R (.returned v) w) : Sim P f N [] e w R := fun tm hok _ =>
  ⟨.returned v, w, _, hR, .one step_end, rfl, rfl, rfl, rfl, fn, hf, hr tm hok⟩
theorem results_1 {fn : Func} {t : Tmp} {v : Value} {tm : Array Value} (h : fn.results = #[.tmp t]) (hv : e.get t = some v) (hok : Env.Ok N e tm) : (results fn tm).run P w = .ok v w := by
  rw [results_tmp h]
  simp [Array.getD_eq_getD_getElem?, hok.get _ _ hv]
theorem results_2 {fn : Func} {t u : Tmp} {v v' : Value} {tm : Array Value} (h : fn.results = #[.tmp t, .tmp u]) (hv : e.get t = some v) (hv' : e.get u = some v') (hok : Env.Ok N e tm) : (results fn tm).run P w = .ok (.tuple #[v, v']) w := by
  rw [results_tmp2 h]
  simp [Array.getD_eq_getD_getElem?, hok.get _ _ hv, hok.get _ _ hv']
theorem Sim.ret1 {fn : Func} {t : Tmp} {v : Value} (hf : P.funcs[f]? = some fn) (h : fn.results = #[.tmp t]) (hv : e.get t = some v) (hR : R (.returned v) w) : Sim P f N (.code .ret :: k) e w R :=
  Sim.ret hf (fun _ hok => results_1 h hv hok) hR
theorem Sim.ret2 {fn : Func} {t u : Tmp} {v v' : Value} (hf : P.funcs[f]? = some fn) (h : fn.results = #[.tmp t, .tmp u]) (hv : e.get t = some v) (hv' : e.get u = some v') (hR : R (.returned (.tuple #[v, v'])) w) : Sim P f N (.code .ret :: k) e w R :=
  Sim.ret hf (fun _ hok => results_2 h hv hv' hok) hR
theorem Sim.ret0 {fn : Func} (hf : P.funcs[f]? = some fn) (h : fn.results = #[]) (hR : R (.returned (.tuple #[])) w) : Sim P f N (.code .ret :: k) e w R :=
  Sim.ret hf (fun _ _ => results_none h _ _ _) hR
theorem Sim.fin0 {fn : Func} (hf : P.funcs[f]? = some fn) (h : fn.results = #[]) (hR : R (.returned (.tuple #[])) w) : Sim P f N [] e w R :=
  Sim.fin hf (fun _ _ => results_none h _ _ _) hR

/-- What a region's wp is asked: what comes behind it. -/
def QX (P : Program) (f : FuncId) (K : Act → World → Prop) (R : Ending → World → Prop) : Exit → Act → World → Prop
  | .normal, a, w => a.defers = [] ∧ K a w
  | .panic chain, a, w => a.defers = [] ∧ (∃ fn, P.funcs[f]? = some fn) ∧ R (.panicked chain) w
  | .outgrown, _, w => R .outgrown w
  | _, _, _ => False
/-- the rest of the function -/
def SK (P : Program) (f : FuncId) (k : List Item) (R : Ending → World → Prop) (a : Act) (w : World) : Prop := SimA P f k a w R
abbrev QK (P : Program) (f : FuncId) (k : List Item) (R : Ending → World → Prop) : Exit → Act → World → Prop := QX P f (SK P f k R) R

/-- A region's operations, one behind the other; K: what comes behind them. -/
def RL (P : Program) (f : FuncId) (N : Nat) (ops : Array Oper) (l : List Oper) (K : Act → World → Prop) (e : Env) (w : World) (R : Ending → World → Prop) : Prop :=
  ∀ tm, Env.Ok N e tm → wpList P ops (QX P f K R) l ⟨tm, []⟩ w

theorem SimA.of_wp {c : Code} {a : Act} (h : c.wp P (QK P f k R) a w) : SimA P f (.code c :: k) a w R := by
  intro cs
  obtain ⟨e, a', w', hq, harr⟩ := h (fb f) k cs
  cases e with
  | normal =>
    obtain ⟨hd', hs⟩ := hq
    obtain ⟨en, w₂, fr, hR, hc, hfn, hl⟩ := hs cs
    exact ⟨en, w₂, fr, hR, hc.of_steps harr, hfn, hl⟩
  | ret => exact hq.elim
  | panic chain =>
    obtain ⟨hd, hfn, hR⟩ := hq
    obtain ⟨todo, hs⟩ := harr
    exact ⟨.panicked chain, w', _, hR, hs, rfl, rfl, hd, hfn⟩
  | exit id => exact hq.elim
  | goto l => exact hq.elim
  | outgrown => exact ⟨.outgrown, w', fb f, hq, harr.resolve_left (by simp [fb]), rfl, trivial⟩
theorem Sim.region {id : Nat} {l : List Oper} (h : RL P f N l.toArray l (SK P f k R) e w R) : Sim P f N (.code (.region id l.toArray false) :: k) e w R :=
  fun tm hok => SimA.of_wp (wp_region_lit (h tm hok))

/-- What an operation does, its destination, guard and place left aside. -/
def xop (ρ : Operand → Value) (op : Op) (ty : TypeId) : Sem Next := execOp ρ { dst := none, op := op, type := ty, pos := "", after := #[], guard := none }
theorem execOp_eq (ρ : Operand → Value) (o : Oper) : execOp ρ o = xop ρ o.op o.type := by
  obtain ⟨d, op, ty, ps, af, g⟩ := o
  unfold xop execOp
  rfl
/-- In this frame and world the operation yields v and leaves the world as it is. -/
def Yld (P : Program) (op : Op) (ty : TypeId) (e : Env) (w : World) (v : Value) : Prop := ∀ ρ, e.Sees ρ → (xop ρ op ty).run P w = .ok (.value v) w
/-- It yields v and leaves the world w'. -/
def Eff (P : Program) (op : Op) (ty : TypeId) (e : Env) (w : World) (v : Value) (w' : World) : Prop := ∀ ρ, e.Sees ρ → (xop ρ op ty).run P w = .ok (.value v) w'
/-- It yields nothing (a store). -/
def Sto (P : Program) (op : Op) (ty : TypeId) (e : Env) (w w' : World) : Prop := ∀ ρ, e.Sees ρ → (xop ρ op ty).run P w = .ok .skip w'
/-- It calls. -/
def Ent (P : Program) (op : Op) (ty : TypeId) (e : Env) (w : World) (g : FuncId) (args : Array Value) : Prop := ∀ ρ, e.Sees ρ → (xop ρ op ty).run P w = .ok (.enter g args) w
theorem Yld.eff {op : Op} {ty : TypeId} {v : Value} (h : Yld P op ty e w v) : Eff P op ty e w v w := h

section
variable {K : Act → World → Prop} {ops : Array Oper} {rest : List Oper} {d : Nat} {op : Op} {ty : TypeId} {ps : String} {af : Array Edge} {g : Option (Nat × Bool)} {v : Value} {w' : World}
/-- whether a guarded operation is wanted -/
def Wants (ops : Array Oper) (e : Env) : Option (Nat × Bool) → Prop
  | none => True
  | some (j, b) => ∃ o dj, ops[j]? = some o ∧ o.dst = some dj ∧ e.get dj = some (.bool b)
def Spurns (ops : Array Oper) (e : Env) : Option (Nat × Bool) → Prop
  | none => False
  | some (j, b) => ∃ o dj, ops[j]? = some o ∧ o.dst = some dj ∧ (e.get dj = some (.bool !b) ∨ e.get dj = some undef)
theorem Wants.wanted {o : Oper} {tm : Array Value} (h : Wants ops e o.guard) (hok : Env.Ok N e tm) : Region.wanted o (yielded ops tm) = true := by
  unfold Region.wanted
  cases hg : o.guard with
  | none => rfl
  | some x =>
    obtain ⟨j, b⟩ := x
    rw [hg] at h
    obtain ⟨oj, dj, h1, h2, h3⟩ := h
    simp [yielded, h1, h2, hok.get _ _ h3]
theorem Spurns.wanted {o : Oper} {tm : Array Value} (h : Spurns ops e o.guard) (hok : Env.Ok N e tm) : Region.wanted o (yielded ops tm) = false := by
  unfold Region.wanted
  cases hg : o.guard with
  | none => rw [hg] at h; exact h.elim
  | some x =>
    obtain ⟨j, b⟩ := x
    rw [hg] at h
    obtain ⟨oj, dj, h1, h2, h3 | h3⟩ := h
    · cases b <;> simp [yielded, h1, h2, hok.get _ _ h3]
    · simp [yielded, h1, h2, hok.get _ _ h3, undef]
theorem RL.nil (h : Sim P f N k e w R) : RL P f N ops [] (SK P f k R) e w R := fun tm hok => wpList_nil ⟨rfl, h tm hok⟩
theorem RL.nilK (h : ∀ tm, Env.Ok N e tm → K ⟨tm, []⟩ w) : RL P f N ops [] K e w R := fun tm hok => wpList_nil ⟨rfl, h tm hok⟩
theorem RL.eff (hw : Wants ops e g) (hd : Nat.blt d N = true) (hy : Eff P op ty e w v w') (h : RL P f N ops rest K ((d, v) :: e) w' R) :
    RL P f N ops ({ dst := some d, op := op, type := ty, pos := ps, after := af, guard := g } :: rest) K e w R := fun tm hok => by
  have hy' := hy _ (hok.sees [])
  unfold wpList
  rw [if_pos (Wants.wanted (o := { dst := some d, op := op, type := ty, pos := ps, after := af, guard := g }) hw hok)]
  refine .inl ?_
  unfold Oper.wp
  rw [execOp_eq, hy', Oper.upon_value]
  exact h _ (hok.put hd v)
theorem RL.val (hw : Wants ops e g) (hd : Nat.blt d N = true) (hy : Yld P op ty e w v) (h : RL P f N ops rest K ((d, v) :: e) w R) :
    RL P f N ops ({ dst := some d, op := op, type := ty, pos := ps, after := af, guard := g } :: rest) K e w R := RL.eff hw hd hy.eff h
theorem RL.pass (hw : Spurns ops e g) (hd : Nat.blt d N = true) (h : RL P f N ops rest K ((d, undef) :: e) w R) :
    RL P f N ops ({ dst := some d, op := op, type := ty, pos := ps, after := af, guard := g } :: rest) K e w R := fun tm hok => by
  unfold wpList
  rw [if_neg (by rw [Spurns.wanted (o := { dst := some d, op := op, type := ty, pos := ps, after := af, guard := g }) hw hok]; exact Bool.false_ne_true)]
  exact h _ (hok.put hd _)
theorem RL.sto (hw : Wants ops e g) (hy : Sto P op ty e w w') (h : RL P f N ops rest K e w' R) :
    RL P f N ops ({ dst := none, op := op, type := ty, pos := ps, after := af, guard := g } :: rest) K e w R := fun tm hok => by
  have hy' := hy _ (hok.sees [])
  unfold wpList
  rw [if_pos (Wants.wanted (o := { dst := none, op := op, type := ty, pos := ps, after := af, guard := g }) hw hok)]
  refine .inl ?_
  unfold Oper.wp
  rw [execOp_eq, hy', Oper.upon_skip]
  exact h _ hok
theorem RL.call {c : FuncId} {args : Array Value} {R' : Ending → World → Prop} (hw : Wants ops e g) (hd : Nat.blt d N = true) (hy : Ent P op ty e w c args) (hc : Calls P c args w R')
    (h : ∀ en w', R' en w' → ∃ v, en = .returned v ∧ RL P f N ops rest K ((d, v) :: e) w' R) :
    RL P f N ops ({ dst := some d, op := op, type := ty, pos := ps, after := af, guard := g } :: rest) K e w R := fun tm hok => by
  have hy' := hy _ (hok.sees [])
  unfold wpList
  rw [if_pos (Wants.wanted (o := { dst := some d, op := op, type := ty, pos := ps, after := af, guard := g }) hw hok)]
  refine .inl ?_
  unfold Oper.wp
  rw [execOp_eq, hy', Oper.upon_enter]
  refine hc.mono fun en w' hr => ?_
  obtain ⟨v, rfl, hk⟩ := h en w' hr
  exact hk _ (hok.put hd v)
/-- A region that draws, all of whose operations are quiet in the class C. -/
def RQ (P : Program) (f : FuncId) (N : Nat) (ops : Array Oper) (C : World → Prop) (l : List Oper) (k : List Item) (e : Env) (R : Ending → World → Prop) : Prop :=
  ∀ tm, Env.Ok N e tm → wpQuiet P ops C (fun a' => ∀ w', C w' → QK P f k R .normal a' w') l ⟨tm, []⟩
variable {C : World → Prop}
theorem RQ.nil (h : ∀ w', C w' → Sim P f N k e w' R) : RQ P f N ops C [] k e R := fun tm hok => wpQuiet_nil fun w' hw' => ⟨rfl, h w' hw' tm hok⟩
theorem RQ.val (hw : Wants ops e g) (hd : Nat.blt d N = true) (hy : ∀ w, C w → Yld P op ty e w v) (h : RQ P f N ops C rest k ((d, v) :: e) R) :
    RQ P f N ops C ({ dst := some d, op := op, type := ty, pos := ps, after := af, guard := g } :: rest) k e R := fun tm hok => by
  unfold wpQuiet
  rw [if_pos (Wants.wanted (o := { dst := some d, op := op, type := ty, pos := ps, after := af, guard := g }) hw hok)]
  refine ⟨v, fun w hC => ?_, h _ (hok.put hd v)⟩
  unfold Oper.quietAt
  rw [execOp_eq, hy w hC _ (hok.sees [])]
  exact ⟨rfl, rfl⟩
theorem RQ.pass (hw : Spurns ops e g) (hd : Nat.blt d N = true) (h : RQ P f N ops C rest k ((d, undef) :: e) R) :
    RQ P f N ops C ({ dst := some d, op := op, type := ty, pos := ps, after := af, guard := g } :: rest) k e R := fun tm hok => by
  unfold wpQuiet
  rw [if_neg (by rw [Spurns.wanted (o := { dst := some d, op := op, type := ty, pos := ps, after := af, guard := g }) hw hok]; exact Bool.false_ne_true)]
  exact h _ (hok.put hd _)
theorem RQ.call {c : FuncId} {args : Array Value} (hw : Wants ops e g) (hd : Nat.blt d N = true) (hy : ∀ w, C w → Ent P op ty e w c args) (hc : ∀ w, C w → Calls P c args w fun en w' => en = .returned v ∧ C w')
    (h : RQ P f N ops C rest k ((d, v) :: e) R) :
    RQ P f N ops C ({ dst := some d, op := op, type := ty, pos := ps, after := af, guard := g } :: rest) k e R := fun tm hok => by
  unfold wpQuiet
  rw [if_pos (Wants.wanted (o := { dst := some d, op := op, type := ty, pos := ps, after := af, guard := g }) hw hok)]
  refine ⟨v, fun w hC => ?_, h _ (hok.put hd v)⟩
  unfold Oper.quietAt
  rw [execOp_eq, hy w hC _ (hok.sees [])]
  exact ⟨rfl, hc w hC⟩
end
theorem Sim.quiet {id : Nat} {l : List Oper} (C : World → Prop) (hm : P.follows .mixedOrders = true) (hB : Region.lexB .any l.toArray = true) (hC : C w.drew) (h : RQ P f N l.toArray C l k e R) :
    Sim P f N (.code (.region id l.toArray true) :: k) e w R :=
  fun tm hok => SimA.of_wp (wp_region_quiet hm hB hC (by simpa using h tm hok))
theorem Sim.mk (h : ∀ tm, Env.Ok N e tm → SimA P f k ⟨tm, []⟩ w R) : Sim P f N k e w R := h
theorem RL.out {ops : Array Oper} {l : List Oper} {K : Act → World → Prop} (h : RL P f N ops l K e w R) : ∀ tm, Env.Ok N e tm → wpList P ops (QX P f K R) l ⟨tm, []⟩ w := h
theorem Yld.mk {op : Op} {ty : TypeId} {v : Value} (h : ∀ ρ, e.Sees ρ → (xop ρ op ty).run P w = .ok (.value v) w) : Yld P op ty e w v := h
theorem Yld.out {op : Op} {ty : TypeId} {v : Value} (h : Yld P op ty e w v) : ∀ ρ, e.Sees ρ → (xop ρ op ty).run P w = .ok (.value v) w := h
theorem Eff.mk {op : Op} {ty : TypeId} {v : Value} {w' : World} (h : ∀ ρ, e.Sees ρ → (xop ρ op ty).run P w = .ok (.value v) w') : Eff P op ty e w v w' := h
theorem Eff.out {op : Op} {ty : TypeId} {v : Value} {w' : World} (h : Eff P op ty e w v w') : ∀ ρ, e.Sees ρ → (xop ρ op ty).run P w = .ok (.value v) w' := h
theorem Sto.mk {op : Op} {ty : TypeId} {w' : World} (h : ∀ ρ, e.Sees ρ → (xop ρ op ty).run P w = .ok .skip w') : Sto P op ty e w w' := h
theorem Ent.mk {op : Op} {ty : TypeId} {g : FuncId} {args : Array Value} (h : ∀ ρ, e.Sees ρ → (xop ρ op ty).run P w = .ok (.enter g args) w) : Ent P op ty e w g args := h
end
attribute [irreducible] Sim RL RQ Yld Eff Sto Ent
end Go.Proofs.Ytgckpmcdlciibab

namespace Go.Proofs.Ytgckpmcdlciibab
open Go.RowKit

def scalarB : TypeDesc → Bool
  | .struct _ => false
  | .array _ _ => false
  | _ => true
class Sli (P : Program) (t : TypeId) (el : outParam TypeId) : Prop where
  h : P.underlying t = some (.slice el)
class Sca (P : Program) (t : TypeId) : Prop where
  h : ∃ d, P.underlying t = some d ∧ scalarB d = true
class Siz (P : Program) (t : TypeId) (k : outParam Nat) : Prop where
  h : ∃ i, P.info? t = some i ∧ i.size = k
class Byt (P : Program) (t : TypeId) (k : outParam Nat) : Prop where
  h : ∃ i, P.info? t = some i ∧ i.bytes = k
class Zer (P : Program) (t : TypeId) (z : outParam Value) : Prop where
  h : ∃ i, P.info? t = some i ∧ i.zero = some z
class Stc (P : Program) (t : TypeId) : Prop where
  h : ∃ fs, P.underlying t = some (.struct fs)
class Fo (P : Program) (t : TypeId) (i : Nat) (off : outParam Nat) (ft : outParam TypeId) : Prop where
  h : ∃ fs fl, P.underlying t = some (.struct fs) ∧ fs[i]? = some fl ∧ fl.offset = off ∧ fl.type = ft ∧ (P.cellsOf ft == 0) = false ∧ (P.info? ft).isSome = true
class IsStr (P : Program) (t : TypeId) : Prop where
  h : P.underlying t = some .string
class IsPtr (P : Program) (t : TypeId) (el : outParam TypeId) : Prop where
  h : P.underlying t = some (.pointer el)
class Fun (P : Program) (g : FuncId) : Prop where
  h : ∃ fn, P.funcs[g]? = some fn ∧ (fn.name == "runtime.NumGoroutine") = false ∧ fn.body.isSome = true

section
variable {P : Program} {e : Env} {w : World} {ty : TypeId} {v : Value}

theorem Sca.isAgg (P : Program) (t : TypeId) [hs : Sca P t] (w : World) : (Go.isAgg t).run P w = .ok false w := by
  obtain ⟨d, h, hd⟩ := hs.h
  unfold Go.isAgg
  rw [Sem.run_bind, run_underlying h]
  simp only [Result.andThen_ok]
  cases d <;> simp_all [scalarB]
theorem Stc.isAgg (P : Program) (t : TypeId) [hs : Stc P t] (w : World) : (Go.isAgg t).run P w = .ok true w := by
  obtain ⟨d, h⟩ := hs.h
  unfold Go.isAgg
  rw [Sem.run_bind, run_underlying h]
  simp
theorem Siz.run (P : Program) (t : TypeId) {k : Nat} [hs : Siz P t k] (w : World) : (sizeOf t).run P w = .ok k w := by
  obtain ⟨i, h, hk⟩ := hs.h
  simp [Go.sizeOf, typeInfo, h, hk]
theorem Zer.run (P : Program) (t : TypeId) {z : Value} [hs : Zer P t z] (w : World) : (zeroValue t).run P w = .ok z w := by
  obtain ⟨i, h, hk⟩ := hs.h
  simp [zeroValue, typeInfo, h, hk]

theorem y_move {x : Operand} (hx : e.ev x = some v) : Yld P (.move x) ty e w v := Yld.mk fun ρ hρ => by
  simp [xop, execOp, hρ x v hx]
theorem y_assign {x : Operand} (hx : e.ev x = some v) : Yld P (.assign x) ty e w v := Yld.mk fun ρ hρ => by
  simp [xop, execOp, hρ x v hx]
theorem y_pickT {c x y : Operand} (hc : e.ev c = some (.bool true)) (hx : e.ev x = some v) : Yld P (.pick c x y) ty e w v := Yld.mk fun ρ hρ => by
  simp [xop, execOp, hρ c _ hc, hρ x v hx, asBool]
theorem y_pickF {c x y : Operand} (hc : e.ev c = some (.bool false)) (hx : e.ev y = some v) : Yld P (.pick c x y) ty e w v := Yld.mk fun ρ hρ => by
  simp [xop, execOp, hρ c _ hc, hρ y v hx, asBool]
theorem y_load1 {t : TypeId} {x : Operand} {a : Addr} [Sca P t] (hx : e.ev x = some (.pointer (some a))) (hc : w.cell? a = some v) : Yld P (.load t x) ty e w v := Yld.mk fun ρ hρ => by
  have h1 := Sca.isAgg P t w
  simp [xop, execOp, hρ x _ hx, Instr.loadAt, Instr.sureAddr, loadVar, h1, load, Sem.run, hc]

/-- these cells stand from here on -/
def At (w : World) (b o : Nat) (cs : List Value) : Prop := ∀ j v, cs[j]? = some v → w.cell? ⟨b, o + j, none⟩ = some v
theorem addr_add (b o j : Nat) : (⟨b, o, none⟩ : Addr).add j = ⟨b, o + j, none⟩ := by
  unfold Addr.add; split <;> simp_all
theorem run_loadCellsFrom {b o : Nat} : ∀ (cs : List Value) (i : Nat) (acc : Array Value), (∀ j v, cs[j]? = some v → w.cell? ⟨b, o + (i + j), none⟩ = some v) →
    (loadCellsFrom ⟨b, o, none⟩ i cs.length acc).run P w = .ok (acc ++ cs.toArray) w
  | [], i, acc, _ => by simp [loadCellsFrom]
  | c :: cs, i, acc, h => by
    have h0 := h 0 c (by simp)
    have ih := run_loadCellsFrom cs (i + 1) (acc.push c) (fun j v hj => by have := h (j + 1) v (by simpa using hj); rwa [show i + 1 + j = i + (j + 1) by omega])
    simp only [Nat.add_zero] at h0
    simp only [List.length_cons, loadCellsFrom, Sem.run_bind, load, addr_add, Sem.run, h0, Result.andThen_ok]
    rw [ih]
    simp
theorem y_loadA {t : TypeId} {x : Operand} {b o : Nat} {cs : List Value} {k : Nat} [Stc P t] [Siz P t k] (hx : e.ev x = some (.pointer (some ⟨b, o, none⟩))) (hc : At w b o cs) (hk : cs.length = k) :
    Yld P (.load t x) ty e w (.agg cs.toArray) := Yld.mk fun ρ hρ => by
  have h1 := Stc.isAgg P t w
  have h2 := Siz.run P t (k := k) w
  have h3 := run_loadCellsFrom (P := P) (w := w) (b := b) (o := o) cs 0 #[] (by simpa [At] using hc)
  subst hk
  simp [xop, execOp, hρ x _ hx, Instr.loadAt, Instr.sureAddr, loadVar, h1, h2, loadCells, h3]
theorem y_loadF {t : TypeId} {x : Operand} {b o j : Nat} {cs : List Value} [Sca P t] (hx : e.ev x = some (.pointer (some ⟨b, o + j, none⟩))) (hc : At w b o cs) (hj : cs[j]? = some v) :
    Yld P (.load t x) ty e w v := y_load1 hx (hc j v hj)
theorem y_load0 {t : TypeId} {x : Operand} {b o : Nat} {cs : List Value} [Sca P t] (hx : e.ev x = some (.pointer (some ⟨b, o, none⟩))) (hc : At w b o cs) (hj : cs[0]? = some v) :
    Yld P (.load t x) ty e w v := y_load1 hx (hc 0 v hj)
theorem y_nilCheck {x : Operand} {a : Addr} (hx : e.ev x = some (.pointer (some a))) : Yld P (.nilCheck x) ty e w (.pointer (some a)) := Yld.mk fun ρ hρ => by
  simp [xop, execOp, hρ x _ hx]
theorem y_not {t : TypeId} {x : Operand} {b : Bool} (hx : e.ev x = some (.bool b)) : Yld P (.unOp .not t x) ty e w (.bool !b) := Yld.mk fun ρ hρ => by
  simp [xop, execOp, hρ x _ hx, Op.unary]
theorem y_notT {t : TypeId} {x : Operand} (hx : e.ev x = some (.bool true)) : Yld P (.unOp .not t x) ty e w (.bool false) := y_not hx
theorem y_notF {t : TypeId} {x : Operand} (hx : e.ev x = some (.bool false)) : Yld P (.unOp .not t x) ty e w (.bool true) := y_not hx

theorem int_beq (a b : Int) : (a == b) = decide (a = b) := by by_cases h : a = b <;> simp [h]
theorem int_bne (a b : Int) : (a != b) = decide (¬ a = b) := by by_cases h : a = b <;> simp [h, bne]
section ints
variable {t u : TypeId} {x y : Operand} {k : IntKind} {a b : Int}
theorem run_eqGuard_int (op : BinOp) (t : TypeId) (x y : Operand) (k k' : IntKind) (a b : Int) (w : World) : (eqGuard op t x y (.int k a) (.int k' b)).run P w = .ok () w := by
  unfold eqGuard
  split <;> simp
theorem y_cmp (op : BinOp) (c : Bool) (hx : e.ev x = some (.int k a)) (hy : e.ev y = some (.int k b)) (hc : Op.intCmp op a b = pure (.bool c)) (hop : op = .lss ∨ op = .leq ∨ op = .gtr ∨ op = .geq ∨ op = .eql ∨ op = .neq) :
    Yld P (.binOp op t x y u) ty e w (.bool c) := Yld.mk fun ρ hρ => by
  have hg := run_eqGuard_int (P := P) op t x y k k a b w
  rcases hop with rfl | rfl | rfl | rfl | rfl | rfl <;>
    simp [xop, execOp, hρ x _ hx, hρ y _ hy, hg, binOp, hc]
theorem y_lss (hx : e.ev x = some (.int k a)) (hy : e.ev y = some (.int k b)) : Yld P (.binOp .lss t x y u) ty e w (.bool (decide (a < b))) := y_cmp _ _ hx hy rfl (by simp)
theorem y_leq (hx : e.ev x = some (.int k a)) (hy : e.ev y = some (.int k b)) : Yld P (.binOp .leq t x y u) ty e w (.bool (decide (a ≤ b))) := y_cmp _ _ hx hy rfl (by simp)
theorem y_gtr (hx : e.ev x = some (.int k a)) (hy : e.ev y = some (.int k b)) : Yld P (.binOp .gtr t x y u) ty e w (.bool (decide (b < a))) := y_cmp _ _ hx hy rfl (by simp)
theorem y_geq (hx : e.ev x = some (.int k a)) (hy : e.ev y = some (.int k b)) : Yld P (.binOp .geq t x y u) ty e w (.bool (decide (b ≤ a))) := y_cmp _ _ hx hy rfl (by simp)
theorem y_eql (hx : e.ev x = some (.int k a)) (hy : e.ev y = some (.int k b)) : Yld P (.binOp .eql t x y u) ty e w (.bool (decide (a = b))) :=
  y_cmp _ _ hx hy (by simp only [Op.intCmp, int_beq]) (by simp)
theorem y_neq (hx : e.ev x = some (.int k a)) (hy : e.ev y = some (.int k b)) : Yld P (.binOp .neq t x y u) ty e w (.bool (decide (¬ a = b))) :=
  y_cmp _ _ hx hy (by simp only [Op.intCmp, int_bne]) (by simp)
theorem dT {p : Prop} [Decidable p] (h : p) {op : Op} (hy : Yld P op ty e w (.bool (decide p))) : Yld P op ty e w (.bool true) := by rw [decide_eq_true h] at hy; exact hy
theorem dF {p : Prop} [Decidable p] (h : ¬ p) {op : Op} (hy : Yld P op ty e w (.bool (decide p))) : Yld P op ty e w (.bool false) := by rw [decide_eq_false h] at hy; exact hy
theorem y_arith (op : BinOp) (c d : Int) (hx : e.ev x = some (.int k a)) (hy : e.ev y = some (.int k b)) (hc : Op.intArith op k a b = pure (.int k (k.wrap c))) (hcd : c = d) (hw : k.wrap d = d) (hop : op = .add ∨ op = .sub ∨ op = .mul) :
    Yld P (.binOp op t x y u) ty e w (.int k d) := Yld.mk fun ρ hρ => by
  subst hcd
  have hg := run_eqGuard_int (P := P) op t x y k k a b w
  rcases hop with rfl | rfl | rfl <;> simp [xop, execOp, hρ x _ hx, hρ y _ hy, hg, binOp, hc, hw]
theorem wrap_i64 {d : Int} (h1 : -9223372036854775808 ≤ d) (h2 : d ≤ 9223372036854775807) : IntKind.i64.wrap d = d := IntWalk.i64_in _ ⟨h1, h2⟩
theorem y_add {d : Int} (hx : e.ev x = some (.int .i64 a)) (hy : e.ev y = some (.int .i64 b)) (hd : a + b = d) (h1 : -9223372036854775808 ≤ d) (h2 : d ≤ 9223372036854775807) : Yld P (.binOp .add t x y u) ty e w (.int .i64 d) :=
  y_arith .add _ d hx hy rfl hd (wrap_i64 h1 h2) (by simp)
theorem y_sub {d : Int} (hx : e.ev x = some (.int .i64 a)) (hy : e.ev y = some (.int .i64 b)) (hd : a - b = d) (h1 : -9223372036854775808 ≤ d) (h2 : d ≤ 9223372036854775807) : Yld P (.binOp .sub t x y u) ty e w (.int .i64 d) :=
  y_arith .sub _ d hx hy rfl hd (wrap_i64 h1 h2) (by simp)
/-- a counter goes up by one -/
theorem y_inc {n : Nat} (hx : e.ev x = some (.int .i64 (n : Int))) (hy : e.ev y = some (.int .i64 1)) (h : n < 9223372036854775807) : Yld P (.binOp .add t x y u) ty e w (.int .i64 ((n + 1 : Nat) : Int)) :=
  y_add hx hy (by omega) (by omega) (by omega)
end ints

section strings
variable {t u : TypeId} {x y : Operand} {a b : ByteArray}
theorem toList_beq (a b : ByteArray) : (a.toList == b.toList) = decide (a = b) := by
  by_cases h : a = b
  · subst h; simp
  · have : a.toList ≠ b.toList := fun hh => h (by
      rw [ByteArray.toList_eq, ByteArray.toList_eq] at hh
      cases a; cases b
      congr
      exact Array.toList_inj.1 hh)
    simp [h, this]
theorem y_eqlS (hx : e.ev x = some (.string a)) (hy : e.ev y = some (.string b)) : Yld P (.binOp .eql t x y u) ty e w (.bool (decide (a = b))) := Yld.mk fun ρ hρ => by
  simp [xop, execOp, hρ x _ hx, hρ y _ hy, eqGuard, binOp, Op.stringOp, toList_beq]
theorem y_neqS (hx : e.ev x = some (.string a)) (hy : e.ev y = some (.string b)) : Yld P (.binOp .neq t x y u) ty e w (.bool (decide (¬ a = b))) := Yld.mk fun ρ hρ => by
  simp [xop, execOp, hρ x _ hx, hρ y _ hy, eqGuard, binOp, Op.stringOp, toList_beq]
theorem y_lenS {x : Operand} [IsStr P t] (hx : e.ev x = some (.string a)) : Yld P (.call { callee := .builtin .len, args := #[x], argTypes := #[t] }) ty e w (.int .i64 (a.size : Int)) := Yld.mk fun ρ hρ => by
  have h1 := run_underlying (IsStr.h (P := P) (t := t)) w
  simp [xop, execOp, hρ x _ hx, resolve, invoke, builtin, Builtin.len_, h1, goInt]
theorem y_indexS {i : Nat} {c : UInt8} [IsStr P t] (hx : e.ev x = some (.string a)) (hy : e.ev y = some (.int .i64 (i : Int))) (hc : a[i]? = some c) : Yld P (.index t x y) ty e w (.int .u8 (c.toNat : Int)) := Yld.mk fun ρ hρ => by
  have h1 := run_underlying (IsStr.h (P := P) (t := t)) w
  simp [xop, execOp, hρ x _ hx, hρ y _ hy, Instr.index, asIntOf, h1, hc]
end strings

section slices
variable {t el u : TypeId} {x y : Operand} {a : Option Addr} {n c : Nat}
theorem y_len [Sli P t el] (hx : e.ev x = some (.slice a n c)) : Yld P (.call { callee := .builtin .len, args := #[x], argTypes := #[t] }) ty e w (.int .i64 (n : Int)) := Yld.mk fun ρ hρ => by
  have h1 := run_underlying (Sli.h (P := P) (t := t) (el := el)) w
  simp [xop, execOp, hρ x _ hx, resolve, invoke, builtin, Builtin.len_, h1, goInt]
theorem y_indexAddr {b o i k : Nat} [Sli P t el] [Siz P el k] (hx : e.ev x = some (.slice (some ⟨b, o, none⟩) n c)) (hy : e.ev y = some (.int .i64 (i : Int))) (hi : i < n) :
    Yld P (.indexAddr t x y) ty e w (.pointer (some ⟨b, o + i * k, none⟩)) := Yld.mk fun ρ hρ => by
  have h1 := run_underlying (Sli.h (P := P) (t := t) (el := el)) w
  have h2 := Siz.run P el (k := k) w
  have h3 : (0 : Int) ≤ i ∧ (i : Int) < n := by omega
  simp [xop, execOp, hρ x _ hx, hρ y _ hy, Instr.indexAt, asIntOf, h1, h2, hi, addr_add]
/-- x[:i] -/
theorem y_sliceHi {i k : Nat} [Sli P t el] [Siz P el k] (hx : e.ev x = some (.slice a n c)) (hy : e.ev y = some (.int .i64 (i : Int))) (hi : i ≤ c) :
    Yld P (.slice t x none (some y) none) ty e w (.slice a i c) := Yld.mk fun ρ hρ => by
  have h1 := run_underlying (Sli.h (P := P) (t := t) (el := el)) w
  have h2 := Siz.run P el (k := k) w
  have h3 : (i : Int) ≤ c := by omega
  have ha : (a.map fun x => x.add 0) = a := by cases a <;> simp [Addr.add]
  simp [xop, execOp, hρ x _ hx, hρ y _ hy, Instr.sliceAt, Instr.slice, h1, h2, Instr.sliceBounds, Instr.sliceBound, asIntOf, ha]
  intro hh
  omega
end slices

theorem y_fieldAddr {t : TypeId} {x : Operand} {i off : Nat} {ft : TypeId} {b o : Nat} [hf : Fo P t i off ft] (hx : e.ev x = some (.pointer (some ⟨b, o, none⟩))) : Yld P (.fieldAddr t x i) ty e w (.pointer (some ⟨b, o + off, none⟩)) := Yld.mk fun ρ hρ => by
  obtain ⟨fs, fl, h1, h2, h3, h4, h5, h6⟩ := hf.h
  have h1' := run_underlying h1 w
  obtain ⟨inf, h7⟩ := Option.isSome_iff_exists.1 h6
  have h8 : inf.size ≠ 0 := by
    intro hz
    simp [Program.cellsOf, h7, hz] at h5
  simp [xop, execOp, hρ x _ hx, Instr.fieldAt, h1', h2, Instr.sureAddr, fieldPlace, h4, Go.sizeOf, typeInfo, h7, h8, h3, addr_add]
theorem y_makeFunc {g : FuncId} {caps : Array Operand} {cs : List Value} (hc : e.evs caps.toList = some cs) : Yld P (.makeFunc (.func g) #[] caps) ty e w (.func (.func g) #[] cs.toArray) := Yld.mk fun ρ hρ => by
  have h2 : caps.map ρ = cs.toArray := Array.toList_inj.1 (by simpa using hρ.evs hc)
  simp [xop, execOp, Instr.makeFunc, h2]
theorem y_extract {x : Operand} {vs : Array Value} {i : Nat} (hx : e.ev x = some (.tuple vs)) (hv : vs[i]? = some v) : Yld P (.extract x i) ty e w v := Yld.mk fun ρ hρ => by
  simp [xop, execOp, hρ x _ hx, Instr.extract, hv]

theorem c_static {g : FuncId} {args : Array Operand} {ts : Array TypeId} {vs : List Value} [hf : Fun P g] (ha : e.evs args.toList = some vs) :
    Ent P (.call { callee := .value (.func g), args := args, argTypes := ts }) ty e w g vs.toArray := Ent.mk fun ρ hρ => by
  obtain ⟨fn, h1, h2, h3⟩ := hf.h
  have h4 : args.map ρ = vs.toArray := Array.toList_inj.1 (by simpa using hρ.evs ha)
  have h5 := hρ (.func g) _ rfl
  obtain ⟨c, hb⟩ := Option.isSome_iff_exists.1 h3
  simp [xop, execOp, resolve, h4, h5, Deferred.ofValue, invoke, callFunc, program, Sem.run, h1, hb]
  simpa using h2
theorem c_closure {g : FuncId} {x : Operand} {args : Array Operand} {ts : Array TypeId} {vs : List Value} {caps : Array Value} [hf : Fun P g] (hx : e.ev x = some (.func (.func g) #[] caps)) (ha : e.evs args.toList = some vs) :
    Ent P (.call { callee := .value x, args := args, argTypes := ts }) ty e w g (vs.toArray ++ caps) := Ent.mk fun ρ hρ => by
  obtain ⟨fn, h1, h2, h3⟩ := hf.h
  have h4 : args.map ρ = vs.toArray := Array.toList_inj.1 (by simpa using hρ.evs ha)
  have h5 := hρ x _ hx
  obtain ⟨c, hb⟩ := Option.isSome_iff_exists.1 h3
  simp [xop, execOp, resolve, h4, h5, Deferred.ofValue, invoke, callFunc, program, Sem.run, h1, hb]
  simpa using h2

theorem e_box {t : TypeId} {x : Operand} (hx : e.ev x = some v) : Eff P (.box t x) ty e w (.pointer (some ⟨w.heap.size, 0, none⟩)) (w.alloc (.cells v.cells t)) := Eff.mk fun ρ hρ => by
  simp [xop, execOp, hρ x _ hx, Instr.box, newVar, newRow, newObj, Sem.run]
theorem e_alloc {t : TypeId} {z : Value} [Zer P t z] : Eff P (.alloc t) ty e w (.pointer (some ⟨w.heap.size, 0, none⟩)) (w.alloc (.cells z.cells t)) := Eff.mk fun ρ _ => by
  have h1 := Zer.run P t (z := z) w
  simp [xop, execOp, Instr.alloc, h1, newVar, newRow, newObj, Sem.run]
end
end Go.Proofs.Ytgckpmcdlciibab

namespace Go.Proofs.Ytgckpmcdlciibab
open Go.RowKit
section
variable {P : Program} {f : FuncId} {N : Nat} {k : List Item} {e : Env} {w : World} {R : Ending → World → Prop}
variable {ops : Array Oper} {S : World → Prop} {fuel : Nat} {listed : Array Bool} {K : Act → World → Prop}
/-- whatever order is picked from here on; S holds behind every operation -/
def RO (P : Program) (f : FuncId) (N : Nat) (ops : Array Oper) (S : World → Prop) (fuel : Nat) (listed : Array Bool) (K : Act → World → Prop) (e : Env) (w : World) (R : Ending → World → Prop) : Prop :=
  ∀ tm, Env.Ok N e tm → wpAnyH P .any ops (QX P f K R) S fuel listed ⟨tm, []⟩ w
/-- what comes behind one operation of such a region -/
def OK (P : Program) (f : FuncId) (_N : Nat) (ops : Array Oper) (S : World → Prop) (fuel : Nat) (listed : Array Bool) (K : Act → World → Prop) (R : Ending → World → Prop) (a : Act) (w : World) : Prop :=
  S w ∧ wpAnyH P .any ops (QX P f K R) S fuel listed a w
theorem QX.put (c : List PanicEntry) (d : Option Tmp) (v : Value) (a : Act) (w : World) (h : QX P f K R (.panic c) (a.put d v) w) : QX P f K R (.panic c) a w := by
  obtain ⟨h1, h2, h3⟩ := h
  exact ⟨by cases d <;> exact h1, h2, h3⟩
theorem RO.take {i d : Nat} {op : Op} {ty : TypeId} {ps : String} {af : Array Edge} {g : Option (Nat × Bool)} {v : Value}
    (hi : ops[i]? = some { dst := some d, op := op, type := ty, pos := ps, after := af, guard := g }) (hs : Region.noSelect ops = true) (hf : Region.free .any ops listed i = true) (hr : (Region.ready .any ops listed).contains i = true)
    (hS : S w) (hw : Wants ops e g) (hd : Nat.blt d N = true) (hy : ∀ w, S w → Yld P op ty e w v) (h : RO P f N ops S fuel (listed.setIfInBounds i true) K ((d, v) :: e) w R) : RO P f N ops S (fuel + 1) listed K e w R := fun tm hok =>
  wpAnyH_take hi hs hf hr (fun c a w => QX.put c _ _ a w) (.inl ⟨Wants.wanted (o := { dst := some d, op := op, type := ty, pos := ps, after := af, guard := g }) hw hok, fun w hw => by rw [execOp_eq]; exact (hy w hw).out _ (hok.sees [])⟩) hS (h _ (hok.put hd v))
theorem upon_QX {o : Oper} {a : Act} {K' K2 : Act → World → Prop} {next next' : Act → World → Prop} (hn : ∀ a w, next a w → next' a w) {r : Result Next} (h : o.upon P a next (QX P f K' R) r) : o.upon P a next' (QX P f K2 R) r := by
  cases r with
  | ok n w' =>
    cases n <;> simp only [Oper.upon] at h ⊢ <;> first
      | exact hn _ _ h
      | exact Calls.mono h (fun e w'' he => by cases e <;> first | exact hn _ _ he | exact he)
      | exact Rows.mono h (fun _ _ he => hn _ _ he)
  | halt x w' => cases x <;> simp only [Oper.upon] at h ⊢ <;> exact h
theorem RO.each {is : List Nat} (hr : Region.ready .any ops listed = is) (hne : is ≠ []) (h : ∀ i ∈ is, ∃ o, ops[i]? = some o ∧ RL P f N ops [o] (OK P f N ops S fuel (listed.setIfInBounds i true) K R) e w R) : RO P f N ops S (fuel + 1) listed K e w R := fun tm hok =>
  wpAnyH_all hr hne fun i hi => by
    obtain ⟨o, ho, hl⟩ := h i hi
    have h1 := hl.out tm hok
    unfold wpList at h1
    unfold wpOp
    rw [ho]
    simp only
    split
    · rename_i hw
      rw [if_pos hw] at h1
      refine h1.imp (fun h1 => ?_) (fun h1 => h1)
      exact upon_QX (fun a w h => h.2) h1
    · rename_i hw
      rw [if_neg hw] at h1
      exact h1.2
/-- one operation alone may come up -/
theorem RO.one (i : Nat) {o : Oper} (h : RL P f N ops [o] (OK P f N ops S fuel (listed.setIfInBounds i true) K R) e w R) (hr : Region.ready .any ops listed = [i] := by kernel_rfl) (ho : ops[i]? = some o := by rfl) : RO P f N ops S (fuel + 1) listed K e w R :=
  RO.each hr (by simp) fun j hj => by simp only [List.mem_singleton] at hj; subst hj; exact ⟨o, ho, h⟩
theorem RL.ord (hS : S w) (h : RO P f N ops S fuel listed K e w R) : RL P f N ops [] (OK P f N ops S fuel listed K R) e w R := RL.nilK fun tm hok => ⟨hS, h tm hok⟩
theorem RO.done (h : RL P f N ops [] K e w R) (hr : Region.ready .any ops listed = [] := by kernel_rfl) : RO P f N ops S fuel listed K e w R := fun tm hok =>
  wpAnyH_done hr (h.out tm hok) fuel
end
attribute [irreducible] RO
end Go.Proofs.Ytgckpmcdlciibab
