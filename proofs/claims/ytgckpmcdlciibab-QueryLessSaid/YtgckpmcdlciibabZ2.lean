/- Several texts in one: Functions that defer, and panics that pass through. Functions that have deferred: regions that draw, returns, and one-line walks. -/
import Derived.Test.YtgckpmcdlciibabZA
import Derived.Recover
namespace Go.Proofs.Ytgckpmcdlciibab
open Go.RowKit
section
variable {P : Program} {f : FuncId} {N : Nat} {k : List Item} {K : Act → World → Prop} {e : Env} {w : World} {R : Ending → World → Prop}
variable {ops : Array Oper} {rest : List Oper} {d : Nat} {op : Op} {ty : TypeId} {ps : String} {af : Array Edge} {g : Option (Nat × Bool)} {v : Value} {fn : Func} {D : List Deferred}
/-- a call that may panic: the panic passes through -/
theorem RL.callP {c : FuncId} {args : Array Value} {R' : Ending → World → Prop} (hf : P.funcs[f]? = some fn) (hw : Wants ops e g) (hd : Nat.blt d N = true) (hy : Ent P op ty e w c args) (hc : Calls P c args w R')
    (h : ∀ en w', R' en w' → (∃ v, en = .returned v ∧ RL P f N ops rest K ((d, v) :: e) w' R) ∨ ∃ ch, en = .panicked ch ∧ R (.panicked ch) w') :
    RL P f N ops ({ dst := some d, op := op, type := ty, pos := ps, after := af, guard := g } :: rest) K e w R := by
  unfold RL
  intro tm hok
  unfold Ent at hy
  have hy' := hy _ (hok.sees [])
  unfold wpList
  rw [if_pos (Wants.wanted (o := { dst := some d, op := op, type := ty, pos := ps, after := af, guard := g }) hw hok)]
  refine .inl ?_
  unfold Oper.wp
  rw [execOp_eq, hy', Oper.upon_enter]
  refine hc.mono fun en w' hr => ?_
  rcases h en w' hr with ⟨v, rfl, hk⟩ | ⟨ch, rfl, hk⟩
  · exact hk.out _ (hok.put hd v)
  · exact ⟨rfl, ⟨fn, hf⟩, hk⟩
/-- an operation that panics -/
theorem RL.pan {dd : Option Nat} {pv : Value} (hf : P.funcs[f]? = some fn) (hw : Wants ops e g) (hy : ∀ ρ, e.Sees ρ → (xop ρ op ty).run P w = .halt (.panic pv) w) (h : R (.panicked [{ v := pv, recovered := false }]) w) :
    RL P f N ops ({ dst := dd, op := op, type := ty, pos := ps, after := af, guard := g } :: rest) K e w R := by
  unfold RL
  intro tm hok
  have hy' := hy _ (hok.sees [])
  unfold wpList
  rw [if_pos (Wants.wanted (o := { dst := dd, op := op, type := ty, pos := ps, after := af, guard := g }) hw hok)]
  refine .inl ?_
  unfold Oper.wp
  rw [execOp_eq, hy']
  exact ⟨rfl, ⟨fn, hf⟩, h⟩

/-- A function that has deferred D: its todo list -/
def SimD (P : Program) (f : FuncId) (N : Nat) (D : List Deferred) (k : List Item) (e : Env) (w : World) (R : Ending → World → Prop) : Prop :=
  ∀ tm, Env.Ok N e tm → SimA P f k ⟨tm, D⟩ w R
def QXD (P : Program) (fn : Func) (K : Act → World → Prop) (R : Ending → World → Prop) : Exit → Act → World → Prop
  | .normal, a, w => K a w
  | .panic chain, a, w => Leaves P fn a.tmps R a.defers (.panicking chain) w
  | .outgrown, _, w => R .outgrown w
  | _, _, _ => False
def RLD (P : Program) (N : Nat) (fn : Func) (D : List Deferred) (ops : Array Oper) (l : List Oper) (K : Act → World → Prop) (e : Env) (w : World) (R : Ending → World → Prop) : Prop :=
  ∀ tm, Env.Ok N e tm → wpList P ops (QXD P fn K R) l ⟨tm, D⟩ w
theorem SimA.of_wpD (hf : P.funcs[f]? = some fn) {c : Code} {a : Act} (h : c.wp P (QXD P fn (SK P f k R) R) a w) : SimA P f (.code c :: k) a w R := by
  intro cs
  obtain ⟨e, a', w', hq, harr⟩ := h (fb f) k cs
  cases e with
  | normal =>
    obtain ⟨en, w₂, fr, hR, hc, hfn, hl⟩ := hq cs
    exact ⟨en, w₂, fr, hR, hc.of_steps harr, hfn, hl⟩
  | ret => exact hq.elim
  | panic chain =>
    obtain ⟨todo, hs₀⟩ := harr
    obtain ⟨e', w'', fr', hR, hs, hfn, hl⟩ := leaves_steps a'.defers (.panicking chain) w' { (fb f).at a' todo with mode := .panicking chain } cs rfl rfl rfl hf rfl hq
    exact ⟨e', w'', fr', hR, Comes.of_steps hs₀ hs, hfn, hl⟩
  | exit id => exact hq.elim
  | goto l => exact hq.elim
  | outgrown => exact ⟨.outgrown, w', fb f, hq, harr.resolve_left (by simp [fb]), rfl, trivial⟩
theorem Sim.toD (h : SimD P f N [] k e w R) : Sim P f N k e w R := Sim.mk h
theorem SimD.of_step {k k' : List Item} (hs : ∀ a cs, step P (lone ((fb f).at a k) cs w) = .next (lone ((fb f).at a k') cs w)) (h : SimD P f N D k' e w R) : SimD P f N D k e w R :=
  fun tm hok => SimA.of_step (hs _) (h tm hok)
theorem SimD.seq {x y : Code} (h : SimD P f N D (.code x :: .code y :: k) e w R) : SimD P f N D (.code (.seq x y) :: k) e w R := SimD.of_step (fun _ _ => step_seq) h
theorem SimD.skip (h : SimD P f N D k e w R) : SimD P f N D (.code .skip :: k) e w R := SimD.of_step (fun _ _ => step_skip) h
theorem SimD.condT {c : Operand} {x y : Code} (hc : e.ev c = some (.bool true)) (h : SimD P f N D (.code x :: k) e w R) : SimD P f N D (.code (.cond c x y) :: k) e w R :=
  fun tm hok => SimA.of_step (fun _ => step_cond (t := true) (hok.ev hc)) (h tm hok)
theorem SimD.condF {c : Operand} {x y : Code} (hc : e.ev c = some (.bool false)) (h : SimD P f N D (.code y :: k) e w R) : SimD P f N D (.code (.cond c x y) :: k) e w R :=
  fun tm hok => SimA.of_step (fun _ => step_cond (t := false) (hok.ev hc)) (h tm hok)
theorem SimD.region (hf : P.funcs[f]? = some fn) {id : Nat} {l : List Oper} (h : RLD P N fn D l.toArray l (SK P f k R) e w R) : SimD P f N D (.code (.region id l.toArray false) :: k) e w R :=
  fun tm hok => SimA.of_wpD hf (wp_region_lit (h tm hok))
theorem SimD.ret (hf : P.funcs[f]? = some fn) (h : ∀ tm, Env.Ok N e tm → Leaves P fn tm R D .returning w) : SimD P f N D (.code .ret :: k) e w R := fun tm hok cs =>
  let ⟨e', w'', fr', hR, hs, hfn, hl⟩ := leaves_steps D .returning w { (fb f).at ⟨tm, D⟩ (.code .ret :: k) with mode := .returning } cs rfl rfl rfl hf rfl (h tm hok)
  ⟨e', w'', fr', hR, Comes.of_steps (.one step_ret) hs, hfn, hl⟩
theorem RLD.nil (h : SimD P f N D k e w R) : RLD P N fn D ops [] (SK P f k R) e w R := fun tm hok => wpList_nil (Q := QXD P fn (SK P f k R) R) (h tm hok)
theorem RLD.eff {w' : World} (hw : Wants ops e g) (hd : Nat.blt d N = true) (hy : Eff P op ty e w v w') (h : RLD P N fn D ops rest K ((d, v) :: e) w' R) :
    RLD P N fn D ops ({ dst := some d, op := op, type := ty, pos := ps, after := af, guard := g } :: rest) K e w R := fun tm hok => by
  have hy' := hy.out _ (hok.sees D)
  unfold wpList
  rw [if_pos (Wants.wanted (o := { dst := some d, op := op, type := ty, pos := ps, after := af, guard := g }) hw hok)]
  refine .inl ?_
  unfold Oper.wp
  rw [execOp_eq, hy', Oper.upon_value]
  exact h _ (hok.put hd v)
theorem RLD.val (hw : Wants ops e g) (hd : Nat.blt d N = true) (hy : Yld P op ty e w v) (h : RLD P N fn D ops rest K ((d, v) :: e) w R) :
    RLD P N fn D ops ({ dst := some d, op := op, type := ty, pos := ps, after := af, guard := g } :: rest) K e w R := RLD.eff hw hd (Eff.mk hy.out) h
theorem RLD.sto {w' : World} (hw : Wants ops e g) (hy : Sto P op ty e w w') (h : RLD P N fn D ops rest K e w' R) :
    RLD P N fn D ops ({ dst := none, op := op, type := ty, pos := ps, after := af, guard := g } :: rest) K e w R := fun tm hok => by
  unfold Sto at hy
  have hy' := hy _ (hok.sees D)
  unfold wpList
  rw [if_pos (Wants.wanted (o := { dst := none, op := op, type := ty, pos := ps, after := af, guard := g }) hw hok)]
  refine .inl ?_
  unfold Oper.wp
  rw [execOp_eq, hy', Oper.upon_skip]
  exact h _ hok
theorem RLD.defer {dd : Deferred} (hw : Wants ops e g) (hy : ∀ ρ, e.Sees ρ → (xop ρ op ty).run P w = .ok (.defer dd) w) (h : RLD P N fn (dd :: D) ops rest K e w R) :
    RLD P N fn D ops ({ dst := none, op := op, type := ty, pos := ps, after := af, guard := g } :: rest) K e w R := fun tm hok => by
  have hy' := hy _ (hok.sees D)
  unfold wpList
  rw [if_pos (Wants.wanted (o := { dst := none, op := op, type := ty, pos := ps, after := af, guard := g }) hw hok)]
  refine .inl ?_
  unfold Oper.wp
  rw [execOp_eq, hy', Oper.upon_defer]
  exact h _ hok
theorem RLD.callP {c : FuncId} {args : Array Value} {R' : Ending → World → Prop} (hw : Wants ops e g) (hd : Nat.blt d N = true) (hy : Ent P op ty e w c args) (hc : Calls P c args w R')
    (h : ∀ en w', R' en w' → (∃ v, en = .returned v ∧ RLD P N fn D ops rest K ((d, v) :: e) w' R) ∨ ∃ ch, en = .panicked ch ∧ ∀ tm, Env.Ok N e tm → Leaves P fn tm R D (.panicking ch) w') :
    RLD P N fn D ops ({ dst := some d, op := op, type := ty, pos := ps, after := af, guard := g } :: rest) K e w R := fun tm hok => by
  unfold Ent at hy
  have hy' := hy _ (hok.sees D)
  unfold wpList
  rw [if_pos (Wants.wanted (o := { dst := some d, op := op, type := ty, pos := ps, after := af, guard := g }) hw hok)]
  refine .inl ?_
  unfold Oper.wp
  rw [execOp_eq, hy', Oper.upon_enter]
  refine hc.mono fun en w' hr => ?_
  rcases h en w' hr with ⟨v, rfl, hk⟩ | ⟨ch, rfl, hk⟩
  · exact hk _ (hok.put hd v)
  · exact hk _ hok
end
attribute [irreducible] SimD RLD
end Go.Proofs.Ytgckpmcdlciibab


namespace Go.Proofs.Ytgckpmcdlciibab
open Go.RowKit
section
variable {P : Program} {f : FuncId} {N : Nat} {k : List Item} {K : Act → World → Prop} {e : Env} {w : World} {R : Ending → World → Prop}
variable {ops : Array Oper} {rest : List Oper} {d : Nat} {op : Op} {ty : TypeId} {ps : String} {af : Array Edge} {g : Option (Nat × Bool)} {v : Value} {fn : Func} {D : List Deferred}
variable {S : World → Prop} {fuel : Nat} {listed : Array Bool}
def QN (K : Act → World → Prop) (R : Ending → World → Prop) : Exit → Act → World → Prop
  | .normal, a, w => K a w
  | .outgrown, _, w => R .outgrown w
  | _, _, _ => False
/-- a region that draws its order, in a function that has deferred; no operation of it panics -/
def ROD (P : Program) (N : Nat) (D : List Deferred) (ops : Array Oper) (S : World → Prop) (fuel : Nat) (listed : Array Bool) (K : Act → World → Prop) (e : Env) (w : World) (R : Ending → World → Prop) : Prop :=
  ∀ tm, Env.Ok N e tm → wpAnyH P .any ops (QN K R) S fuel listed ⟨tm, D⟩ w
theorem SimD.mk (h : ∀ tm, Env.Ok N e tm → SimA P f k ⟨tm, D⟩ w R) : SimD P f N D k e w R := by unfold SimD; exact h
theorem SimD.out (h : SimD P f N D k e w R) : ∀ tm, Env.Ok N e tm → SimA P f k ⟨tm, D⟩ w R := by unfold SimD at h; exact h
theorem SimD.ord {id n : Nat} {l : List Oper} (S : World → Prop) (hf : P.funcs[f]? = some fn) (h : ROD P N D l.toArray S n (Array.replicate n false) (SK P f k R) e w.drew R) (hm : P.follows .mixedOrders = true) (hn : l.toArray.size = n := by rfl) : SimD P f N D (.code (.region id l.toArray true) :: k) e w R := by
  refine SimD.mk fun tm hok => SimA.of_wpD hf ?_
  have h1 := h tm hok
  rw [← hn] at h1
  refine wp_mono (Q := QN (SK P f k R) R) (wp_region_held hm h1) fun e a w hq => ?_
  cases e <;> first | exact hq | exact hq.elim
theorem ROD.take {i d : Nat} {op : Op} {ty : TypeId} {ps : String} {af : Array Edge} {g : Option (Nat × Bool)} {v : Value}
    (hi : ops[i]? = some { dst := some d, op := op, type := ty, pos := ps, after := af, guard := g }) (hs : Region.noSelect ops = true) (hf : Region.free .any ops listed i = true) (hr : (Region.ready .any ops listed).contains i = true)
    (hS : S w) (hw : Wants ops e g) (hd : Nat.blt d N = true) (hy : ∀ w, S w → Yld P op ty e w v) (h : ROD P N D ops S fuel (listed.setIfInBounds i true) K ((d, v) :: e) w R) : ROD P N D ops S (fuel + 1) listed K e w R := fun tm hok =>
  wpAnyH_take hi hs hf hr (fun c a w h => h.elim) (.inl ⟨Wants.wanted (o := { dst := some d, op := op, type := ty, pos := ps, after := af, guard := g }) hw hok, fun w hw => by rw [execOp_eq]; exact (hy w hw).out _ (hok.sees D)⟩) hS (h _ (hok.put hd v))
theorem ROD.each {is : List Nat} (hr : Region.ready .any ops listed = is) (hne : is ≠ []) (h : ∀ i ∈ is, ∀ tm, Env.Ok N e tm → wpOp P ops (QN K R) i (fun a' w' => S w' ∧ wpAnyH P .any ops (QN K R) S fuel (listed.setIfInBounds i true) a' w') ⟨tm, D⟩ w) : ROD P N D ops S (fuel + 1) listed K e w R := fun tm hok =>
  wpAnyH_all hr hne fun i hi => h i hi tm hok
theorem ROD.sto1 {i : Nat} {w' : World} {op : Op} {ty : TypeId} {ps : String} {af : Array Edge} {g : Option (Nat × Bool)} (hi : ops[i]? = some { dst := none, op := op, type := ty, pos := ps, after := af, guard := g }) (hw : Wants ops e g) (hy : Sto P op ty e w w') (hS : S w')
    (h : ROD P N D ops S fuel (listed.setIfInBounds i true) K e w' R) : ∀ tm, Env.Ok N e tm → wpOp P ops (QN K R) i (fun a' w' => S w' ∧ wpAnyH P .any ops (QN K R) S fuel (listed.setIfInBounds i true) a' w') ⟨tm, D⟩ w := fun tm hok => by
  unfold Sto at hy
  have hy' := hy _ (hok.sees D)
  unfold wpOp
  rw [hi]
  simp only
  rw [if_pos (Wants.wanted (o := { dst := none, op := op, type := ty, pos := ps, after := af, guard := g }) hw hok)]
  refine .inl ?_
  unfold Oper.wp
  rw [execOp_eq, hy', Oper.upon_skip]
  exact ⟨hS, h tm hok⟩
theorem ROD.end (h : SimD P f N D k e w R) (hr : Region.ready .any ops listed = [] := by kernel_rfl) : ROD P N D ops S fuel listed (SK P f k R) e w R := fun tm hok =>
  wpAnyH_done hr (h.out tm hok) fuel
/-- a piece of code of a function that is entered deferred -/
def SimW (P : Program) (N : Nat) (c : Code) (Q : Act → World → Prop) (e : Env) (w : World) : Prop := ∀ tm, Env.Ok N e tm → c.wp P (QN Q fun _ _ => False) ⟨tm, []⟩ w
def WK (P : Program) (c : Code) (Q : Act → World → Prop) (a : Act) (w : World) : Prop := c.wp P (QN Q fun _ _ => False) a w
theorem SimW.seq {x y : Code} {Q : Act → World → Prop} (h : SimW P N x (WK P y Q) e w) : SimW P N (.seq x y) Q e w := fun tm hok => by
  refine wp_seq (wp_mono (h tm hok) fun ex a w hq => ?_)
  cases ex <;> exact hq
theorem SimW.reg {id : Nat} {l : List Oper} {Q : Act → World → Prop} (f : FuncId) (h : RL P f N l.toArray l Q e w fun _ _ => False) : SimW P N (.region id l.toArray false) Q e w := fun tm hok =>
  wp_mono (wp_region_lit (Q := QX P f Q fun _ _ => False) (h.out tm hok)) fun ex a w hq => by
    cases ex <;> first
      | exact hq.2
      | exact hq.2.2
      | exact hq
theorem RL.wnil {c : Code} {Q : Act → World → Prop} (h : SimW P N c Q e w) : RL P f N ops [] (WK P c Q) e w R := RL.nilK fun tm hok => h tm hok
theorem RL.wend {Q : Act → World → Prop} (h : ∀ tm, Env.Ok N e tm → Q ⟨tm, []⟩ w) : RL P f N ops [] Q e w R := RL.nilK h
theorem SimW.ordR {id n : Nat} {l : List Oper} {Q : Act → World → Prop} (f : FuncId) (S : World → Prop) (h : RO P f N l.toArray S n (Array.replicate n false) Q e w.drew fun _ _ => False) (hm : P.follows .mixedOrders = true) (hn : l.toArray.size = n := by rfl) : SimW P N (.region id l.toArray true) Q e w := fun tm hok => by
  unfold RO at h
  have h1 := h tm hok
  rw [← hn] at h1
  exact wp_mono (wp_region_held (Q := QX P f Q fun _ _ => False) hm h1) fun ex a w hq => by
    cases ex <;> first
      | exact hq.2
      | exact hq.2.2
      | exact hq
theorem SimW.condT {c : Operand} {x y : Code} {Q : Act → World → Prop} (hc : e.ev c = some (.bool true)) (h : SimW P N x Q e w) : SimW P N (.cond c x y) Q e w := fun tm hok => wp_cond_true (hok.ev hc) (h tm hok)
theorem SimW.condF {c : Operand} {x y : Code} {Q : Act → World → Prop} (hc : e.ev c = some (.bool false)) (h : SimW P N y Q e w) : SimW P N (.cond c x y) Q e w := fun tm hok => wp_cond_false (hok.ev hc) (h tm hok)
theorem SimW.block {id : Nat} {c : Code} {Q : Act → World → Prop} (h : SimW P N c Q e w) : SimW P N (.block id c) Q e w := fun tm hok => by
  refine wp_block (wp_mono (h tm hok) fun ex a w hq => ?_)
  cases ex <;> first | exact hq | exact hq.elim
/-- a deferred function that recovers: of a frame that panics -/
theorem callsD_rec {d id : Nat} {ty : TypeId} {ps : String} {c : Code} {args : Array Value} {pv : Value} {R : Ending → FrameMode → World → Prop} (hf : P.funcs[f]? = some fn)
    (hb : fn.body = some (.seq (.region id #[{ dst := some d, op := .call { callee := .builtin .recover, args := #[], argTypes := #[] }, type := ty, pos := ps, after := #[], guard := none }] false) c)) (hn : args.size ≤ fn.ntmps) (hd : Nat.blt d fn.ntmps = true) (hres : fn.results = #[])
    (h : SimW P fn.ntmps c (fun a w' => a.defers = [] ∧ R (.returned (.tuple #[])) (.panicking [{ v := pv, recovered := true }]) w') ((d, pv) :: Env.ofArgs 0 args.toList) w) :
    CallsD P f args (.panicking [{ v := pv, recovered := false }]) w R := by
  refine callsD_of_wpS hf hb fun c₀ cs hu => ?_
  apply wpS_seq
  apply wpS_region
  have hok := Env.Ok.ofArgs args fn.ntmps hn
  have hok2 := hok.put hd pv
  have hrec : recoverD (c₀ :: cs) = some (pv, { c₀ with mode := .panicking [{ v := pv, recovered := true }] } :: cs) := by
    simp [recoverD, hu]
  show wpOpsS P _ _ [0] _ _ _
  unfold wpOpsS
  simp only [List.getElem?_toArray, List.getElem?_cons_zero]
  rw [if_pos (by rfl)]
  have hx : ∀ ρ : Operand → Value, (execOp ρ { dst := some d, op := .call { callee := .builtin .recover, args := #[], argTypes := #[] }, type := ty, pos := ps, after := #[], guard := none }).run P w = .ok .recover w := fun ρ => rfl
  rw [hx]
  simp only [hrec]
  show Code.wpS P c _ _ _ _
  refine wpS_of_wp (wp_mono (h _ hok2) fun ex a w' hq => ?_)
  cases ex <;> first
    | exact hq.elim
    | exact ⟨hq.1, _, rfl, _, results_none hres _ _ _, hq.2⟩
/-- .. of a frame that returns -/
theorem callsD_idle {d id : Nat} {ty : TypeId} {ps : String} {c : Code} {args : Array Value} {R : Ending → FrameMode → World → Prop} (hf : P.funcs[f]? = some fn)
    (hb : fn.body = some (.seq (.region id #[{ dst := some d, op := .call { callee := .builtin .recover, args := #[], argTypes := #[] }, type := ty, pos := ps, after := #[], guard := none }] false) c)) (hn : args.size ≤ fn.ntmps) (hd : Nat.blt d fn.ntmps = true) (hres : fn.results = #[])
    (h : SimW P fn.ntmps c (fun a w' => a.defers = [] ∧ R (.returned (.tuple #[])) .returning w') ((d, .nilIface) :: Env.ofArgs 0 args.toList) w) :
    CallsD P f args .returning w R := by
  refine callsD_of_wpS hf hb fun c₀ cs hu => ?_
  apply wpS_seq
  apply wpS_region
  have hok := Env.Ok.ofArgs args fn.ntmps hn
  have hok2 := hok.put hd .nilIface
  have hrec : recoverD (c₀ :: cs) = none := by
    simp [recoverD, hu]
  show wpOpsS P _ _ [0] _ _ _
  unfold wpOpsS
  simp only [List.getElem?_toArray, List.getElem?_cons_zero]
  rw [if_pos (by rfl)]
  have hx : ∀ ρ : Operand → Value, (execOp ρ { dst := some d, op := .call { callee := .builtin .recover, args := #[], argTypes := #[] }, type := ty, pos := ps, after := #[], guard := none }).run P w = .ok .recover w := fun ρ => rfl
  rw [hx]
  simp only [hrec]
  show Code.wpS P c _ _ _ _
  refine wpS_of_wp (wp_mono (h _ hok2) fun ex a w' hq => ?_)
  cases ex <;> first
    | exact hq.elim
    | exact ⟨hq.1, _, (by cases c₀; simp only at hu; subst hu; rfl), _, results_none hres _ _ _, hq.2⟩
end
end Go.Proofs.Ytgckpmcdlciibab
