/- Regions that draw their order, and write or call: one operation at a time, whichever may come up. -/
import Derived.Test.YtgckpmcdlciibaaEng1
namespace Go.Proofs.Ytgckpmcdlciibaa
open Go.RowKit
section
variable {P : Program} {f : FuncId} {N : Nat} {k : List Item} {e : Env} {w : World} {R : Ending → World → Prop}
variable {ops : Array Oper} {S : World → Prop} {fuel : Nat} {listed : Array Bool} {K : Act → World → Prop}
/-- whatever order is picked from here on; S holds behind every operation -/
def RO (P : Program) (f : FuncId) (N : Nat) (ops : Array Oper) (S : World → Prop) (fuel : Nat) (listed : Array Bool) (K : Act → World → Prop) (e : Env) (w : World) (R : Ending → World → Prop) : Prop :=
  ∀ tm, Env.Ok N e tm → wpAnyH P .any ops (QX P f K R) S fuel listed ⟨tm, []⟩ w
/-- what comes behind one operation of such a region -/
def OK (P : Program) (f : FuncId) (N : Nat) (ops : Array Oper) (S : World → Prop) (fuel : Nat) (listed : Array Bool) (K : Act → World → Prop) (R : Ending → World → Prop) (a : Act) (w : World) : Prop :=
  S w ∧ wpAnyH P .any ops (QX P f K R) S fuel listed a w
theorem Sim.ordered {id : Nat} {l : List Oper} (S : World → Prop) (hm : P.follows .mixedOrders = true) (h : RO P f N l.toArray S l.toArray.size (Array.replicate l.toArray.size false) (SK P f k R) e w.drew R) : Sim P f N (.code (.region id l.toArray true) :: k) e w R :=
  Sim.mk fun tm hok => SimA.of_wp (wp_region_held hm (h tm hok))
theorem QX.put (c : List PanicEntry) (d : Option Tmp) (v : Value) (a : Act) (w : World) (h : QX P f K R (.panic c) (a.put d v) w) : QX P f K R (.panic c) a w := by
  obtain ⟨h1, h2, h3⟩ := h
  exact ⟨by cases d <;> exact h1, h2, h3⟩
theorem RO.take {i d : Nat} {op : Op} {ty : TypeId} {ps : String} {af : Array Edge} {g : Option (Nat × Bool)} {v : Value}
    (hi : ops[i]? = some { dst := some d, op := op, type := ty, pos := ps, after := af, guard := g }) (hs : Region.noSelect ops = true) (hf : Region.free .any ops listed i = true) (hr : (Region.ready .any ops listed).contains i = true)
    (hS : S w) (hw : Wants ops e g) (hd : Nat.blt d N = true) (hy : ∀ w, S w → Yld P op ty e w v) (h : RO P f N ops S fuel (listed.setIfInBounds i true) K ((d, v) :: e) w R) : RO P f N ops S (fuel + 1) listed K e w R := fun tm hok =>
  wpAnyH_take hi hs hf hr (fun c a w => QX.put c _ _ a w) (.inl ⟨Wants.wanted (o := { dst := some d, op := op, type := ty, pos := ps, after := af, guard := g }) hw hok, fun w hw => by rw [execOp_eq]; exact (hy w hw).out _ (hok.sees [])⟩) hS (h _ (hok.put hd v))
theorem RO.pass {i d : Nat} {op : Op} {ty : TypeId} {ps : String} {af : Array Edge} {g : Option (Nat × Bool)}
    (hi : ops[i]? = some { dst := some d, op := op, type := ty, pos := ps, after := af, guard := g }) (hs : Region.noSelect ops = true) (hf : Region.free .any ops listed i = true) (hr : (Region.ready .any ops listed).contains i = true)
    (hS : S w) (hw : Spurns ops e g) (hd : Nat.blt d N = true) (h : RO P f N ops S fuel (listed.setIfInBounds i true) K ((d, undef) :: e) w R) : RO P f N ops S (fuel + 1) listed K e w R := fun tm hok =>
  wpAnyH_take hi hs hf hr (fun c a w => QX.put c _ _ a w) (.inr ⟨Spurns.wanted (o := { dst := some d, op := op, type := ty, pos := ps, after := af, guard := g }) hw hok, rfl⟩) hS (h _ (hok.put hd _))
theorem upon_QX {o : Oper} {a : Act} {K' K2 : Act → World → Prop} {next next' : Act → World → Prop} (hn : ∀ a w, next a w → next' a w) {r : Result Next} (h : o.upon P a next (QX P f K' R) r) : o.upon P a next' (QX P f K2 R) r := by
  cases r with
  | ok n w' =>
    cases n <;> simp only [Oper.upon] at h ⊢ <;> first
      | exact hn _ _ h
      | exact Calls.mono h (fun e w'' he => by cases e <;> first | exact hn _ _ he | exact he)
      | exact Rows.mono h (fun _ _ he => hn _ _ he)
  | halt x w' => cases x <;> simp only [Oper.upon] at h ⊢ <;> exact h
theorem RO.each {is : List Nat} (hr : Region.ready .any ops listed = is) (hne : is ≠ []) (h : ∀ i ∈ is, ∃ o, ops[i]? = some o ∧ RL P f N ops [o] (OK P f N ops S fuel (listed.setIfInBounds i true) K R) e w R) : RO P f N ops S (fuel + 1) listed K e w R := fun tm hok =>
  wpAnyH_all hr hne fun i hi => by
    obtain ⟨o, ho, hl⟩ := h i hi
    have h1 := hl.out tm hok
    unfold wpList at h1
    unfold wpOp
    rw [ho]
    simp only
    split
    · rename_i hw
      rw [if_pos hw] at h1
      refine h1.imp (fun h1 => ?_) (fun h1 => h1)
      exact upon_QX (fun a w h => h.2) h1
    · rename_i hw
      rw [if_neg hw] at h1
      exact h1.2
/-- one operation alone may come up -/
theorem RO.one (i : Nat) {o : Oper} (h : RL P f N ops [o] (OK P f N ops S fuel (listed.setIfInBounds i true) K R) e w R) (hr : Region.ready .any ops listed = [i] := by kernel_rfl) (ho : ops[i]? = some o := by rfl) : RO P f N ops S (fuel + 1) listed K e w R :=
  RO.each hr (by simp) fun j hj => by simp only [List.mem_singleton] at hj; subst hj; exact ⟨o, ho, h⟩
theorem RO.two (i j : Nat) {o o' : Oper} (h : RL P f N ops [o] (OK P f N ops S fuel (listed.setIfInBounds i true) K R) e w R) (h' : RL P f N ops [o'] (OK P f N ops S fuel (listed.setIfInBounds j true) K R) e w R) (hr : Region.ready .any ops listed = [i, j] := by kernel_rfl) (ho : ops[i]? = some o := by rfl) (ho' : ops[j]? = some o' := by rfl) : RO P f N ops S (fuel + 1) listed K e w R :=
  RO.each hr (by simp) fun m hm => by
    simp only [List.mem_cons, List.not_mem_nil, or_false] at hm
    rcases hm with rfl | rfl
    · exact ⟨o, ho, h⟩
    · exact ⟨o', ho', h'⟩
theorem RL.ord (hS : S w) (h : RO P f N ops S fuel listed K e w R) : RL P f N ops [] (OK P f N ops S fuel listed K R) e w R := RL.nilK fun tm hok => ⟨hS, h tm hok⟩
theorem RO.done (h : RL P f N ops [] K e w R) (hr : Region.ready .any ops listed = [] := by kernel_rfl) : RO P f N ops S fuel listed K e w R := fun tm hok =>
  wpAnyH_done hr (h.out tm hok) fuel
theorem RO.keep {S' : World → Prop} (hS : ∀ w, S' w → S w) (h : RO P f N ops S' fuel listed K e w R) : RO P f N ops S fuel listed K e w R := fun tm hok => by
  have key : ∀ (fuel : Nat) (listed : Array Bool) (a : Act) (w : World), wpAnyH P .any ops (QX P f K R) S' fuel listed a w → wpAnyH P .any ops (QX P f K R) S fuel listed a w := by
    intro fuel
    induction fuel with
    | zero => intro l a w h; exact h
    | succ n ih => intro l a w h; exact ⟨h.1, fun i hi => wpOp_mono (fun a' w' h' => ⟨hS _ h'.1, ih _ _ _ h'.2⟩) (h.2 i hi)⟩
  exact key _ _ _ _ (h tm hok)
end
attribute [irreducible] RO
end Go.Proofs.Ytgckpmcdlciibaa
