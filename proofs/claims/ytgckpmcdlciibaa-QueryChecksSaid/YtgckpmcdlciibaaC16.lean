/- Contracts of chapter 4: what is wrong with picks of a type (the program's). -/
import Derived.Test.YtgckpmcdlciibaaC15
namespace Go.Proofs.Ytgckpmcdlciibaa
open Go.RowKit
def calledAt (ps : List Pck) (s : Str) : Int := firstIdx ps fun q => decide (calledM q = s)
set_option maxHeartbeats 400000 in
theorem picks1_any (p q : Pck) (v v2 : Value) (b : Nat) (w : World) (hb : At w b 0 [.string q.as, .string q.field, v2]) :
    Calls Try.prog 100 #[.agg #[.string p.as, .string p.field, v], .pointer (some ⟨b, 0, none⟩)] w fun en w' => en = .returned (.bool (decide (calledM p = calledM q))) ∧ Up w w' := by
  refine calls_of_sim Try.func100 rfl (Nat.le_of_ble_eq_true rfl) ?_
  repeat (first | refine RL.vv ?_ | refine RL.p ?_ | refine RL.nil ?_ | refine Sim.seq ?_ | refine Sim.region ?_ | refine Sim.block ?_ | refine Sim.skip ?_ | refine Sim.inBlock ?_ | refine Sim.exit rfl ?_ | refine Sim.condT rfl ?_ | refine Sim.condF rfl ?_)
  refine RL.box trivial rfl rfl fun w1 hu hb1 hsz => ?_
  have hb := hb.up hu
  have hb1 := hb1.at
  repeat (first | refine RL.vv ?_ | refine RL.p ?_ | refine RL.nil ?_ | refine Sim.seq ?_ | refine Sim.region ?_ | refine Sim.block ?_ | refine Sim.skip ?_ | refine Sim.inBlock ?_ | refine Sim.exit rfl ?_ | refine Sim.condT rfl ?_ | refine Sim.condF rfl ?_)
  refine Sim.quiet (Up w1) mixed (by kernel_rfl) (Up.drew _) ?_
  repeat (first | refine RQ.vv ?_ | refine RQ.p ?_)
  refine RQ.call trivial rfl (fun wq hq => c_static rfl) (fun wq hq => q_call (Called_any p v wq) hq) ?_
  repeat (first | refine RQ.vv ?_ | refine RQ.p ?_)
  refine RQ.call trivial rfl (fun wq hq => c_static rfl) (fun wq hq => q_call (Called_any q v2 wq) hq) ?_
  repeat (first | refine RQ.vv ?_ | refine RQ.p ?_)
  refine RQ.nil fun w4 hq => ?_
  repeat (first | refine RL.vv ?_ | refine RL.p ?_ | refine RL.nil ?_ | refine Sim.seq ?_ | refine Sim.region ?_ | refine Sim.block ?_ | refine Sim.skip ?_ | refine Sim.inBlock ?_ | refine Sim.exit rfl ?_ | refine Sim.condT rfl ?_ | refine Sim.condF rfl ?_)
  exact Sim.ret1 Try.func100 rfl rfl ⟨rfl, hu.trans hq⟩
set_option maxHeartbeats 400000 in
theorem ContainsPick_any {m : Nat} {S : Nat → Prop} {v : Value} {l : List Pck} (q : Pck) (v2 : Value) (b : Nat) (w : World) (hl : SliceOf (pckLay (m + 1)) S w v l) (hb : At w b 0 [.string q.as, .string q.field, v2]) :
    Calls Try.prog 99 #[v, .func (.func 100) #[] #[.pointer (some ⟨b, 0, none⟩)]] w fun en w' => en = .returned (.bool (decide (0 ≤ calledAt l (calledM q)))) ∧ Up w w' := by
  obtain ⟨cells, hel, his⟩ := hl.elems
  refine (ContainsFunc_Pick (p := fun i => match l[i]? with | some x => decide (calledM x = calledM q) | none => false) hel fun i hi w' hu => ?_).mono ?_
  · obtain ⟨vs, hcs, _⟩ := pckLay_succ (his i l[i] (List.getElem?_eq_getElem hi))
    rw [hcs]
    refine c_val (picks1_any _ _ _ v2 _ _ (hb.up hu)) ?_
    simp only [List.getElem?_eq_getElem hi]
  · rintro _ w' ⟨rfl, hu⟩
    rw [idx_firstIdx l (fun x => decide (calledM x = calledM q)) _ (fun i x hx => by simp only [hx])]
    exact ⟨rfl, hu⟩
theorem fieldF_get {l : List Fld} {n : Str} (h : ¬ fieldF l n < 0) : ∃ (j : Nat) (t : Fld), fieldF l n = (j : Int) ∧ l[j]? = some t ∧ j < l.length := by
  obtain ⟨i, x, h1, h2, h3, h4⟩ := firstIdx_lt (l := l) (p := fun t => decide (t.name = n)) (by unfold fieldF at h; omega)
  exact ⟨i, x, h1, h2, h4⟩
theorem partF_get {l : List Prt} {n : Str} (h : ¬ partF l n < 0) : ∃ (j : Nat) (t : Prt), partF l n = (j : Int) ∧ l[j]? = some t ∧ j < l.length := by
  obtain ⟨i, x, h1, h2, h3, h4⟩ := firstIdx_lt (l := l) (p := fun t => decide (t.type.name = n)) (by unfold partF at h; omega)
  exact ⟨i, x, h1, h2, h4⟩
theorem partF_none {l : List Prt} {n : Str} (h : partF l n < 0) : partF l n = -1 := firstIdx_neg (l := l) (p := fun t => decide (t.type.name = n)) (by unfold partF at h; omega)
theorem picksErr_hit {sub : Str → List Pck → Int} {fs : List Fld} {ps : List Pck} {i : Nat} {x : Pck} (hx : ps[i]? = some x) (hno : ∀ (j : Nat) y, j < i → ps[j]? = some y → pickErr sub fs ps j y = 0) {r : Int} (hr : pickErr sub fs ps i x = r) (h : r ≠ 0) : picksErr sub fs ps = r := by
  unfold picksErr
  rw [firstBad_hit hx hno (by rw [hr]; exact h)]
  exact hr
theorem picksErr_none {sub : Str → List Pck → Int} {fs : List Fld} {ps : List Pck} (h : ∀ (j : Nat) y, ps[j]? = some y → pickErr sub fs ps j y = 0) : picksErr sub fs ps = 0 := by
  unfold picksErr
  rw [firstBad_none h]
theorem goesM_none {m : Nat} {l : List Prt} {n : Str} {ps : List Pck} (h : partF l n < 0) : goesM (m + 1) l n ps = 5 := by
  rw [goesM]
  split
  · rw [if_pos h]
  · rfl
theorem goesM_some {m : Nat} {l : List Prt} {n : Str} {ps : List Pck} {j : Nat} {t : Prt} (h : partF l n = (j : Int)) (ht : l[j]? = some t) : goesM (m + 1) l n ps = picksErr (goesM m l) t.type.fields ps := by
  rw [goesM, h, Int.toNat_natCast, ht]
  simp only
  rw [if_neg (by omega)]
end Go.Proofs.Ytgckpmcdlciibaa
