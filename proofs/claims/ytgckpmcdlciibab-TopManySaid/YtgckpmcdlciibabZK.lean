/- Several texts in one: Contracts of chapter 4's small functions: Called, merge.Find, ref Part. Contracts of chapter 5: texts looked up and copied; a service's thing. -/
import Derived.Test.YtgckpmcdlciibabZD
import Derived.Test.YtgckpmcdlciibabZP
import Derived.Test.YtgckpmcdlciibabZB
namespace Go.Proofs.Ytgckpmcdlciibab
open Go.RowKit
set_option maxHeartbeats 400000 in
theorem Called_any (p : Pck) (v : Value) (w : World) : Calls Try.prog 44 #[.agg #[.string p.as, .string p.field, v]] w fun en w' => en = .returned (.string (calledM p)) ∧ Up w w' := by
  refine calls_of_sim Try.func44 rfl (Nat.le_of_ble_eq_true rfl) ?_
  by_cases h : p.as = ⟨#[]⟩
  · repeat (first | refine RL.vv ?_ | refine RL.p ?_ | refine RL.nil ?_ | refine Sim.seq ?_ | refine Sim.region ?_ | refine Sim.block ?_ | refine Sim.skip ?_ | refine Sim.inBlock ?_ | refine Sim.exit rfl ?_ | refine Sim.condT rfl ?_ | refine Sim.condF rfl ?_)
    refine RL.box trivial rfl rfl fun w1 hu hb1 hsz => ?_
    repeat (first | refine RL.vv ?_ | refine RL.p ?_ | refine RL.nil ?_ | refine Sim.seq ?_ | refine Sim.region ?_ | refine Sim.block ?_ | refine Sim.skip ?_ | refine Sim.inBlock ?_ | refine Sim.exit rfl ?_ | refine Sim.condT rfl ?_ | refine Sim.condF rfl ?_)
    exact Sim.ret1 Try.func44 rfl rfl ⟨by rw [calledM, if_pos h], hu⟩
  · repeat (first | refine RL.vv ?_ | refine RL.p ?_ | refine RL.nil ?_ | refine Sim.seq ?_ | refine Sim.region ?_ | refine Sim.block ?_ | refine Sim.skip ?_ | refine Sim.inBlock ?_ | refine Sim.exit rfl ?_ | refine Sim.condT rfl ?_ | refine Sim.condF rfl ?_)
    refine RL.box trivial rfl rfl fun w1 hu hb1 hsz => ?_
    repeat (first | refine RL.vv ?_ | refine RL.p ?_ | refine RL.nil ?_ | refine Sim.seq ?_ | refine Sim.region ?_ | refine Sim.block ?_ | refine Sim.skip ?_ | refine Sim.inBlock ?_ | refine Sim.exit rfl ?_ | refine Sim.condT rfl ?_ | refine Sim.condF rfl ?_)
    exact Sim.ret1 Try.func44 rfl rfl ⟨by rw [calledM, if_neg h], hu⟩
set_option maxHeartbeats 400000 in
theorem PFind1_any (nm nm2 : ByteArray) (v1 v2 v3 : Value) (b : Nat) (w : World) (hb : At w b 0 [.string nm2]) :
    Calls Try.prog 71 #[.agg #[.string nm, v1, v2, v3], .pointer (some ⟨b, 0, none⟩)] w fun en w' => en = .returned (.bool (decide (nm = nm2))) ∧ Up w w' := by
  refine calls_of_sim Try.func71 rfl (Nat.le_of_ble_eq_true rfl) ?_
  repeat (first | refine RL.vv ?_ | refine RL.p ?_ | refine RL.nil ?_ | refine Sim.seq ?_ | refine Sim.region ?_ | refine Sim.block ?_ | refine Sim.skip ?_ | refine Sim.inBlock ?_ | refine Sim.exit rfl ?_ | refine Sim.condT rfl ?_ | refine Sim.condF rfl ?_)
  refine RL.box trivial rfl rfl fun w1 hu hb1 hsz => ?_
  have hb := hb.up hu
  repeat (first | refine RL.vv ?_ | refine RL.p ?_ | refine RL.nil ?_ | refine Sim.seq ?_ | refine Sim.region ?_ | refine Sim.block ?_ | refine Sim.skip ?_ | refine Sim.inBlock ?_ | refine Sim.exit rfl ?_ | refine Sim.condT rfl ?_ | refine Sim.condF rfl ?_)
  exact Sim.ret1 Try.func71 rfl rfl ⟨rfl, hu⟩
set_option maxHeartbeats 400000 in
theorem PFind_any {S : Nat → Prop} {v : Value} {l : List Prt} (n : Str) (w : World) (hl : SliceOf prtLay S w v l) :
    Calls Try.prog 32 #[v, .string n] w fun en w' => en = .returned (.int .i64 (partF l n)) ∧ Up w w' := by
  refine calls_of_sim Try.func32 rfl (Nat.le_of_ble_eq_true rfl) ?_
  repeat (first | refine RL.vv ?_ | refine RL.p ?_ | refine RL.nil ?_ | refine Sim.seq ?_ | refine Sim.region ?_ | refine Sim.block ?_ | refine Sim.skip ?_ | refine Sim.inBlock ?_ | refine Sim.exit rfl ?_ | refine Sim.condT rfl ?_ | refine Sim.condF rfl ?_)
  refine RL.box trivial rfl rfl fun w1 hu h1 hsz => ?_
  have hl := hl.up hu
  repeat (first | refine RL.vv ?_ | refine RL.p ?_ | refine RL.nil ?_ | refine Sim.seq ?_ | refine Sim.region ?_ | refine Sim.block ?_ | refine Sim.skip ?_ | refine Sim.inBlock ?_ | refine Sim.exit rfl ?_ | refine Sim.condT rfl ?_ | refine Sim.condF rfl ?_)
  obtain ⟨cells, hel, his⟩ := hl.elems
  refine RL.call trivial rfl (c_static rfl) (IndexFunc_Part (p := fun i => match l[i]? with | some t => decide (t.type.name = n) | none => false) hel ?_) ?_
  · intro i hi w2 hu2
    obtain ⟨v1, v2, v3, hcs, _⟩ := his i l[i] (List.getElem?_eq_getElem hi)
    rw [hcs]
    refine (PFind1_any _ n _ _ _ _ _ (h1.at.up hu2)).mono ?_
    rintro _ w3 ⟨rfl, hu3⟩
    exact ⟨by simp [List.getElem?_eq_getElem hi], hu3⟩
  rintro _ w2 ⟨rfl, hu2⟩
  refine ⟨_, rfl, ?_⟩
  repeat (first | refine RL.vv ?_ | refine RL.p ?_ | refine RL.nil ?_ | refine Sim.seq ?_ | refine Sim.region ?_ | refine Sim.block ?_ | refine Sim.skip ?_ | refine Sim.inBlock ?_ | refine Sim.exit rfl ?_ | refine Sim.condT rfl ?_ | refine Sim.condF rfl ?_)
  exact Sim.ret1 Try.func32 rfl rfl ⟨by rw [idx_firstIdx l (fun t => decide (t.type.name = n)) _ (fun i x hx => by simp only [hx])]; rfl, hu.trans hu2⟩
end Go.Proofs.Ytgckpmcdlciibab

namespace Go.Proofs.Ytgckpmcdlciibab
open Go.RowKit
set_option maxHeartbeats 400000 in
theorem Index_Str {S : Nat → Prop} {v : Value} {l : List Str} (s : Str) (w : World) (hl : SliceOf strLay S w v l) :
    Calls Try.prog 127 #[v, .string s] w fun en w' => en = .returned (.int .i64 (strAt l s)) ∧ w' = w := by
  refine calls_of_sim Try.func127 rfl (Nat.le_of_ble_eq_true rfl) ?_
  obtain ⟨a, c, rfl, hnc, hcm, hel⟩ := id hl
  unfold maxLen at hcm
  repeat (first | refine RL.vv ?_ | refine RL.p ?_ | refine RL.nil ?_ | refine Sim.seq ?_ | refine Sim.region ?_ | refine Sim.block ?_ | refine Sim.skip ?_ | refine Sim.inBlock ?_ | refine Sim.exit rfl ?_ | refine Sim.condT rfl ?_ | refine Sim.condF rfl ?_)
  refine Sim.loop (σ := Nat) (fun i => [(0, .slice a l.length c), (1, .string s), (6, .slice a l.length c), (7, .int .i64 (l.length : Int)), (8, .int .i64 (i : Int))]) (fun i w' => i ≤ l.length ∧ w' = w ∧ ∀ (j : Nat) x, j < i → l[j]? = some x → decide (x = s) = false) (fun i => l.length - i) 0 sb ⟨Nat.zero_le _, rfl, fun j x hj => absurd hj (Nat.not_lt_zero _)⟩ ?_
  rintro i w1 ⟨hi, rfl, hno⟩ next
  by_cases hlt : i < l.length
  · have hx : l[i]? = some l[i] := List.getElem?_eq_getElem hlt
    obtain ⟨b, o, cs, rfl, _, hat, rfl, _⟩ := hl.at hx
    have hat : At w1 b (o + i * 1) _ := hat
    by_cases hn : s = l[i]
    · repeat (first | refine RL.vv ?_ | refine RL.p ?_ | refine RL.nil ?_ | refine Sim.seq ?_ | refine Sim.region ?_ | refine Sim.block ?_ | refine Sim.skip ?_ | refine Sim.inBlock ?_ | refine Sim.exit rfl ?_ | refine Sim.condT rfl ?_ | refine Sim.condF rfl ?_)
      exact Sim.ret1 Try.func127 rfl rfl ⟨by rw [strAt, firstIdx_hit hx (decide_eq_true hn.symm) hno], rfl⟩
    · repeat (first | refine RL.vv ?_ | refine RL.p ?_ | refine RL.nil ?_ | refine Sim.seq ?_ | refine Sim.region ?_ | refine Sim.block ?_ | refine Sim.skip ?_ | refine Sim.inBlock ?_ | refine Sim.exit rfl ?_ | refine Sim.condT rfl ?_ | refine Sim.condF rfl ?_)
      refine next (i + 1) w1 _ ⟨by omega, rfl, fun j x hj hxj => ?_⟩ (by omega) sb
      by_cases hji : j = i
      · subst hji; rw [hx] at hxj; cases hxj; exact decide_eq_false (fun h => hn h.symm)
      · exact hno j x (by omega) hxj
  · repeat (first | refine RL.vv ?_ | refine RL.p ?_ | refine RL.nil ?_ | refine Sim.seq ?_ | refine Sim.region ?_ | refine Sim.block ?_ | refine Sim.skip ?_ | refine Sim.inBlock ?_ | refine Sim.exit rfl ?_ | refine Sim.condT rfl ?_ | refine Sim.condF rfl ?_)
    exact Sim.ret1 Try.func127 rfl rfl ⟨by rw [strAt, firstIdx_miss fun j x hxj => hno j x (by have := (List.getElem?_eq_some_iff.1 hxj).1; omega) hxj], rfl⟩
set_option maxHeartbeats 400000 in
theorem Contains_Str {S : Nat → Prop} {v : Value} {l : List Str} (s : Str) (w : World) (hl : SliceOf strLay S w v l) :
    Calls Try.prog 93 #[v, .string s] w fun en w' => en = .returned (.bool (decide (0 ≤ strAt l s))) ∧ w' = w := by
  refine calls_of_sim Try.func93 rfl (Nat.le_of_ble_eq_true rfl) ?_
  repeat (first | refine RL.vv ?_ | refine RL.p ?_ | refine RL.nil ?_ | refine Sim.seq ?_ | refine Sim.region ?_ | refine Sim.block ?_ | refine Sim.skip ?_ | refine Sim.inBlock ?_ | refine Sim.exit rfl ?_ | refine Sim.condT rfl ?_ | refine Sim.condF rfl ?_)
  refine RL.cs (Index_Str s w hl) ?_
  repeat (first | refine RL.vv ?_ | refine RL.p ?_ | refine RL.nil ?_ | refine Sim.seq ?_ | refine Sim.region ?_ | refine Sim.block ?_ | refine Sim.skip ?_ | refine Sim.inBlock ?_ | refine Sim.exit rfl ?_ | refine Sim.condT rfl ?_ | refine Sim.condF rfl ?_)
  exact Sim.ret1 Try.func93 rfl rfl ⟨rfl, rfl⟩
theorem run_equalIn_slice_nil {P : Program} {t el : TypeId} [Sli P t el] (d : Nat) (a : Option Addr) (n c : Nat) (w : World) : (Op.equalIn (d + 1) t (.slice a n c) (.slice none 0 0)).run P w = .ok a.isNone w := by
  have h1 := run_underlying (Sli.h (P := P) (t := t) (el := el)) w
  cases a <;> simp [Op.equalIn, h1]
theorem run_equal_slice_nil {P : Program} {t el : TypeId} [Sli P t el] (a : Option Addr) (n c : Nat) (w : World) : (Op.equal t (.slice a n c) (.slice none 0 0)).run P w = .ok a.isNone w := run_equalIn_slice_nil (el := el) 9999 a n c w
theorem run_eqGuard_slice {P : Program} (op : BinOp) (t : TypeId) (x y : Operand) (a b : Option Addr) (n c m d : Nat) (w : World) : (eqGuard op t x y (.slice a n c) (.slice b m d)).run P w = .ok () w := by
  unfold eqGuard
  split <;> simp
theorem y_eqlNilS {P : Program} {e : Env} {w : World} {ty t u el : TypeId} {x : Operand} {a : Option Addr} {n c : Nat} [Sli P t el] (hx : e.ev x = some (.slice a n c)) : Yld P (.binOp .eql t x (.const (.slice none 0 0)) u) ty e w (.bool a.isNone) := Yld.mk fun ρ hρ => by
  have h1 := run_equal_slice_nil (P := P) (t := t) (el := el) a n c w
  have h2 := hρ (.const (.slice none 0 0)) _ rfl
  have h3 := run_eqGuard_slice (P := P) .eql t x (.const (.slice none 0 0)) a none n c 0 0 w
  have h4 : binOp .eql t (.slice a n c) (.slice none 0 0) = (Op.equal t (.slice a n c) (.slice none 0 0) >>= fun b => pure (.bool b)) := rfl
  simp only [xop, execOp, hρ x _ hx, h2, Sem.run_bind, h3, Result.andThen_ok, h4, h1, Sem.run_pure]
theorem y_eqlNilSt {P : Program} {e : Env} {w : World} {ty t u el : TypeId} {x : Operand} {n c : Nat} [Sli P t el] (hx : e.ev x = some (.slice none n c)) : Yld P (.binOp .eql t x (.const (.slice none 0 0)) u) ty e w (.bool true) := y_eqlNilS (el := el) hx
theorem y_eqlNilSf {P : Program} {e : Env} {w : World} {ty t u el : TypeId} {x : Operand} {a : Addr} {n c : Nat} [Sli P t el] (hx : e.ev x = some (.slice (some a) n c)) : Yld P (.binOp .eql t x (.const (.slice none 0 0)) u) ty e w (.bool false) := y_eqlNilS (el := el) hx
set_option maxHeartbeats 400000 in
theorem Clone_Str {S S' : Nat → Prop} {v : Value} {l : List _} (w : World) (hl : SliceOf strLay S w v l) (hsz : (l.length + l.length / 4 + 192) * 16 ≤ 281474976710656) :
    Calls Try.prog 62 #[v] w fun en w' => ∃ v', en = .returned v' ∧ Up w w' ∧ Own strLay 9 w.heap.size S' w' v' l := by
  refine calls_of_sim Try.func62 rfl (Nat.le_of_ble_eq_true rfl) ?_
  obtain ⟨a, c, rfl, hnc, hcm, hel⟩ := id hl
  unfold maxLen at hcm
  cases a with
  | none =>
    have hl0 : l = [] := by
      cases l with
      | nil => rfl
      | cons x r => obtain ⟨b, o, h, _⟩ := hel (by simp); cases h
    subst hl0
    repeat (first | refine RL.vv ?_ | refine RL.p ?_ | refine RL.nil ?_ | refine Sim.seq ?_ | refine Sim.region ?_ | refine Sim.block ?_ | refine Sim.skip ?_ | refine Sim.inBlock ?_ | refine Sim.exit rfl ?_ | refine Sim.condT rfl ?_ | refine Sim.condF rfl ?_)
    refine RL.vv ?_ (hy := y_eqlNilSt rfl)
    repeat (first | refine RL.vv ?_ | refine RL.p ?_ | refine RL.nil ?_ | refine Sim.seq ?_ | refine Sim.region ?_ | refine Sim.block ?_ | refine Sim.skip ?_ | refine Sim.inBlock ?_ | refine Sim.exit rfl ?_ | refine Sim.condT rfl ?_ | refine Sim.condF rfl ?_)
    exact Sim.ret1 Try.func62 rfl rfl ⟨_, rfl, .refl _, Own.nil _ _ _ _ _⟩
  | some a =>
    repeat (first | refine RL.vv ?_ | refine RL.p ?_ | refine RL.nil ?_ | refine Sim.seq ?_ | refine Sim.region ?_ | refine Sim.block ?_ | refine Sim.skip ?_ | refine Sim.inBlock ?_ | refine Sim.exit rfl ?_ | refine Sim.condT rfl ?_ | refine Sim.condF rfl ?_)
    refine RL.vv ?_ (hy := y_eqlNilSf rfl)
    repeat (first | refine RL.vv ?_ | refine RL.p ?_ | refine RL.nil ?_ | refine Sim.seq ?_ | refine Sim.region ?_ | refine Sim.block ?_ | refine Sim.skip ?_ | refine Sim.inBlock ?_ | refine Sim.exit rfl ?_ | refine Sim.condT rfl ?_ | refine Sim.condF rfl ?_)
    refine RL.bu (el := 9) [] (.refl w) fun b w1 hb hle hu _ hbx => ?_
    repeat (first | refine RL.vv ?_ | refine RL.p ?_ | refine RL.nil ?_ | refine Sim.seq ?_ | refine Sim.region ?_ | refine Sim.block ?_ | refine Sim.skip ?_ | refine Sim.inBlock ?_ | refine Sim.exit rfl ?_ | refine Sim.condT rfl ?_ | refine Sim.condF rfl ?_)
    refine RL.app (L := strLay) (el := 9) (S := fun _ => True) (xs := []) (ys := l) hu (Own.empty strLay hbx (Nat.le_of_eq hb.symm)) ((hl.old.up hu).mono fun k hk => ⟨trivial, fun h => by simp [Value.ownBlock] at h; omega⟩) (by simpa using hsz) (Nat.le_refl _) hu.size fun v' w2 hu2 ho hg hv => ?_
    repeat (first | refine RL.vv ?_ | refine RL.p ?_ | refine RL.nil ?_ | refine Sim.seq ?_ | refine Sim.region ?_ | refine Sim.block ?_ | refine Sim.skip ?_ | refine Sim.inBlock ?_ | refine Sim.exit rfl ?_ | refine Sim.condT rfl ?_ | refine Sim.condF rfl ?_)
    refine Sim.ret1 Try.func62 rfl rfl ⟨_, rfl, hu2, ?_⟩
    obtain ⟨css, h1, h2, h3⟩ := ho
    exact ⟨css, h1, h2, fun i cs x hc hx => h3 i cs x hc hx⟩
set_option maxHeartbeats 400000 in
theorem Clone_Fld {S S' : Nat → Prop} {v : Value} {l : List _} (w : World) (hl : SliceOf fldLay S w v l) (hsz : (l.length + l.length / 4 + 192) * 40 ≤ 281474976710656) :
    Calls Try.prog 76 #[v] w fun en w' => ∃ v', en = .returned v' ∧ Up w w' ∧ Own fldLay 86 w.heap.size S' w' v' l := by
  refine calls_of_sim Try.func76 rfl (Nat.le_of_ble_eq_true rfl) ?_
  obtain ⟨a, c, rfl, hnc, hcm, hel⟩ := id hl
  unfold maxLen at hcm
  cases a with
  | none =>
    have hl0 : l = [] := by
      cases l with
      | nil => rfl
      | cons x r => obtain ⟨b, o, h, _⟩ := hel (by simp); cases h
    subst hl0
    repeat (first | refine RL.vv ?_ | refine RL.p ?_ | refine RL.nil ?_ | refine Sim.seq ?_ | refine Sim.region ?_ | refine Sim.block ?_ | refine Sim.skip ?_ | refine Sim.inBlock ?_ | refine Sim.exit rfl ?_ | refine Sim.condT rfl ?_ | refine Sim.condF rfl ?_)
    refine RL.vv ?_ (hy := y_eqlNilSt rfl)
    repeat (first | refine RL.vv ?_ | refine RL.p ?_ | refine RL.nil ?_ | refine Sim.seq ?_ | refine Sim.region ?_ | refine Sim.block ?_ | refine Sim.skip ?_ | refine Sim.inBlock ?_ | refine Sim.exit rfl ?_ | refine Sim.condT rfl ?_ | refine Sim.condF rfl ?_)
    exact Sim.ret1 Try.func76 rfl rfl ⟨_, rfl, .refl _, Own.nil _ _ _ _ _⟩
  | some a =>
    repeat (first | refine RL.vv ?_ | refine RL.p ?_ | refine RL.nil ?_ | refine Sim.seq ?_ | refine Sim.region ?_ | refine Sim.block ?_ | refine Sim.skip ?_ | refine Sim.inBlock ?_ | refine Sim.exit rfl ?_ | refine Sim.condT rfl ?_ | refine Sim.condF rfl ?_)
    refine RL.vv ?_ (hy := y_eqlNilSf rfl)
    repeat (first | refine RL.vv ?_ | refine RL.p ?_ | refine RL.nil ?_ | refine Sim.seq ?_ | refine Sim.region ?_ | refine Sim.block ?_ | refine Sim.skip ?_ | refine Sim.inBlock ?_ | refine Sim.exit rfl ?_ | refine Sim.condT rfl ?_ | refine Sim.condF rfl ?_)
    refine RL.bu (el := 86) [] (.refl w) fun b w1 hb hle hu _ hbx => ?_
    repeat (first | refine RL.vv ?_ | refine RL.p ?_ | refine RL.nil ?_ | refine Sim.seq ?_ | refine Sim.region ?_ | refine Sim.block ?_ | refine Sim.skip ?_ | refine Sim.inBlock ?_ | refine Sim.exit rfl ?_ | refine Sim.condT rfl ?_ | refine Sim.condF rfl ?_)
    refine RL.app (L := fldLay) (el := 86) (S := fun _ => True) (xs := []) (ys := l) hu (Own.empty fldLay hbx (Nat.le_of_eq hb.symm)) ((hl.old.up hu).mono fun k hk => ⟨trivial, fun h => by simp [Value.ownBlock] at h; omega⟩) (by simpa using hsz) (Nat.le_refl _) hu.size fun v' w2 hu2 ho hg hv => ?_
    repeat (first | refine RL.vv ?_ | refine RL.p ?_ | refine RL.nil ?_ | refine Sim.seq ?_ | refine Sim.region ?_ | refine Sim.block ?_ | refine Sim.skip ?_ | refine Sim.inBlock ?_ | refine Sim.exit rfl ?_ | refine Sim.condT rfl ?_ | refine Sim.condF rfl ?_)
    refine Sim.ret1 Try.func76 rfl rfl ⟨_, rfl, hu2, ?_⟩
    obtain ⟨css, h1, h2, h3⟩ := ho
    exact ⟨css, h1, h2, fun i cs x hc hx => h3 i cs x hc hx⟩
end Go.Proofs.Ytgckpmcdlciibab
