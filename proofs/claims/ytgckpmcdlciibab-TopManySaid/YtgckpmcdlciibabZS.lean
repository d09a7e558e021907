/- Several texts in one: Contracts of chapter 3: names compared; a type's place. Contracts of chapter 3: a type's place among types whose names rise. Contracts of chapter 3: a header put into a row of headers. Contracts of chapter 3: a header put into a row of headers: the walk. The schema of all, in memory: a row of headers, each with three rows of its own. Contracts of chapter 3: a service's type is put to the whole. Contracts of chapter 3: the schema of all services. -/
import Derived.Test.YtgckpmcdlciibabZM
import Derived.Test.YtgckpmcdlciibabZR
import Derived.Test.YtgckpmcdlciibabZB
import Derived.Lib.Overlaps
import Derived.Lib.AppendZerosOnto
namespace Go.Proofs.Ytgckpmcdlciibab
open Go.RowKit
section
variable {P : Program} {e : Env} {w : World} {ty : TypeId} {v : Value} {t u : TypeId} {x y : Operand}
theorem y_lssS {a b : ByteArray} (hx : e.ev x = some (.string a)) (hy : e.ev y = some (.string b)) : Yld P (.binOp .lss t x y u) ty e w (.bool (strLt a b)) := Yld.mk fun ρ hρ => by
  have h2 : Op.bytesLess a.toList b.toList = strLt a b := by rw [ByteArray.toList_eq, ByteArray.toList_eq]; rfl
  simp [xop, execOp, hρ x _ hx, hρ y _ hy, eqGuard, binOp, Op.stringOp, h2]
theorem y_gtrS {a b : ByteArray} (hx : e.ev x = some (.string a)) (hy : e.ev y = some (.string b)) : Yld P (.binOp .gtr t x y u) ty e w (.bool (!(strLt a b || decide (a = b)))) := Yld.mk fun ρ hρ => by
  have h2 : Op.bytesLess a.toList b.toList = strLt a b := by rw [ByteArray.toList_eq, ByteArray.toList_eq]; rfl
  simp [xop, execOp, hρ x _ hx, hρ y _ hy, eqGuard, binOp, Op.stringOp, toList_beq, h2]
theorem y_toU {n : Nat} [h1 : IsInt P t .i64] [h2 : IsInt P u .u64] (hx : e.ev x = some (.int .i64 (n : Int))) (hn : n < 18446744073709551616) : Yld P (.convert t u x) ty e w (.int .u64 (n : Int)) := Yld.mk fun ρ hρ => by
  have h3 := run_underlying h1.h w
  have h4 := run_underlying h2.h w
  have h5 : IntKind.u64.wrap (n : Int) = n := by
    have := IntKind.wrap_u64 (n : Int)
    rw [this]; omega
  simp [xop, execOp, hρ x _ hx, convert, h3, h4, Conv.intToInt, h5]
theorem y_toI {n : Nat} [h1 : IsInt P t .u64] [h2 : IsInt P u .i64] (hx : e.ev x = some (.int .u64 (n : Int))) (hn : n < 9223372036854775808) : Yld P (.convert t u x) ty e w (.int .i64 (n : Int)) := Yld.mk fun ρ hρ => by
  have h3 := run_underlying h1.h w
  have h4 := run_underlying h2.h w
  have h5 : IntKind.i64.wrap (n : Int) = n := wrap_i64 (by omega) (by omega)
  simp [xop, execOp, hρ x _ hx, convert, h3, h4, Conv.intToInt, h5]
theorem y_half {n : Nat} {ku : TypeId} (hx : e.ev x = some (.int .u64 (n : Int))) (hy : e.ev y = some (.int .u64 1)) : Yld P (.binOp .shr t x y ku) ty e w (.int .u64 ((n / 2 : Nat) : Int)) := Yld.mk fun ρ hρ => by
  have hg := run_eqGuard_int (P := P) .shr t x y .u64 .u64 (n : Int) 1 w
  have h2 : ((n : Int).fdiv 2) = ((n / 2 : Nat) : Int) := by rw [Int.fdiv_eq_ediv_of_nonneg _ (by omega)]; omega
  simp [xop, execOp, hρ x _ hx, hρ y _ hy, hg, binOp, Op.shift, IntKind.bits, h2]
end
set_option maxHeartbeats 400000 in
theorem isNaN_Str (a : Str) (w : World) : Calls Try.prog 130 #[.string a] w fun en w' => en = .returned (.bool false) ∧ w' = w := by
  refine calls_of_sim Try.func130 rfl (Nat.le_of_ble_eq_true rfl) ?_
  have hr : a = a := rfl
  repeat (first | refine RL.vv ?_ | refine RL.p ?_ | refine RL.nil ?_ | refine Sim.seq ?_ | refine Sim.region ?_ | refine Sim.block ?_ | refine Sim.skip ?_ | refine Sim.inBlock ?_ | refine Sim.exit rfl ?_ | refine Sim.condT rfl ?_ | refine Sim.condF rfl ?_)
  exact Sim.ret1 Try.func130 rfl rfl ⟨rfl, rfl⟩
def cmpS (a b : Str) : Int := if strLt a b = true then -1 else if a = b then 0 else 1
theorem cmpS_neg (a b : Str) : cmpS a b < 0 ↔ strLt a b = true := by
  unfold cmpS
  split
  · rename_i h; simp [h]
  · rename_i h; split <;> simp [h]
theorem cmpS_zero (a b : Str) : cmpS a b = 0 ↔ a = b := by
  unfold cmpS
  split
  · rename_i h
    refine ⟨(by intro h; cases h), fun he => ?_⟩
    subst he
    rw [strLt_irrefl] at h
    cases h
  · split
    · rename_i h; simp [h]
    · rename_i h; simp [h]
set_option maxHeartbeats 400000 in
theorem Compare_Str (a b : Str) (w : World) : Calls Try.prog 101 #[.string a, .string b] w fun en w' => en = .returned (.int .i64 (cmpS a b)) ∧ w' = w := by
  refine calls_of_sim Try.func101 rfl (Nat.le_of_ble_eq_true rfl) ?_
  repeat (first | refine RL.vv ?_ | refine RL.p ?_ | refine RL.nil ?_ | refine Sim.seq ?_ | refine Sim.region ?_ | refine Sim.block ?_ | refine Sim.skip ?_ | refine Sim.inBlock ?_ | refine Sim.exit rfl ?_ | refine Sim.condT rfl ?_ | refine Sim.condF rfl ?_)
  refine RL.cs (isNaN_Str a w) ?_
  repeat (first | refine RL.vv ?_ | refine RL.p ?_ | refine RL.nil ?_ | refine Sim.seq ?_ | refine Sim.region ?_ | refine Sim.block ?_ | refine Sim.skip ?_ | refine Sim.inBlock ?_ | refine Sim.exit rfl ?_ | refine Sim.condT rfl ?_ | refine Sim.condF rfl ?_)
  refine RL.cs (isNaN_Str b w) ?_
  repeat (first | refine RL.vv ?_ | refine RL.p ?_ | refine RL.nil ?_ | refine Sim.seq ?_ | refine Sim.region ?_ | refine Sim.block ?_ | refine Sim.skip ?_ | refine Sim.inBlock ?_ | refine Sim.exit rfl ?_ | refine Sim.condT rfl ?_ | refine Sim.condF rfl ?_)
  refine RL.vv ?_ (hy := y_lssS rfl rfl)
  unfold cmpS
  cases h : strLt a b with
  | true =>
    rw [if_pos rfl]
    repeat (first | refine RL.vv ?_ | refine RL.p ?_ | refine RL.nil ?_ | refine Sim.seq ?_ | refine Sim.region ?_ | refine Sim.block ?_ | refine Sim.skip ?_ | refine Sim.inBlock ?_ | refine Sim.exit rfl ?_ | refine Sim.condT rfl ?_ | refine Sim.condF rfl ?_)
    exact Sim.ret1 Try.func101 rfl rfl ⟨rfl, rfl⟩
  | false =>
    rw [if_neg (by decide)]
    repeat (first | refine RL.vv ?_ | refine RL.p ?_ | refine RL.nil ?_ | refine Sim.seq ?_ | refine Sim.region ?_ | refine Sim.block ?_ | refine Sim.skip ?_ | refine Sim.inBlock ?_ | refine Sim.exit rfl ?_ | refine Sim.condT rfl ?_ | refine Sim.condF rfl ?_)
    refine RL.vv ?_ (hy := y_gtrS rfl rfl)
    rw [h]
    by_cases he : a = b
    · rw [if_pos he, decide_eq_true he]
      repeat (first | refine RL.vv ?_ | refine RL.p ?_ | refine RL.nil ?_ | refine Sim.seq ?_ | refine Sim.region ?_ | refine Sim.block ?_ | refine Sim.skip ?_ | refine Sim.inBlock ?_ | refine Sim.exit rfl ?_ | refine Sim.condT rfl ?_ | refine Sim.condF rfl ?_)
      exact Sim.ret1 Try.func101 rfl rfl ⟨rfl, rfl⟩
    · rw [if_neg he, decide_eq_false he]
      repeat (first | refine RL.vv ?_ | refine RL.p ?_ | refine RL.nil ?_ | refine Sim.seq ?_ | refine Sim.region ?_ | refine Sim.block ?_ | refine Sim.skip ?_ | refine Sim.inBlock ?_ | refine Sim.exit rfl ?_ | refine Sim.condT rfl ?_ | refine Sim.condF rfl ?_)
      exact Sim.ret1 Try.func101 rfl rfl ⟨rfl, rfl⟩
set_option maxHeartbeats 400000 in
theorem add1_any (a b : Str) (v1 v2 v3 : Value) (w : World) : Calls Try.prog 100 #[.agg #[.string a, v1, v2, v3], .string b] w fun en w' => en = .returned (.int .i64 (cmpS a b)) ∧ Up w w' := by
  refine calls_of_sim Try.func100 rfl (Nat.le_of_ble_eq_true rfl) ?_
  repeat (first | refine RL.vv ?_ | refine RL.p ?_ | refine RL.nil ?_ | refine Sim.seq ?_ | refine Sim.region ?_ | refine Sim.block ?_ | refine Sim.skip ?_ | refine Sim.inBlock ?_ | refine Sim.exit rfl ?_ | refine Sim.condT rfl ?_ | refine Sim.condF rfl ?_)
  refine RL.bx (.refl w) fun b2 w1 _ hle2 hu _ hb2 => ?_
  have ha2 := hb2.at
  repeat (first | refine RL.vv ?_ | refine RL.p ?_ | refine RL.nil ?_ | refine Sim.seq ?_ | refine Sim.region ?_ | refine Sim.block ?_ | refine Sim.skip ?_ | refine Sim.inBlock ?_ | refine Sim.exit rfl ?_ | refine Sim.condT rfl ?_ | refine Sim.condF rfl ?_)
  refine RL.cs (Compare_Str a b w1) ?_
  repeat (first | refine RL.vv ?_ | refine RL.p ?_ | refine RL.nil ?_ | refine Sim.seq ?_ | refine Sim.region ?_ | refine Sim.block ?_ | refine Sim.skip ?_ | refine Sim.inBlock ?_ | refine Sim.exit rfl ?_ | refine Sim.condT rfl ?_ | refine Sim.condF rfl ?_)
  exact Sim.ret1 Try.func100 rfl rfl ⟨rfl, hu⟩
theorem add1_call (a b : Str) (v1 v2 v3 : Value) (w : World) : Calls Try.prog 100 ([.agg #[.string a, v1, v2, v3], .string b].toArray ++ #[]) w fun en w' => en = .returned (.int .i64 (cmpS a b)) ∧ Up w w' := by
  simpa using add1_any a b v1 v2 v3 w
end Go.Proofs.Ytgckpmcdlciibab

namespace Go.Proofs.Ytgckpmcdlciibab
open Go.RowKit
/-- a part's header: its name, and where its fields, owners and homes lie -/
structure Ph where
  name : Str
  fv : Value
  ov : Value
  hv : Value
def phLay : Lay Ph where
  k := 4
  pos := by decide
  is := fun _ _ cs h => cs = [.string h.name, h.fv, h.ov, h.hv] ∧ h.fv.oneCell' = true ∧ h.ov.oneCell' = true ∧ h.hv.oneCell' = true
  len := by rintro S w cs x ⟨rfl, _⟩; rfl
  keep := fun h _ => h
  mono := fun h _ => h
  old := fun h => h
instance : Flat phLay := ⟨fun h => h⟩
instance : OneC phLay := ⟨by rintro S w cs x ⟨rfl, h1, h2, h3⟩ c hc; simp only [List.mem_cons, List.not_mem_nil, or_false] at hc; rcases hc with rfl | rfl | rfl | rfl <;> first | rfl | assumption⟩
def Rise (l : List Ph) : Prop := l.Pairwise fun p q => strLt p.name q.name = true
theorem Rise.lt {l : List Ph} (h : Rise l) {i j : Nat} {p q : Ph} (hij : i < j) (hi : l[i]? = some p) (hj : l[j]? = some q) : strLt p.name q.name = true := by
  obtain ⟨h1, rfl⟩ := List.getElem?_eq_some_iff.1 hi
  obtain ⟨h2, rfl⟩ := List.getElem?_eq_some_iff.1 hj
  exact List.pairwise_iff_getElem.1 h i j h1 h2 hij
structure PlaceOf (l : List Ph) (n : Str) (k : Nat) (b : Bool) : Prop where
  le : k ≤ l.length
  below : ∀ (j : Nat) p, j < k → l[j]? = some p → strLt p.name n = true
  at_ : ∀ p, l[k]? = some p → strLt p.name n = false ∧ b = decide (p.name = n)
  none : l.length ≤ k → b = false
set_option maxHeartbeats 1000000 in
theorem BinarySearch_Ph {S : Nat → Prop} {v : Value} {l : List Ph} (n : Str) (w : World) (hl : SliceOf phLay S w v l) (hr : Rise l) (hlen : l.length ≤ 1000000) :
    Calls Try.prog 99 #[v, .string n, .func (.func 100) #[] #[]] w fun en w' => ∃ (k : Nat) (b : Bool), en = .returned (.tuple #[.int .i64 (k : Int), .bool b]) ∧ Up w w' ∧ PlaceOf l n k b := by
  refine calls_of_sim Try.func99 rfl (Nat.le_of_ble_eq_true rfl) ?_
  obtain ⟨a, c, rfl, hnc, hcm, _⟩ := id hl
  unfold maxLen at hcm
  repeat (first | refine RL.vv ?_ | refine RL.p ?_ | refine RL.nil ?_ | refine Sim.seq ?_ | refine Sim.region ?_ | refine Sim.block ?_ | refine Sim.skip ?_ | refine Sim.inBlock ?_ | refine Sim.exit rfl ?_ | refine Sim.condT rfl ?_ | refine Sim.condF rfl ?_)
  refine Sim.loop (σ := Nat × Nat) (fun st => [(0, .slice a l.length c), (1, .string n), (2, .func (.func 100) #[] #[]), (8, .int .i64 (l.length : Int)), (9, .int .i64 (st.1 : Int)), (10, .int .i64 (st.2 : Int))])
    (fun st w' => st.1 ≤ st.2 ∧ st.2 ≤ l.length ∧ Up w w' ∧ (∀ (j : Nat) p, j < st.1 → l[j]? = some p → strLt p.name n = true) ∧ (∀ (j : Nat) p, st.2 ≤ j → l[j]? = some p → strLt p.name n = false)) (fun st => st.2 - st.1) (0, l.length) sb ⟨Nat.zero_le _, Nat.le_refl _, .refl _, fun j p h => absurd h (Nat.not_lt_zero _), fun j p h hp => by have := (List.getElem?_eq_some_iff.1 hp).1; omega⟩ ?_
  rintro ⟨i, j⟩ w1 ⟨hij, hjl, hu, h1, h2⟩ next
  simp only at hij hjl h1 h2 next ⊢
  by_cases hlt : i < j
  · have hx : l[(i + j) / 2]? = some (l[(i + j) / 2]'(by omega)) := List.getElem?_eq_getElem (by omega)
    obtain ⟨b, o, cs, rfl, _, hat, ⟨rfl, _⟩, _⟩ := (hl.up hu).at hx
    have hat : At w1 b (o + ((i + j) / 2) * 4) _ := hat
    have hrise : ∀ (m : Nat) p, l[m]? = some p → (m < (i + j) / 2 → strLt p.name (l[(i + j) / 2]'(by omega)).name = true) ∧ ((i + j) / 2 < m → strLt (l[(i + j) / 2]'(by omega)).name p.name = true) := fun m p hp => ⟨fun h => hr.lt h hp hx, fun h => hr.lt h hx hp⟩
    generalize hg : (l[(i + j) / 2]'(by omega)) = p at *
    repeat (first | refine RL.vv ?_ | refine RL.p ?_ | refine RL.nil ?_ | refine Sim.seq ?_ | refine Sim.region ?_ | refine Sim.block ?_ | refine Sim.skip ?_ | refine Sim.inBlock ?_ | refine Sim.exit rfl ?_ | refine Sim.condT rfl ?_ | refine Sim.condF rfl ?_)
    refine RL.vv ?_ (hy := y_add (d := ((i + j : Nat) : Int)) rfl rfl (by omega) (by omega) (by omega))
    refine RL.vv ?_ (hy := y_toU rfl (by omega))
    refine RL.vv ?_ (hy := y_half rfl rfl)
    refine RL.vv ?_ (hy := y_toI rfl (by omega))
    generalize hm : (i + j) / 2 = m at *
    repeat (first | refine RL.vv ?_ | refine RL.p ?_ | refine RL.nil ?_ | refine Sim.seq ?_ | refine Sim.region ?_ | refine Sim.block ?_ | refine Sim.skip ?_ | refine Sim.inBlock ?_ | refine Sim.exit rfl ?_ | refine Sim.condT rfl ?_ | refine Sim.condF rfl ?_)
    refine RL.cu hu (add1_call p.name n p.fv p.ov p.hv w1) (hy := c_closure rfl rfl) fun w2 hu2 _ => ?_
    by_cases hs : strLt p.name n = true
    · have hneg := (cmpS_neg p.name n).2 hs
      repeat (first | refine RL.vv ?_ | refine RL.p ?_ | refine RL.nil ?_ | refine Sim.seq ?_ | refine Sim.region ?_ | refine Sim.block ?_ | refine Sim.skip ?_ | refine Sim.inBlock ?_ | refine Sim.exit rfl ?_ | refine Sim.condT rfl ?_ | refine Sim.condF rfl ?_)
      refine next (m + 1, j) _ _ ⟨by omega, hjl, hu2, fun m' q hm' hq => ?_, h2⟩ (by simp only; omega) sb
      by_cases hmm : m' = m
      · subst hmm; rw [hx] at hq; cases hq; exact hs
      · exact strLt_trans ((hrise m' q hq).1 (by omega)) hs
    · have hneg : ¬ cmpS p.name n < 0 := fun h => hs ((cmpS_neg p.name n).1 h)
      repeat (first | refine RL.vv ?_ | refine RL.p ?_ | refine RL.nil ?_ | refine Sim.seq ?_ | refine Sim.region ?_ | refine Sim.block ?_ | refine Sim.skip ?_ | refine Sim.inBlock ?_ | refine Sim.exit rfl ?_ | refine Sim.condT rfl ?_ | refine Sim.condF rfl ?_)
      refine next (i, m) _ _ ⟨by simp only; omega, by simp only; omega, hu2, h1, fun m' q hm' hq => ?_⟩ (by simp only; omega) sb
      simp only at hm'
      by_cases hmm : m' = m
      · subst hmm; rw [hx] at hq; cases hq; simpa using hs
      · cases hqn : strLt q.name n with
        | false => rfl
        | true => exact absurd (strLt_trans ((hrise m' q hq).2 (by omega)) hqn) hs
  · have hji : j = i := by omega
    subst hji
    by_cases hjn : j < l.length
    · have hx : l[j]? = some l[j] := List.getElem?_eq_getElem hjn
      obtain ⟨b, o, cs, rfl, _, hat, ⟨rfl, _⟩, _⟩ := (hl.up hu).at hx
      have hat : At w1 b (o + j * 4) _ := hat
      have hs := h2 j _ (Nat.le_refl _) hx
      generalize l[j] = p at *
      repeat (first | refine RL.vv ?_ | refine RL.p ?_ | refine RL.nil ?_ | refine Sim.seq ?_ | refine Sim.region ?_ | refine Sim.block ?_ | refine Sim.skip ?_ | refine Sim.inBlock ?_ | refine Sim.exit rfl ?_ | refine Sim.condT rfl ?_ | refine Sim.condF rfl ?_)
      refine RL.cu hu (add1_call p.name n p.fv p.ov p.hv w1) (hy := c_closure rfl rfl) (hw := ⟨_, _, rfl, rfl, rfl⟩) fun w2 hu2 _ => ?_
      repeat (first | refine RL.vv ?_ | refine RL.p ?_ | refine RL.nil ?_ | refine Sim.seq ?_ | refine Sim.region ?_ | refine Sim.block ?_ | refine Sim.skip ?_ | refine Sim.inBlock ?_ | refine Sim.exit rfl ?_ | refine Sim.condT rfl ?_ | refine Sim.condF rfl ?_)
      refine Sim.ret2 Try.func99 rfl rfl rfl ⟨j, _, rfl, hu2, Nat.le_of_lt hjn, h1, fun q hq => ?_, fun h => absurd h (by omega)⟩
      rw [hx] at hq
      cases hq
      exact ⟨hs, decide_eq_decide.2 (cmpS_zero _ _)⟩
    · repeat (first | refine RL.vv ?_ | refine RL.p ?_ | refine RL.nil ?_ | refine Sim.seq ?_ | refine Sim.region ?_ | refine Sim.block ?_ | refine Sim.skip ?_ | refine Sim.inBlock ?_ | refine Sim.exit rfl ?_ | refine Sim.condT rfl ?_ | refine Sim.condF rfl ?_)
      refine Sim.ret2 Try.func99 rfl rfl rfl ⟨j, false, rfl, hu, hjl, h1, fun q hq => absurd (List.getElem?_eq_some_iff.1 hq).1 hjn, fun _ => rfl⟩
end Go.Proofs.Ytgckpmcdlciibab

namespace Go.Proofs.Ytgckpmcdlciibab
open Go.RowKit
theorem ins_place {α : Type} {A F1 F2 X R : List α} (hA : A = F1 ++ (F2 ++ R)) (hR : X.length ≤ R.length) :
    ((A.take (F1.length + X.length) ++ F2 ++ A.drop (F1.length + X.length + F2.length)).take F1.length ++ X ++ (A.take (F1.length + X.length) ++ F2 ++ A.drop (F1.length + X.length + F2.length)).drop (F1.length + X.length)) = F1 ++ (X ++ (F2 ++ R.drop X.length)) := by
  have h1 : (A.take (F1.length + X.length)).length = F1.length + X.length := by rw [List.length_take, hA]; simp; omega
  have h2 : (A.take (F1.length + X.length)).take F1.length = F1 := by rw [List.take_take, Nat.min_eq_left (by omega), hA, List.take_left]
  have h3 : A.drop (F1.length + X.length + F2.length) = R.drop X.length := by
    rw [show F1.length + X.length + F2.length = F1.length + (F2.length + X.length) by omega, hA, ← List.drop_drop, List.drop_left, ← List.drop_drop, List.drop_left]
  rw [h3]
  generalize A.take (F1.length + X.length) = T at *
  rw [List.append_assoc T, List.take_append_of_le_length (by omega), h2, ← h1, List.drop_left, List.append_assoc]
theorem ins_new {α : Type} {A F1 F2 X Z : List α} (hA : A = F1 ++ Z) (_ : X.length + F2.length ≤ Z.length) :
    ((A.take F1.length ++ X ++ A.drop (F1.length + X.length)).take (F1.length + X.length) ++ F2 ++ (A.take F1.length ++ X ++ A.drop (F1.length + X.length)).drop (F1.length + X.length + F2.length)) = F1 ++ (X ++ (F2 ++ Z.drop (X.length + F2.length))) := by
  have h2 : A.take F1.length = F1 := by rw [hA, List.take_left]
  have h3 : A.drop (F1.length + X.length) = Z.drop X.length := by rw [hA, ← List.drop_drop, List.drop_left]
  rw [h2, h3, ← List.length_append, List.take_left, ← List.drop_drop, List.drop_left, List.drop_drop, List.append_assoc, List.append_assoc]
section
variable {P : Program} {e : Env} {w : World} {ty : TypeId} {v : Value} {t el : TypeId} {x y : Operand}
theorem run_firstCells {k n c b o : Nat} {news : List Value} (hn : n * k = news.length) (hat : At w b o news) : (Builtin.firstCells k n (.slice (some ⟨b, o, none⟩) n c)).run P w = .ok news.toArray w := by
  unfold Builtin.firstCells loadCells
  have h3 := run_loadCellsFrom (P := P) (w := w) (b := b) (o := o) news 0 #[] (by simpa [At] using hat)
  rw [hn]
  simpa using h3
/-- copy into a block that is known whole -/
theorem e_copy {g o b o2 dn dc sn sc m k : Nat} {cur news : List Value} [Sli P t el] [Siz P el k] (hx : e.ev x = some (.slice (some ⟨g, o, none⟩) dn dc)) (hy : e.ev y = some (.slice (some ⟨b, o2, none⟩) sn sc)) (hm : Nat.min sn dn = m) (hmk : m * k = news.length) (hat : At w b o2 news) (hb : Box w g el cur) (hfit : o + news.length ≤ cur.length) (h1 : ∀ u ∈ news, u.oneCell' = true) :
    Eff P (.call { callee := .builtin .copy, args := #[x, y], argTypes := #[t, t] }) ty e w (.int .i64 (m : Int)) (w.setRow g (cur.take o ++ news ++ cur.drop (o + news.length)).toArray) := Eff.mk fun ρ hρ => by
  have h2 := run_underlying (Sli.h (P := P) (t := t) (el := el)) w
  have h3 := Siz.run P el (k := k) w
  have h4 : (Builtin.firstCells k m (.slice (some ⟨b, o2, none⟩) sn sc)).run P w = .ok news.toArray w := run_firstCells (c := sc) hmk hat
  have h5 := run_storeCells_at P g o el news 0 cur.toArray w hb (by simpa using hfit) h1
  simp only [Nat.add_zero] at h5
  simp [xop, execOp, hρ x _ hx, hρ y _ hy, resolve, invoke, builtin, Builtin.copy_, h2, h3, Builtin.lenOf, hm, h4, h5, goInt]
theorem dropV_some {g n c i k : Nat} (h : c ≠ i) : dropV (some ⟨g, 0, none⟩) n c i k = .slice (some ⟨g, i * k, none⟩) (n - i) (c - i) := by
  unfold dropV
  rw [if_neg h]
  simp [addr_add]
/-- 'append(s, make([]T, m)...)' where there is no room -/
theorem e_zeros {b o n c m k by_ : Nat} {z : Value} {news : List Value} {tn : TypeId} [h1 : Sli P t el] [h2 : Siz P el k] [h3 : Byt P el by_] [h4 : Zer P el z] [h5 : IsInt P tn .i64] (hx : e.ev x = some (.slice (some ⟨b, o, none⟩) n c)) (hy : e.ev y = some (.int .i64 (m : Int))) (hn : n * k = news.length) (hat : At w b o news) (hk : 0 < k) (hm : 0 < m) (hroom : c < n + m) (hsz : ((n + m) + (n + m) / 4 + 192) * by_ ≤ 281474976710656) (hb0 : 0 < by_) :
    Eff P (.call { callee := .builtin .append, args := #[x, y], argTypes := #[t, tn] }) ty e w (.slice (some ⟨w.heap.size, 0, none⟩) (n + m) (grownCap w (n + m) c el))
      (w.drew.alloc (.cells (news.toArray ++ Builtin.zeroCells z.cells m ++ Builtin.zeroCells z.cells (grownCap w (n + m) c el - (n + m))) el)) := Eff.mk fun ρ hρ => by
  obtain ⟨i, hinf, hsize⟩ := h2.h
  have hby : i.bytes = by_ := by
    obtain ⟨i', h, he⟩ := h3.h
    rw [hinf] at h
    cases h
    exact he
  have hzz : i.zero = some z := by
    obtain ⟨i', h, he⟩ := h4.h
    rw [hinf] at h
    cases h
    exact he
  have h48 : m * i.bytes ≤ 281474976710656 := by
    rw [hby]
    exact Nat.le_trans (Nat.mul_le_mul_right _ (by omega)) hsz
  have hnm : n + m ≤ 281474976710656 := by
    have h1 : n + m + (n + m) / 4 + 192 ≤ 281474976710656 := Nat.le_trans (Nat.le_mul_of_pos_right _ hb0) hsz
    omega
  have hfc : (Builtin.firstCells i.size n (.slice (some ⟨b, o, none⟩) n c)).run P w.drew = .ok news.toArray w.drew := by
    rw [hsize]
    exact run_firstCells hn (hat.up (Up.drew w))
  have hr := Lib.run_append_grow_zeros (P := P) w t tn ty el i z .i64 .i64 h1.h h5.h hinf hzz (some ⟨b, o, none⟩) n c news hfc m hm (by rw [hsize]; exact hk) hroom (by omega) h48 (growslice_fits_wide hroom (by rw [hby]; exact hsz))
  simp [xop, execOp, hρ x _ hx, hρ y _ hy, resolve, invoke, builtin, hr]
end
/-- what is put in lies elsewhere -/
theorem y_apart {w : World} {e : Env} {ty : TypeId} {x y : Operand} {b g o n c n2 c2 : Nat} {cs cur : List Value} {tA : TypeId} (hx : e.ev x = some (.slice (some ⟨b, 0, none⟩) n c)) (hy : e.ev y = some (.slice (some ⟨g, o, none⟩) n2 c2)) (hb : Box w b tA cs) (hg : Box w g 83 cur) (hne : b ≠ g) (hcur : 0 < cur.length) :
    Yld Try.prog (.call { callee := .value (.func 131), args := #[x, y], argTypes := #[47, 47] }) ty e w (.bool false) := Yld.mk fun ρ hρ => by
  have h5 := hρ (.func 131) _ rfl
  have hbx : w.heap[b]? = some (.cells cs.toArray tA) := hb
  have hgx : w.heap[g]? = some (.cells cur.toArray 83) := hg
  have hov : (callFunc 131 #[.slice (some ⟨b, 0, none⟩) n c, .slice (some ⟨g, o, none⟩) n2 c2]).run Try.prog w = .ok (.value (.bool false)) w := by
    rw [run_callFunc_extern Try.func131 (by kernel_rfl) (by kernel_rfl) (by kernel_rfl) (e := Extern.SlicesOverlaps.overlaps #[47, 47] #[4]) (by kernel_rfl),
      Lib.run_overlaps_apart w 47 4 83 Try.underlying47 4 (fun w => Siz.run Try.prog 83 (k := 4) w) ⟨b, 0, none⟩ ⟨g, o, none⟩ n c n2 c2 hne tA 83 cs.length cur.length (by simp [World.shape?, hbx]) (by simp [World.shape?, hgx]) (by omega) (by simp [World.frozen?, hbx]) (by simp [World.frozen?, hbx])]
    rfl
  simp [xop, execOp, resolve, h5, hρ x _ hx, hρ y _ hy, Deferred.ofValue, invoke, hov]
/-- a row's block, raw -/
theorem Own.raw {α : Type} {L : Lay α} {el : TypeId} {B : Nat} {S : Nat → Prop} {w : World} {g n c : Nat} {xs : List α} (h : Own L el B S w (.slice (some ⟨g, 0, none⟩) n c) xs) :
    ∃ (css : List (List Value)) (R : List Value), n = xs.length ∧ n ≤ c ∧ c ≤ maxLen ∧ B ≤ g ∧ css.length = xs.length ∧ (∀ c ∈ css, c.length = L.k) ∧ Box w g el (css.flatten ++ R) ∧ R.length = (c - n) * L.k ∧ ∀ (i : Nat) cs x, css[i]? = some cs → xs[i]? = some x → L.is (fun b => S b ∧ some b ≠ some g) w cs x := by
  obtain ⟨css, ho, hl, hi⟩ := h
  rcases ho.2 with ⟨hn, h0⟩ | ⟨g', cap, cur, he, hb, hg, hnc, hm, hcs, htake⟩
  · cases hn
  simp only [Value.slice.injEq, Option.some.injEq, Addr.mk.injEq, and_true] at he
  obtain ⟨rfl, rfl, rfl⟩ := he
  have hall : ∀ c ∈ css, c.length = L.k := fun cs hcs => by
    obtain ⟨m, hm', rfl⟩ := List.getElem_of_mem hcs
    exact L.len (hi m _ xs[m] (List.getElem?_eq_getElem hm') (List.getElem?_eq_getElem (by omega)))
  refine ⟨css, cur.toList.drop (xs.length * L.k), rfl, hnc, hm, hb, hl, hall, ?_, ?_, hi⟩
  · unfold Box
    rw [← htake, List.take_append_drop]
    simpa using hg
  · rw [List.length_drop, Array.length_toList, hcs, Nat.sub_mul]
theorem Own.mk' {α : Type} {L : Lay α} {el : TypeId} {B : Nat} {S : Nat → Prop} {w : World} {g c : Nat} {xs : List α} (css : List (List Value)) {R : List Value} (hc : xs.length ≤ c) (hm : c ≤ maxLen) (hB : B ≤ g) (hl : css.length = xs.length) (hall : ∀ c ∈ css, c.length = L.k) (hb : Box w g el (css.flatten ++ R)) (hR : R.length = (c - xs.length) * L.k)
    (hi : ∀ (i : Nat) cs x, css[i]? = some cs → xs[i]? = some x → L.is (fun b => S b ∧ some b ≠ some g) w cs x) : Own L el B S w (.slice (some ⟨g, 0, none⟩) xs.length c) xs := by
  have hfl : css.flatten.length = xs.length * L.k := by rw [flat_len hall, hl]
  refine ⟨css, ⟨hfl, .inr ⟨g, c, (css.flatten ++ R).toArray, rfl, hB, hb, hc, hm, ?_, ?_⟩⟩, hl, hi⟩
  · rw [List.size_toArray, List.length_append, hfl, hR, ← Nat.add_mul]
    congr 1
    omega
  · simp only
    rw [← hfl, List.take_left]
end Go.Proofs.Ytgckpmcdlciibab

namespace Go.Proofs.Ytgckpmcdlciibab
open Go.RowKit
theorem y_cap {P : Program} {e : Env} {w : World} {ty t el : TypeId} {x : Operand} {a : Option Addr} {n c : Nat} [Sli P t el] (hx : e.ev x = some (.slice a n c)) : Yld P (.call { callee := .builtin .cap, args := #[x], argTypes := #[t] }) ty e w (.int .i64 (c : Int)) := Yld.mk fun ρ hρ => by
  have h1 := run_underlying (Sli.h (P := P) (t := t) (el := el)) w
  simp [xop, execOp, hρ x _ hx, resolve, invoke, builtin, Builtin.cap_, h1, goInt]
theorem Grown.of_but {w w' : World} {g : Nat} (h : But g w w') : w.grownBy w' (some g) := ⟨h.os, h.tape, h.output, h.size, fun k hk hne => h.block k hk (fun e => hne (by rw [e]))⟩
theorem Grown.of_up {w w' : World} {r : Option Nat} (h : Up w w') : w.grownBy w' r := ⟨Below.os h, Below.tape h, Below.output h, h.size, fun _ hk _ => h.block hk⟩
theorem At.split {w : World} {b o : Nat} {xs ys : List Value} (h : At w b o (xs ++ ys)) : At w b o xs ∧ At w b (o + xs.length) ys := by
  refine ⟨fun j v hj => h j v ?_, fun j v hj => ?_⟩
  · rw [List.getElem?_append_left (List.getElem?_eq_some_iff.1 hj).1]
    exact hj
  · have := h (xs.length + j) v (by rw [List.getElem?_append_right (by omega), Nat.add_sub_cancel_left]; exact hj)
    rwa [← Nat.add_assoc] at this
theorem css_get {α : Type} {k : Nat} {L : Lay α} {S : Nat → Prop} {w : World} {css : List (List Value)} {xs : List α} {i : Nat} {x : α} {cx : List Value} (hl : css.length = xs.length) (hi : i ≤ xs.length) (hk : ∀ c ∈ css, c.length = k) (hx : cx.length = k)
    (h : ∀ (i : Nat) cs x, css[i]? = some cs → xs[i]? = some x → L.is S w cs x) (hc : L.is S w cx x) :
    (∀ (j : Nat) cs y, (css.take i ++ cx :: css.drop i)[j]? = some cs → (xs.take i ++ x :: xs.drop i)[j]? = some y → L.is S w cs y) ∧ (css.take i ++ cx :: css.drop i).length = (xs.take i ++ x :: xs.drop i).length ∧ ∀ c ∈ css.take i ++ cx :: css.drop i, c.length = k := by
  refine ⟨fun j cs y h1 h2 => ?_, by simp [hl], fun c hc => ?_⟩
  · have hcl : (css.take i).length = i := by rw [List.length_take]; omega
    have hxl : (xs.take i).length = i := by rw [List.length_take]; omega
    rcases Nat.lt_trichotomy j i with hj | hj | hj
    · rw [List.getElem?_append_left (by omega), List.getElem?_take, if_pos hj] at h1 h2
      exact h j cs y h1 h2
    · subst hj
      rw [List.getElem?_append_right (by omega)] at h1 h2
      simp only [hcl, hxl, Nat.sub_self, List.getElem?_cons_zero, Option.some.injEq] at h1 h2
      subst h1; subst h2
      exact hc
    · rw [List.getElem?_append_right (by omega)] at h1 h2
      obtain ⟨m, rfl⟩ : ∃ m, j = i + (m + 1) := ⟨j - i - 1, by omega⟩
      simp only [hcl, hxl, Nat.add_sub_cancel_left, List.getElem?_cons_succ, List.getElem?_drop] at h1 h2
      exact h _ cs y h1 h2
  · rcases List.mem_append.1 hc with h | h
    · exact hk c (List.mem_of_mem_take h)
    · rcases List.mem_cons.1 h with rfl | h
      · exact hx
      · exact hk c (List.mem_of_mem_drop h)
section
variable {P : Program} {f : FuncId} {N : Nat} {K : Act → World → Prop} {e : Env} {w : World} {R : Ending → World → Prop}
variable {ops : Array Oper} {rest : List Oper} {d : Nat} {ty : TypeId} {ps : String} {af : Array Edge} {gd : Option (Nat × Bool)} {v : Value}
/-- copy into a block that is known whole -/
theorem RL.cpy {t el : TypeId} {x y : Operand} {g o b o2 dn dc sn sc m k : Nat} {cur news : List Value} [Sli P t el] [Siz P el k] (hb : Box w g el cur) (hat : At w b o2 news) (hm : Nat.min sn dn = m) (hmk : m * k = news.length) (hfit : o + news.length ≤ cur.length) (h1 : ∀ u ∈ news, u.oneCell' = true)
    (h : ∀ w1, But g w w1 → Box w1 g el (cur.take o ++ news ++ cur.drop (o + news.length)) → RL P f N ops rest K ((d, .int .i64 (m : Int)) :: e) w1 R)
    (hw : Wants ops e gd := by first | exact trivial | exact ⟨_, _, rfl, rfl, rfl⟩) (hd : Nat.blt d N = true := by rfl) (hx : e.ev x = some (.slice (some ⟨g, o, none⟩) dn dc) := by rfl) (hy : e.ev y = some (.slice (some ⟨b, o2, none⟩) sn sc) := by rfl) :
    RL P f N ops ({ dst := some d, op := .call { callee := .builtin .copy, args := #[x, y], argTypes := #[t, t] }, type := ty, pos := ps, after := af, guard := gd } :: rest) K e w R :=
  RL.eff hw hd (e_copy hx hy hm hmk hat hb hfit h1) (h _ (But.setRow w g _) (setRow_heap w g cur.toArray _ el (0, 0) hb))
end
set_option maxHeartbeats 4000000 in
theorem Insert_Ph {B bl i : Nat} {v : Value} {hs : List Ph} {x : Ph} (w : World) (h : Own phLay 83 B Nn w v hs) (hx : Box w bl 83 [.string x.name, x.fv, x.ov, x.hv]) (h1 : x.fv.oneCell' = true ∧ x.ov.oneCell' = true ∧ x.hv.oneCell' = true) (hne : some bl ≠ v.ownBlock) (hi : i ≤ hs.length) (hsz : hs.length ≤ 1000000) (hB : B ≤ w.heap.size) :
    Calls Try.prog 102 #[v, .int .i64 (i : Int), .slice (some ⟨bl, 0, none⟩) 1 1] w fun en w' => ∃ v', en = .returned v' ∧ w.grownBy w' v.ownBlock ∧ (∀ g, v'.ownBlock = some g → v.ownBlock = some g ∨ w.heap.size ≤ g) ∧ Own phLay 83 B Nn w' v' (hs.take i ++ x :: hs.drop i) := by
  refine calls_of_sim Try.func102 rfl (Nat.le_of_ble_eq_true rfl) ?_
  obtain ⟨a, c, rfl⟩ := h.shape
  obtain ⟨_, c', ee, hnc, hcm, _⟩ := (h.no (S' := Nn)).sl (S' := fun _ => True) (fun _ h _ _ => h.elim) (fun _ _ => trivial)
  simp only [Value.slice.injEq] at ee
  obtain ⟨rfl, _, rfl⟩ := ee
  unfold maxLen at hcm
  repeat (first | refine RL.vv ?_ | refine RL.p ?_ | refine RL.nil ?_ | refine Sim.seq ?_ | refine Sim.region ?_ | refine Sim.block ?_ | refine Sim.skip ?_ | refine Sim.inBlock ?_ | refine Sim.exit rfl ?_ | refine Sim.condT rfl ?_ | refine Sim.condF rfl ?_)
  refine RL.vv ?_ (hy := y_sliceLo (i := i) (k := 4) rfl rfl hi hnc)
  by_cases hin : (i : Int) = (hs.length : Int)
  · have hin' : i = hs.length := by omega
    subst hin'
    repeat (first | refine RL.vv ?_ | refine RL.p ?_ | refine RL.nil ?_ | refine Sim.seq ?_ | refine Sim.region ?_ | refine Sim.block ?_ | refine Sim.skip ?_ | refine Sim.inBlock ?_ | refine Sim.exit rfl ?_ | refine Sim.condT rfl ?_ | refine Sim.condF rfl ?_)
    obtain ⟨v', w1, hr, h2, h3, h4⟩ := append_wide (P := Try.prog) (t := 47) (el := 83) (L := phLay) 47 rfl (by decide) (h.no (S' := fun _ => True)) (ys := [x]) (SliceOf.one hx ⟨trivial, hne⟩ ⟨rfl, h1⟩) (by simp; omega) hB
    refine RL.eff trivial rfl (e_append rfl rfl hr) ?_
    repeat (first | refine RL.vv ?_ | refine RL.p ?_ | refine RL.nil ?_ | refine Sim.seq ?_ | refine Sim.region ?_ | refine Sim.block ?_ | refine Sim.skip ?_ | refine Sim.inBlock ?_ | refine Sim.exit rfl ?_ | refine Sim.condT rfl ?_ | refine Sim.condF rfl ?_)
    exact Sim.ret1 Try.func102 rfl rfl ⟨v', rfl, h3, fun g hg => (h4 g hg).imp id (fun e => by omega), by simpa using h2.no⟩
  obtain ⟨g, c2, hp⟩ := h.pos (by omega)
  simp only [Value.slice.injEq, true_and] at hp
  obtain ⟨rfl, rfl⟩ := hp
  obtain ⟨css, Rr, _, _, hm, hBg, hl, hall, hg, hRl, his⟩ := h.raw
  have hall : ∀ c ∈ css, c.length = 4 := hall
  have hRl : Rr.length = (c - hs.length) * 4 := hRl
  obtain ⟨hi1, hi2, hi3⟩ := css_get (cx := [.string x.name, x.fv, x.ov, x.hv]) hl hi hall rfl his ⟨rfl, h1⟩
  have hcf : (css.take i ++ [.string x.name, x.fv, x.ov, x.hv] :: css.drop i).flatten = (css.take i).flatten ++ ([.string x.name, x.fv, x.ov, x.hv] ++ (css.drop i).flatten) := by rw [List.flatten_append, List.flatten_cons]
  have hsp : css.flatten = (css.take i).flatten ++ (css.drop i).flatten := by rw [← List.flatten_append, List.take_append_drop]
  have hone : ∀ u ∈ css.flatten, u.oneCell' = true := fun u hu => by
    obtain ⟨cs, hcs, hu⟩ := List.mem_flatten.1 hu
    obtain ⟨m, hm', rfl⟩ := List.getElem_of_mem hcs
    exact OneC.h (his m _ hs[m] (List.getElem?_eq_getElem hm') (List.getElem?_eq_getElem (by omega))) u hu
  have hl1 : (css.take i).flatten.length = i * 4 := by rw [flat_len (fun c hc => hall c (List.mem_of_mem_take hc)), List.length_take]; congr 1; omega
  have hl2 : (css.drop i).flatten.length = (hs.length - i) * 4 := by rw [flat_len (fun c hc => hall c (List.mem_of_mem_drop hc)), List.length_drop, hl]
  have hX1 : ∀ u ∈ [.string x.name, x.fv, x.ov, x.hv], u.oneCell' = true := fun u hu => by
    simp only [List.mem_cons, List.not_mem_nil, or_false] at hu
    rcases hu with rfl | rfl | rfl | rfl
    · rfl
    · exact h1.1
    · exact h1.2.1
    · exact h1.2.2
  have hF2 : ∀ u ∈ (css.drop i).flatten, u.oneCell' = true := fun u hu => hone u (by rw [hsp]; exact List.mem_append_right _ hu)
  rw [hsp, List.append_assoc] at hg
  have hat1 : At w g 0 (css.take i).flatten := (At.split hg.at).1
  have hat2 : At w g (i * 4) (css.drop i).flatten := by
    have := (At.split (At.split hg.at).2).1
    rwa [hl1, Nat.zero_add] at this
  generalize hF1 : (css.take i).flatten = F1 at *
  generalize hF2e : (css.drop i).flatten = F2 at *
  have hbl : bl ≠ g := fun e => hne (by rw [e]; rfl)
  have hiln : i < hs.length := by omega
  have hlen' : (hs.take i ++ x :: hs.drop i).length = hs.length + 1 := by simp; omega
  repeat (first | refine RL.vv ?_ | refine RL.p ?_ | refine RL.nil ?_ | refine Sim.seq ?_ | refine Sim.region ?_ | refine Sim.block ?_ | refine Sim.skip ?_ | refine Sim.inBlock ?_ | refine Sim.exit rfl ?_ | refine Sim.condT rfl ?_ | refine Sim.condF rfl ?_)
  refine RL.vv ?_ (hy := y_cap rfl)
  by_cases hroom : (c : Int) < ((hs.length + 1 : Nat) : Int)
  · repeat (first | refine RL.vv ?_ | refine RL.p ?_ | refine RL.nil ?_ | refine Sim.seq ?_ | refine Sim.region ?_ | refine Sim.block ?_ | refine Sim.skip ?_ | refine Sim.inBlock ?_ | refine Sim.exit rfl ?_ | refine Sim.condT rfl ?_ | refine Sim.condF rfl ?_)
    refine RL.vv ?_ (hy := y_sub (d := ((hs.length + 1 - i : Nat) : Int)) rfl rfl (by omega) (by omega) (by omega))
    refine RL.eff trivial rfl (e_zeros (b := g) (o := 0) (k := 4) (n := i) (c := c) (m := hs.length + 1 - i) (news := F1) rfl rfl (by omega) hat1 (by decide) (by omega) (by omega) (by omega) (by decide)) ?_
    obtain ⟨Z, hZe, hZl⟩ : ∃ Z : List Value, (F1.toArray ++ Builtin.zeroCells (Value.cells (.agg #[.string ⟨#[]⟩, .slice none 0 0, .slice none 0 0, .slice none 0 0])) (hs.length + 1 - i) ++ Builtin.zeroCells (Value.cells (.agg #[.string ⟨#[]⟩, .slice none 0 0, .slice none 0 0, .slice none 0 0])) (grownCap w (i + (hs.length + 1 - i)) c 83 - (i + (hs.length + 1 - i)))) = (F1 ++ Z).toArray ∧ Z.length = (grownCap w (i + (hs.length + 1 - i)) c 83 - i) * 4 := by
      refine ⟨(Builtin.zeroCells (Value.cells (.agg #[.string ⟨#[]⟩, .slice none 0 0, .slice none 0 0, .slice none 0 0])) (hs.length + 1 - i) ++ Builtin.zeroCells (Value.cells (.agg #[.string ⟨#[]⟩, .slice none 0 0, .slice none 0 0, .slice none 0 0])) (grownCap w (i + (hs.length + 1 - i)) c 83 - (i + (hs.length + 1 - i)))).toList, by simp, ?_⟩
      have := grownCap_ge w (i + (hs.length + 1 - i)) c 83
      simp only [Builtin.zeroCells, Value.cells, Array.length_toList, Array.size_append, Array.size_map, Array.size_range, List.size_toArray, List.length_cons, List.length_nil]
      omega
    rw [hZe]
    have hcg := grownCap_ge w (i + (hs.length + 1 - i)) c 83
    have hcm2 := grownCap_le_maxLen w (i + (hs.length + 1 - i)) c 83 (by simp only [maxLen]; omega)
    have hu1 : Up w (w.drew.alloc (.cells (F1 ++ Z).toArray 83)) := (Up.drew w).trans (Up.alloc _ _)
    have hb1 : Box (w.drew.alloc (.cells (F1 ++ Z).toArray 83)) w.heap.size 83 (F1 ++ Z) := Box.new w.drew (F1 ++ Z) _
    generalize w.drew.alloc (.cells (F1 ++ Z).toArray 83) = w1 at *
    generalize grownCap w (i + (hs.length + 1 - i)) c 83 = c3 at *
    rw [show i + (hs.length + 1 - i) = hs.length + 1 by omega] at hcg ⊢
    have hgn := hg.lt
    have hxn := hx.lt
    generalize hnb : w.heap.size = nb at *
    have hx1 := hx.up hu1
    have hat2 := hat2.up hu1
    repeat (first | refine RL.vv ?_ | refine RL.p ?_ | refine RL.nil ?_ | refine Sim.seq ?_ | refine Sim.region ?_ | refine Sim.block ?_ | refine Sim.skip ?_ | refine Sim.inBlock ?_ | refine Sim.exit rfl ?_ | refine Sim.condT rfl ?_ | refine Sim.condF rfl ?_)
    refine RL.vv ?_ (hy := y_sliceLo (i := i) (k := 4) rfl rfl (by omega) (by omega))
    rw [dropV_some (by omega)]
    repeat (first | refine RL.vv ?_ | refine RL.p ?_ | refine RL.nil ?_ | refine Sim.seq ?_ | refine Sim.region ?_ | refine Sim.block ?_ | refine Sim.skip ?_ | refine Sim.inBlock ?_ | refine Sim.exit rfl ?_ | refine Sim.condT rfl ?_ | refine Sim.condF rfl ?_)
    refine RL.cpy (m := 1) (k := 4) (o := i * 4) (o2 := 0) (dn := hs.length + 1 - i) (dc := c3 - i) (sn := 1) (sc := 1) hb1 hx1.at (Nat.min_eq_left (by omega)) rfl (by simp; omega) hX1 fun w2 hbt hb2 => ?_
    have hu2 : Up w w2 := Up.but hu1 hbt (by omega)
    have hat2 := hat2.keep hbt.keep (by omega)
    repeat (first | refine RL.vv ?_ | refine RL.p ?_ | refine RL.nil ?_ | refine Sim.seq ?_ | refine Sim.region ?_ | refine Sim.block ?_ | refine Sim.skip ?_ | refine Sim.inBlock ?_ | refine Sim.exit rfl ?_ | refine Sim.condT rfl ?_ | refine Sim.condF rfl ?_)
    refine Sim.ord (fun _ => True) ?_
    refine RO.tk 0 ?_ (hS := trivial)
    refine RO.tk 1 ?_ (hS := trivial)
    refine RO.tk 2 ?_ (hS := trivial)
    refine RO.tk 3 ?_ (hS := trivial)
    refine RO.tk 4 ?_ (hS := trivial) (hy := fun wq hq => y_sliceLo (i := i + 1) (k := 4) rfl rfl (by omega) (by omega))
    refine RO.tk 5 ?_ (hS := trivial)
    refine RO.tk 6 ?_ (hS := trivial)
    refine RO.tk 7 ?_ (hS := trivial) (hy := fun wq hq => y_sliceLo (i := i) (k := 4) rfl rfl (by omega) (by omega))
    rw [dropV_some (by omega), dropV_some (by omega)]
    refine RO.one 8 ?_
    have hu2d := hu2.trans (Up.drew w2)
    refine RL.cpy (m := hs.length - i) (k := 4) (o := (i + 1) * 4) (o2 := i * 4) (dn := hs.length + 1 - (i + 1)) (dc := c3 - (i + 1)) (sn := hs.length - i) (sc := c - i) (hb2.up (Up.drew w2)) (hat2.up (Up.drew w2)) (Nat.min_eq_left (by omega)) (by omega) (by simp; omega) hF2 fun w3 hbt3 hb3 => ?_
    have hu3 : Up w w3 := Up.but hu2d hbt3 (by omega)
    refine RL.ord trivial ?_
    refine RO.done (RL.nil ?_)
    repeat (first | refine RL.vv ?_ | refine RL.p ?_ | refine RL.nil ?_ | refine Sim.seq ?_ | refine Sim.region ?_ | refine Sim.block ?_ | refine Sim.skip ?_ | refine Sim.inBlock ?_ | refine Sim.exit rfl ?_ | refine Sim.condT rfl ?_ | refine Sim.condF rfl ?_)
    have hfin := ins_new (A := F1 ++ Z) (F1 := F1) (F2 := F2) (X := [.string x.name, x.fv, x.ov, x.hv]) (Z := Z) rfl (by simp; omega)
    refine Sim.ret1 Try.func102 rfl rfl ⟨_, rfl, Grown.of_up hu3, fun g hg => .inr (by simp [Value.ownBlock] at hg; omega), ?_⟩
    rw [← hlen']
    refine Own.mk' (css.take i ++ [.string x.name, x.fv, x.ov, x.hv] :: css.drop i) (R := Z.drop (4 + F2.length)) (by omega) hcm2 (by omega) hi2 hi3 ?_ (by rw [List.length_drop, hZl, hl2, hlen']; show _ = (c3 - _) * 4; omega) (fun i cs y h1 h2 => Flat.h (hi1 i cs y h1 h2))
    rw [hcf]
    rw [show (i + 1) * 4 = i * 4 + 4 by omega] at hb3
    simp only [hl1, List.length_cons, List.length_nil, Nat.zero_add, Nat.reduceAdd] at hfin hb3
    rw [hfin] at hb3
    simpa [List.append_assoc] using hb3
  repeat (first | refine RL.vv ?_ | refine RL.p ?_ | refine RL.nil ?_ | refine Sim.seq ?_ | refine Sim.region ?_ | refine Sim.block ?_ | refine Sim.skip ?_ | refine Sim.inBlock ?_ | refine Sim.exit rfl ?_ | refine Sim.condT rfl ?_ | refine Sim.condF rfl ?_)
  have hcur : (F1 ++ (F2 ++ Rr)).length = c * 4 := by simp only [List.length_append]; omega
  refine RL.vv ?_ (hy := y_sliceLo (i := i + 1) (k := 4) rfl rfl (by omega) (by omega))
  rw [dropV_some (by omega)]
  refine RL.vv ?_ (hy := y_apart rfl rfl hx hg hbl (by omega))
  repeat (first | refine RL.vv ?_ | refine RL.p ?_ | refine RL.nil ?_ | refine Sim.seq ?_ | refine Sim.region ?_ | refine Sim.block ?_ | refine Sim.skip ?_ | refine Sim.inBlock ?_ | refine Sim.exit rfl ?_ | refine Sim.condT rfl ?_ | refine Sim.condF rfl ?_)
  have hS := Up.drew w
  refine Sim.ord (fun _ => True) ?_
  refine RO.tk 0 ?_ (hS := trivial)
  refine RO.tk 1 ?_ (hS := trivial)
  refine RO.tk 2 ?_ (hS := trivial)
  refine RO.tk 3 ?_ (hS := trivial)
  refine RO.tk 4 ?_ (hS := trivial) (hy := fun wq hq => y_sliceLo (i := i + 1) (k := 4) rfl rfl (by omega) (by omega))
  refine RO.tk 5 ?_ (hS := trivial)
  refine RO.tk 6 ?_ (hS := trivial)
  refine RO.tk 7 ?_ (hS := trivial) (hy := fun wq hq => y_sliceLo (i := i) (k := 4) rfl rfl (by omega) (by omega))
  rw [dropV_some (by omega), dropV_some (by omega)]
  refine RO.one 8 ?_
  have hin1 : Nat.min (hs.length + 1 - i) (hs.length + 1 - (i + 1)) = hs.length - i := (Nat.min_eq_right (by omega)).trans (by omega)
  refine RL.cpy (m := hs.length - i) (k := 4) (o := (i + 1) * 4) (o2 := i * 4) (dn := hs.length + 1 - (i + 1)) (dc := c - (i + 1)) (sn := hs.length + 1 - i) (sc := c - i) (hg.up hS) (hat2.up hS) hin1 (by omega) (by omega) hF2 fun w1 hbt hb1 => ?_
  refine RL.ord trivial ?_
  refine RO.done (RL.nil ?_)
  have hbt := (But.of_up hS).trans hbt
  have hx1 := hx.but hbt hbl
  repeat (first | refine RL.vv ?_ | refine RL.p ?_ | refine RL.nil ?_ | refine Sim.seq ?_ | refine Sim.region ?_ | refine Sim.block ?_ | refine Sim.skip ?_ | refine Sim.inBlock ?_ | refine Sim.exit rfl ?_ | refine Sim.condT rfl ?_ | refine Sim.condF rfl ?_)
  refine RL.vv ?_ (hy := y_sliceLo (i := i) (k := 4) rfl rfl (by omega) (by omega))
  rw [dropV_some (by omega)]
  repeat (first | refine RL.vv ?_ | refine RL.p ?_ | refine RL.nil ?_ | refine Sim.seq ?_ | refine Sim.region ?_ | refine Sim.block ?_ | refine Sim.skip ?_ | refine Sim.inBlock ?_ | refine Sim.exit rfl ?_ | refine Sim.condT rfl ?_ | refine Sim.condF rfl ?_)
  refine RL.cpy (m := 1) (k := 4) (o := i * 4) (o2 := 0) (dn := hs.length + 1 - i) (dc := c - i) (sn := 1) (sc := 1) hb1 hx1.at (Nat.min_eq_left (by omega)) rfl (by simp; omega) hX1 fun w2 hbt2 hb2 => ?_
  repeat (first | refine RL.vv ?_ | refine RL.p ?_ | refine RL.nil ?_ | refine Sim.seq ?_ | refine Sim.region ?_ | refine Sim.block ?_ | refine Sim.skip ?_ | refine Sim.inBlock ?_ | refine Sim.exit rfl ?_ | refine Sim.condT rfl ?_ | refine Sim.condF rfl ?_)
  have hfin := ins_place (A := F1 ++ (F2 ++ Rr)) (F1 := F1) (F2 := F2) (X := [.string x.name, x.fv, x.ov, x.hv]) (R := Rr) rfl (by simp; omega)
  refine Sim.ret1 Try.func102 rfl rfl ⟨_, rfl, Grown.of_but (hbt.trans hbt2), fun g hg => .inl hg, ?_⟩
  rw [← hlen']
  refine Own.mk' (css.take i ++ [.string x.name, x.fv, x.ov, x.hv] :: css.drop i) (R := Rr.drop 4) (by omega) hm hBg hi2 hi3 ?_ (by rw [List.length_drop, hRl, hlen']; show _ = (c - _) * 4; omega) (fun i cs y h1 h2 => Flat.h (hi1 i cs y h1 h2))
  rw [hcf]
  rw [show (i + 1) * 4 = i * 4 + 4 by omega] at hb2
  simp only [hl1, List.length_cons, List.length_nil, Nat.zero_add, Nat.reduceAdd] at hfin hb2
  rw [hfin] at hb2
  simpa [List.append_assoc] using hb2
end Go.Proofs.Ytgckpmcdlciibab

namespace Go.Proofs.Ytgckpmcdlciibab
open Go.RowKit
abbrev Lab := Nat → Option (Option (Str × Nat))
/-- what is not ours is as it was -/
structure Off (lab : Lab) (w w' : World) : Prop where
  os : w'.os = w.os
  tape : w'.tape = w.tape
  output : w'.output = w.output
  size : w.heap.size ≤ w'.heap.size
  block : ∀ b, b < w.heap.size → lab b = none → w'.heap[b]? = w.heap[b]?
theorem Off.refl (lab : Lab) (w : World) : Off lab w w := ⟨rfl, rfl, rfl, Nat.le_refl _, fun _ _ _ => rfl⟩
theorem Off.of_up {lab : Lab} {w w' : World} (h : Up w w') : Off lab w w' := ⟨Below.os h, Below.tape h, Below.output h, h.size, fun _ hb _ => h.block hb⟩
theorem Off.trans {lab lab' : Lab} {x y z : World} (h : Off lab x y) (k : Off lab' y z) (hl : ∀ b, b < x.heap.size → lab' b = lab b) : Off lab x z :=
  ⟨k.os.trans h.os, k.tape.trans h.tape, k.output.trans h.output, Nat.le_trans h.size k.size, fun b hb hn => (k.block b (Nat.lt_of_lt_of_le hb h.size) (by rw [hl b hb]; exact hn)).trans (h.block b hb hn)⟩
theorem Off.of_grown {lab : Lab} {w w' : World} {r : Option Nat} (h : w.grownBy w' r) (hr : ∀ g, r = some g → lab g ≠ none) : Off lab w w' :=
  ⟨h.os, h.tape, h.output, h.size, fun b hb hn => h.block b hb fun e => hr b e.symm hn⟩
theorem Off.of_but {lab : Lab} {w w' : World} {g : Nat} (h : But g w w') (hg : lab g ≠ none) : Off lab w w' :=
  ⟨h.os, h.tape, h.output, h.size, fun b hb hn => h.block b hb fun e => hg (by rw [← e]; exact hn)⟩
theorem Off.up {lab : Lab} {w0 w w' : World} {B : Nat} (h : Off lab w w') (hu : Up w0 w) (hB : w0.heap.size ≤ B) (hl : ∀ b, b < B → lab b = none) : Up w0 w' :=
  Below.trans (b := w) hu ⟨h.os, h.tape, h.output, h.size, fun b hb => h.block b (Nat.lt_of_lt_of_le hb hu.size) (hl b (by omega))⟩
theorem Off.keep {lab : Lab} {w w' : World} (h : Off lab w w') : Keep (fun b => lab b = none) w w' := fun b hb hlt => h.block b hlt hb
def relab (lab : Lab) (v : Value) (c : Option (Str × Nat)) : Lab := fun b => if v.ownBlock = some b then some c else lab b
theorem relab_old {lab : Lab} {v v' : Value} {c : Option (Str × Nat)} {m : Nat} (h : ∀ g, v.ownBlock = some g → lab g = some c) (hv : ∀ g, v'.ownBlock = some g → v.ownBlock = some g ∨ m ≤ g) : ∀ b, b < m → relab lab v' c b = lab b := fun b hb => by
  unfold relab
  split
  · rename_i h1
    rcases hv b h1 with h2 | h2
    · exact (h b h2).symm
    · omega
  · rfl
theorem relab_own {lab : Lab} {v : Value} {c : Option (Str × Nat)} : ∀ g, v.ownBlock = some g → relab lab v c g = some c := fun g hg => by
  unfold relab
  rw [if_pos hg]
structure PartsAt (B : Nat) (w : World) (v : Value) (hds : List Ph) (ps : List Prt) (lab : Lab) : Prop where
  base : ∀ b, b < B → lab b = none
  row : Own phLay 83 B Nn w v hds
  own0 : ∀ g, v.ownBlock = some g → lab g = some none
  names : hds.map (·.name) = ps.map (·.type.name)
  fs : ∀ (i : Nat) h p, hds[i]? = some h → ps[i]? = some p → Own fldLay 86 B Nn w h.fv p.type.fields ∧ ∀ g, h.fv.ownBlock = some g → lab g = some (some (p.type.name, 0))
  os : ∀ (i : Nat) h p, hds[i]? = some h → ps[i]? = some p → Own ownLay 89 B Nn w h.ov p.owners ∧ ∀ g, h.ov.ownBlock = some g → lab g = some (some (p.type.name, 1))
  hs : ∀ (i : Nat) h p, hds[i]? = some h → ps[i]? = some p → Own ownLay 89 B Nn w h.hv p.homes ∧ ∀ g, h.hv.ownBlock = some g → lab g = some (some (p.type.name, 2))
section
variable {B : Nat} {w w1 : World} {v : Value} {hds : List Ph} {ps : List Prt} {lab : Lab}
theorem PartsAt.up (h : PartsAt B w v hds ps lab) (hu : Up w w1) : PartsAt B w1 v hds ps lab :=
  ⟨h.base, h.row.up hu, h.own0, h.names, fun i a p h1 h2 => ⟨(h.fs i a p h1 h2).1.up hu, (h.fs i a p h1 h2).2⟩, fun i a p h1 h2 => ⟨(h.os i a p h1 h2).1.up hu, (h.os i a p h1 h2).2⟩, fun i a p h1 h2 => ⟨(h.hs i a p h1 h2).1.up hu, (h.hs i a p h1 h2).2⟩⟩
theorem PartsAt.nil (B : Nat) (w : World) : PartsAt B w (.slice none 0 0) [] [] (fun _ => none) := ⟨fun _ _ => rfl, Own.nil _ _ _ _ _, fun g h => (by cases h), rfl, fun i h s h1 _ => (by simp at h1), fun i h s h1 _ => (by simp at h1), fun i h s h1 _ => (by simp at h1)⟩
theorem PartsAt.len (h : PartsAt B w v hds ps lab) : hds.length = ps.length := by simpa using congrArg List.length h.names
theorem PartsAt.hd (h : PartsAt B w v hds ps lab) {i : Nat} {p : Prt} (hp : ps[i]? = some p) : ∃ a, hds[i]? = some a ∧ a.name = p.type.name := by
  have hlt := (List.getElem?_eq_some_iff.1 hp).1
  have hx : hds[i]? = some (hds[i]'(by rw [h.len]; exact hlt)) := List.getElem?_eq_getElem _
  refine ⟨_, hx, ?_⟩
  have := congrArg (fun l => l[i]?) h.names
  simp only [List.getElem?_map, hx, hp, Option.map_some, Option.some.injEq] at this
  exact this
/-- one element, and the rows it leads to, are written -/
theorem PartsAt.step {lab' : Lab} (h : PartsAt B w v hds ps lab) (hnd : (ps.map (·.type.name)).Nodup) {k : Nat} {p : Prt} (hp : ps[k]? = some p) (hd' : Ph) (p' : Prt) (hrow : Own phLay 83 B Nn w1 v (hds.set k hd')) (hn : hd'.name = p.type.name ∧ p'.type.name = p.type.name)
    (hbase : ∀ b, b < B → lab' b = none) (hlab : ∀ b, b < w.heap.size → lab' b = lab b) (hkeep : ∀ b, b < w.heap.size → lab b ≠ some none → (∀ c, lab b ≠ some (some (p.type.name, c))) → w1.heap[b]? = w.heap[b]?)
    (hf : Own fldLay 86 B Nn w1 hd'.fv p'.type.fields ∧ ∀ g, hd'.fv.ownBlock = some g → lab' g = some (some (p.type.name, 0))) (ho : Own ownLay 89 B Nn w1 hd'.ov p'.owners ∧ ∀ g, hd'.ov.ownBlock = some g → lab' g = some (some (p.type.name, 1))) (hh : Own ownLay 89 B Nn w1 hd'.hv p'.homes ∧ ∀ g, hd'.hv.ownBlock = some g → lab' g = some (some (p.type.name, 2))) :
    PartsAt B w1 v (hds.set k hd') (ps.set k p') lab' := by
  have hlt := (List.getElem?_eq_some_iff.1 hp).1
  have hlt' : k < hds.length := by rw [h.len]; exact hlt
  have hother : ∀ (i : Nat) q, i ≠ k → ps[i]? = some q → q.type.name ≠ p.type.name := fun i q hik hq e => by
    refine hik ?_
    have h1 : (ps.map (·.type.name))[i]? = some q.type.name := by rw [List.getElem?_map, hq]; rfl
    have h2 : (ps.map (·.type.name))[k]? = some q.type.name := by rw [List.getElem?_map, hp, e]; rfl
    obtain ⟨hi', _⟩ := List.getElem?_eq_some_iff.1 h1
    exact (List.getElem?_inj hi' hnd).1 (h1.trans h2.symm)
  refine ⟨hbase, hrow, fun g hg => by rw [hlab g (h.row.lt g hg).2]; exact h.own0 g hg, ?_, fun i a q h1 h2 => ?_, fun i a q h1 h2 => ?_, fun i a q h1 h2 => ?_⟩
  · rw [List.map_set, List.map_set, h.names, hn.1, hn.2]
  all_goals
    by_cases hik : i = k
    · subst hik
      rw [List.getElem?_set_self hlt'] at h1
      rw [List.getElem?_set_self hlt] at h2
      cases h1; cases h2
      rw [hn.2]
      assumption
    · rw [List.getElem?_set_ne (by omega)] at h1 h2
      have hne := hother i q hik h2
      first
      | (obtain ⟨h3, h4⟩ := h.fs i a q h1 h2
         exact ⟨h3.keep (S' := fun b => lab b = some (some (q.type.name, 0))) (fun b hb hlt => hkeep b hlt (by rw [hb]; simp) (fun c => by rw [hb]; simp [hne])) (fun _ h => h.elim) h4, fun g hg => by rw [hlab g (h3.lt g hg).2]; exact h4 g hg⟩)
      | (obtain ⟨h3, h4⟩ := h.os i a q h1 h2
         exact ⟨h3.keep (S' := fun b => lab b = some (some (q.type.name, 1))) (fun b hb hlt => hkeep b hlt (by rw [hb]; simp) (fun c => by rw [hb]; simp [hne])) (fun _ h => h.elim) h4, fun g hg => by rw [hlab g (h3.lt g hg).2]; exact h4 g hg⟩)
      | (obtain ⟨h3, h4⟩ := h.hs i a q h1 h2
         exact ⟨h3.keep (S' := fun b => lab b = some (some (q.type.name, 2))) (fun b hb hlt => hkeep b hlt (by rw [hb]; simp) (fun c => by rw [hb]; simp [hne])) (fun _ h => h.elim) h4, fun g hg => by rw [hlab g (h3.lt g hg).2]; exact h4 g hg⟩)
/-- a new type, without fields -/
theorem PartsAt.insert {v' : Value} {lab' : Lab} {k : Nat} {n : Str} (h : PartsAt B w v hds ps lab) (hrow : Own phLay 83 B Nn w1 v' (hds.take k ++ ⟨n, .slice none 0 0, .slice none 0 0, .slice none 0 0⟩ :: hds.drop k)) (hk : k ≤ ps.length)
    (hbase : ∀ b, b < B → lab' b = none) (hlab : ∀ b, b < w.heap.size → lab' b = lab b) (hkeep : ∀ b, b < w.heap.size → lab b ≠ some none → w1.heap[b]? = w.heap[b]?) (hown : ∀ g, v'.ownBlock = some g → lab' g = some none) :
    PartsAt B w1 v' (hds.take k ++ ⟨n, .slice none 0 0, .slice none 0 0, .slice none 0 0⟩ :: hds.drop k) (ps.take k ++ ⟨⟨n, []⟩, [], []⟩ :: ps.drop k) lab' := by
  have hl := h.len
  have hwhere : ∀ (i : Nat) a q, (hds.take k ++ ⟨n, .slice none 0 0, .slice none 0 0, .slice none 0 0⟩ :: hds.drop k)[i]? = some a → (ps.take k ++ ⟨⟨n, []⟩, [], []⟩ :: ps.drop k)[i]? = some q →
      (a = ⟨n, .slice none 0 0, .slice none 0 0, .slice none 0 0⟩ ∧ q = ⟨⟨n, []⟩, [], []⟩) ∨ ∃ j, hds[j]? = some a ∧ ps[j]? = some q := fun i a q h1 h2 => by
    have hcl : (hds.take k).length = k := by rw [List.length_take]; omega
    have hxl : (ps.take k).length = k := by rw [List.length_take]; omega
    rcases Nat.lt_trichotomy i k with hj | hj | hj
    · rw [List.getElem?_append_left (by omega), List.getElem?_take, if_pos hj] at h1 h2
      exact .inr ⟨i, h1, h2⟩
    · subst hj
      rw [List.getElem?_append_right (by omega)] at h1 h2
      simp only [hcl, hxl, Nat.sub_self, List.getElem?_cons_zero, Option.some.injEq] at h1 h2
      exact .inl ⟨h1.symm, h2.symm⟩
    · rw [List.getElem?_append_right (by omega)] at h1 h2
      obtain ⟨m, rfl⟩ : ∃ m, i = k + (m + 1) := ⟨i - k - 1, by omega⟩
      simp only [hcl, hxl, Nat.add_sub_cancel_left, List.getElem?_cons_succ, List.getElem?_drop] at h1 h2
      exact .inr ⟨_, h1, h2⟩
  refine ⟨hbase, hrow, hown, ?_, fun i a q h1 h2 => ?_, fun i a q h1 h2 => ?_, fun i a q h1 h2 => ?_⟩
  · rw [List.map_append, List.map_cons, List.map_append, List.map_cons, List.map_take, List.map_drop, List.map_take, List.map_drop, h.names]
  all_goals
    rcases hwhere i a q h1 h2 with ⟨rfl, rfl⟩ | ⟨j, h3, h4⟩
    · exact ⟨Own.nil _ _ _ _ _, fun g hg => (by cases hg)⟩
    · first
      | (obtain ⟨h5, h6⟩ := h.fs j a q h3 h4
         exact ⟨h5.keep (S' := fun b => lab b = some (some (q.type.name, 0))) (fun b hb hlt => hkeep b hlt (by rw [hb]; simp)) (fun _ h => h.elim) h6, fun g hg => by rw [hlab g (h5.lt g hg).2]; exact h6 g hg⟩)
      | (obtain ⟨h5, h6⟩ := h.os j a q h3 h4
         exact ⟨h5.keep (S' := fun b => lab b = some (some (q.type.name, 1))) (fun b hb hlt => hkeep b hlt (by rw [hb]; simp)) (fun _ h => h.elim) h6, fun g hg => by rw [hlab g (h5.lt g hg).2]; exact h6 g hg⟩)
      | (obtain ⟨h5, h6⟩ := h.hs j a q h3 h4
         exact ⟨h5.keep (S' := fun b => lab b = some (some (q.type.name, 2))) (fun b hb hlt => hkeep b hlt (by rw [hb]; simp)) (fun _ h => h.elim) h6, fun g hg => by rw [hlab g (h5.lt g hg).2]; exact h6 g hg⟩)
theorem PartsAt.put_fv {g n c k : Nat} {a : Ph} {p : Prt} {v1 : Value} {S : Nat → Prop} {ys : List Fld} {wA w2 : World} (h : PartsAt B w (.slice (some ⟨g, 0, none⟩) n c) hds ps lab) (hnd : (ps.map (·.type.name)).Nodup) (hp : ps[k]? = some p) (ha : hds[k]? = some a) (hA : Up w wA) (hg : wA.grownBy w1 a.fv.ownBlock) (ho : Own fldLay 86 B S w1 v1 ys) (hv : ∀ g, v1.ownBlock = some g → a.fv.ownBlock = some g ∨ g = wA.heap.size)
    (hb : But g w1 w2) (hrow : Own phLay 83 B Nn w2 (.slice (some ⟨g, 0, none⟩) n c) (hds.set k ⟨a.name, v1, a.ov, a.hv⟩)) :
    PartsAt B w2 (.slice (some ⟨g, 0, none⟩) n c) (hds.set k ⟨a.name, v1, a.ov, a.hv⟩) (ps.set k ⟨⟨p.type.name, ys⟩, p.owners, p.homes⟩) (relab lab v1 (some (p.type.name, 0))) ∧ Off lab w w2 ∧ (∀ b, b < w.heap.size → relab lab v1 (some (p.type.name, 0)) b = lab b) := by
  have hg0 := h.own0 g rfl
  have hgl := (h.row.lt g rfl).2
  have hAs := hA.size
  obtain ⟨h1, h2⟩ := h.fs k a p ha hp
  have hrl : ∀ b, b < w.heap.size → relab lab v1 (some (p.type.name, 0)) b = lab b := relab_old h2 fun g hg => (hv g hg).imp id (fun e => by omega)
  have hnm : a.name = p.type.name := by
    obtain ⟨a', ha', hn⟩ := h.hd hp
    rw [ha] at ha'
    cases ha'
    exact hn
  have hne : ∀ b, some b = a.fv.ownBlock → lab b = some (some (p.type.name, 0)) := fun b hb => h2 b hb.symm
  have hchain : ∀ b, b < w.heap.size → some b ≠ a.fv.ownBlock → b ≠ g → w2.heap[b]? = w.heap[b]? := fun b hlt h3 h4 =>
    (hb.block b (Nat.lt_of_lt_of_le (Nat.lt_of_lt_of_le hlt hAs) hg.size) h4).trans ((hg.block b (Nat.lt_of_lt_of_le hlt hAs) h3).trans (hA.block hlt))
  refine ⟨h.step hnd hp ⟨a.name, v1, a.ov, a.hv⟩ ⟨⟨p.type.name, ys⟩, p.owners, p.homes⟩ hrow ⟨hnm, rfl⟩ (fun b hb => ?_) hrl (fun b hb h3 h4 => hchain b hb (fun e => h4 _ (hne b e)) (fun e => h3 (by rw [e]; exact hg0))) ⟨(ho.no (S' := Nn)).but hb (fun _ h => h.elim) (fun b hb' e => (hv b hb').elim (fun h5 => by have := h2 b h5; rw [e, hg0] at this; cases this) (fun h5 => by omega)), relab_own⟩ ⟨(h.os k a p ha hp).1.keep (S' := fun b => lab b = some (some (p.type.name, 1))) (fun b (hb : lab b = some (some (p.type.name, 1))) hlt => hchain b hlt (fun e => by rw [hne b e] at hb; simp at hb) (fun e => by rw [e, hg0] at hb; cases hb)) (fun _ h => h.elim) (h.os k a p ha hp).2, fun b hb => by rw [hrl b ((h.os k a p ha hp).1.lt b hb).2]; exact (h.os k a p ha hp).2 b hb⟩ ⟨(h.hs k a p ha hp).1.keep (S' := fun b => lab b = some (some (p.type.name, 2))) (fun b (hb : lab b = some (some (p.type.name, 2))) hlt => hchain b hlt (fun e => by rw [hne b e] at hb; simp at hb) (fun e => by rw [e, hg0] at hb; cases hb)) (fun _ h => h.elim) (h.hs k a p ha hp).2, fun b hb => by rw [hrl b ((h.hs k a p ha hp).1.lt b hb).2]; exact (h.hs k a p ha hp).2 b hb⟩, ⟨hb.os.trans (hg.os.trans (Below.os hA)), hb.tape.trans (hg.tape.trans (Below.tape hA)), hb.output.trans (hg.output.trans (Below.output hA)), Nat.le_trans hAs (Nat.le_trans hg.size hb.size), fun b hb' hn => hchain b hb' (fun e => by rw [hne b e] at hn; cases hn) (fun e => by rw [e, hg0] at hn; cases hn)⟩, hrl⟩
  · unfold relab
    rw [if_neg]
    · exact h.base b hb
    · intro e
      have := (ho.lt b e).1
      omega
theorem PartsAt.put_ov {g n c k : Nat} {a : Ph} {p : Prt} {v1 : Value} {S : Nat → Prop} {ys : List Ownr} {wA w2 : World} (h : PartsAt B w (.slice (some ⟨g, 0, none⟩) n c) hds ps lab) (hnd : (ps.map (·.type.name)).Nodup) (hp : ps[k]? = some p) (ha : hds[k]? = some a) (hA : Up w wA) (hg : wA.grownBy w1 a.ov.ownBlock) (ho : Own ownLay 89 B S w1 v1 ys) (hv : ∀ g, v1.ownBlock = some g → a.ov.ownBlock = some g ∨ g = wA.heap.size)
    (hb : But g w1 w2) (hrow : Own phLay 83 B Nn w2 (.slice (some ⟨g, 0, none⟩) n c) (hds.set k ⟨a.name, a.fv, v1, a.hv⟩)) :
    PartsAt B w2 (.slice (some ⟨g, 0, none⟩) n c) (hds.set k ⟨a.name, a.fv, v1, a.hv⟩) (ps.set k ⟨p.type, ys, p.homes⟩) (relab lab v1 (some (p.type.name, 1))) ∧ Off lab w w2 ∧ (∀ b, b < w.heap.size → relab lab v1 (some (p.type.name, 1)) b = lab b) := by
  have hg0 := h.own0 g rfl
  have hgl := (h.row.lt g rfl).2
  have hAs := hA.size
  obtain ⟨h1, h2⟩ := h.os k a p ha hp
  have hrl : ∀ b, b < w.heap.size → relab lab v1 (some (p.type.name, 1)) b = lab b := relab_old h2 fun g hg => (hv g hg).imp id (fun e => by omega)
  have hnm : a.name = p.type.name := by
    obtain ⟨a', ha', hn⟩ := h.hd hp
    rw [ha] at ha'
    cases ha'
    exact hn
  have hne : ∀ b, some b = a.ov.ownBlock → lab b = some (some (p.type.name, 1)) := fun b hb => h2 b hb.symm
  have hchain : ∀ b, b < w.heap.size → some b ≠ a.ov.ownBlock → b ≠ g → w2.heap[b]? = w.heap[b]? := fun b hlt h3 h4 =>
    (hb.block b (Nat.lt_of_lt_of_le (Nat.lt_of_lt_of_le hlt hAs) hg.size) h4).trans ((hg.block b (Nat.lt_of_lt_of_le hlt hAs) h3).trans (hA.block hlt))
  refine ⟨h.step hnd hp ⟨a.name, a.fv, v1, a.hv⟩ ⟨p.type, ys, p.homes⟩ hrow ⟨hnm, rfl⟩ (fun b hb => ?_) hrl (fun b hb h3 h4 => hchain b hb (fun e => h4 _ (hne b e)) (fun e => h3 (by rw [e]; exact hg0))) ⟨(h.fs k a p ha hp).1.keep (S' := fun b => lab b = some (some (p.type.name, 0))) (fun b (hb : lab b = some (some (p.type.name, 0))) hlt => hchain b hlt (fun e => by rw [hne b e] at hb; simp at hb) (fun e => by rw [e, hg0] at hb; cases hb)) (fun _ h => h.elim) (h.fs k a p ha hp).2, fun b hb => by rw [hrl b ((h.fs k a p ha hp).1.lt b hb).2]; exact (h.fs k a p ha hp).2 b hb⟩ ⟨(ho.no (S' := Nn)).but hb (fun _ h => h.elim) (fun b hb' e => (hv b hb').elim (fun h5 => by have := h2 b h5; rw [e, hg0] at this; cases this) (fun h5 => by omega)), relab_own⟩ ⟨(h.hs k a p ha hp).1.keep (S' := fun b => lab b = some (some (p.type.name, 2))) (fun b (hb : lab b = some (some (p.type.name, 2))) hlt => hchain b hlt (fun e => by rw [hne b e] at hb; simp at hb) (fun e => by rw [e, hg0] at hb; cases hb)) (fun _ h => h.elim) (h.hs k a p ha hp).2, fun b hb => by rw [hrl b ((h.hs k a p ha hp).1.lt b hb).2]; exact (h.hs k a p ha hp).2 b hb⟩, ⟨hb.os.trans (hg.os.trans (Below.os hA)), hb.tape.trans (hg.tape.trans (Below.tape hA)), hb.output.trans (hg.output.trans (Below.output hA)), Nat.le_trans hAs (Nat.le_trans hg.size hb.size), fun b hb' hn => hchain b hb' (fun e => by rw [hne b e] at hn; cases hn) (fun e => by rw [e, hg0] at hn; cases hn)⟩, hrl⟩
  · unfold relab
    rw [if_neg]
    · exact h.base b hb
    · intro e
      have := (ho.lt b e).1
      omega
theorem PartsAt.put_hv {g n c k : Nat} {a : Ph} {p : Prt} {v1 : Value} {S : Nat → Prop} {ys : List Ownr} {wA w2 : World} (h : PartsAt B w (.slice (some ⟨g, 0, none⟩) n c) hds ps lab) (hnd : (ps.map (·.type.name)).Nodup) (hp : ps[k]? = some p) (ha : hds[k]? = some a) (hA : Up w wA) (hg : wA.grownBy w1 a.hv.ownBlock) (ho : Own ownLay 89 B S w1 v1 ys) (hv : ∀ g, v1.ownBlock = some g → a.hv.ownBlock = some g ∨ g = wA.heap.size)
    (hb : But g w1 w2) (hrow : Own phLay 83 B Nn w2 (.slice (some ⟨g, 0, none⟩) n c) (hds.set k ⟨a.name, a.fv, a.ov, v1⟩)) :
    PartsAt B w2 (.slice (some ⟨g, 0, none⟩) n c) (hds.set k ⟨a.name, a.fv, a.ov, v1⟩) (ps.set k ⟨p.type, p.owners, ys⟩) (relab lab v1 (some (p.type.name, 2))) ∧ Off lab w w2 ∧ (∀ b, b < w.heap.size → relab lab v1 (some (p.type.name, 2)) b = lab b) := by
  have hg0 := h.own0 g rfl
  have hgl := (h.row.lt g rfl).2
  have hAs := hA.size
  obtain ⟨h1, h2⟩ := h.hs k a p ha hp
  have hrl : ∀ b, b < w.heap.size → relab lab v1 (some (p.type.name, 2)) b = lab b := relab_old h2 fun g hg => (hv g hg).imp id (fun e => by omega)
  have hnm : a.name = p.type.name := by
    obtain ⟨a', ha', hn⟩ := h.hd hp
    rw [ha] at ha'
    cases ha'
    exact hn
  have hne : ∀ b, some b = a.hv.ownBlock → lab b = some (some (p.type.name, 2)) := fun b hb => h2 b hb.symm
  have hchain : ∀ b, b < w.heap.size → some b ≠ a.hv.ownBlock → b ≠ g → w2.heap[b]? = w.heap[b]? := fun b hlt h3 h4 =>
    (hb.block b (Nat.lt_of_lt_of_le (Nat.lt_of_lt_of_le hlt hAs) hg.size) h4).trans ((hg.block b (Nat.lt_of_lt_of_le hlt hAs) h3).trans (hA.block hlt))
  refine ⟨h.step hnd hp ⟨a.name, a.fv, a.ov, v1⟩ ⟨p.type, p.owners, ys⟩ hrow ⟨hnm, rfl⟩ (fun b hb => ?_) hrl (fun b hb h3 h4 => hchain b hb (fun e => h4 _ (hne b e)) (fun e => h3 (by rw [e]; exact hg0))) ⟨(h.fs k a p ha hp).1.keep (S' := fun b => lab b = some (some (p.type.name, 0))) (fun b (hb : lab b = some (some (p.type.name, 0))) hlt => hchain b hlt (fun e => by rw [hne b e] at hb; simp at hb) (fun e => by rw [e, hg0] at hb; cases hb)) (fun _ h => h.elim) (h.fs k a p ha hp).2, fun b hb => by rw [hrl b ((h.fs k a p ha hp).1.lt b hb).2]; exact (h.fs k a p ha hp).2 b hb⟩ ⟨(h.os k a p ha hp).1.keep (S' := fun b => lab b = some (some (p.type.name, 1))) (fun b (hb : lab b = some (some (p.type.name, 1))) hlt => hchain b hlt (fun e => by rw [hne b e] at hb; simp at hb) (fun e => by rw [e, hg0] at hb; cases hb)) (fun _ h => h.elim) (h.os k a p ha hp).2, fun b hb => by rw [hrl b ((h.os k a p ha hp).1.lt b hb).2]; exact (h.os k a p ha hp).2 b hb⟩ ⟨(ho.no (S' := Nn)).but hb (fun _ h => h.elim) (fun b hb' e => (hv b hb').elim (fun h5 => by have := h2 b h5; rw [e, hg0] at this; cases this) (fun h5 => by omega)), relab_own⟩, ⟨hb.os.trans (hg.os.trans (Below.os hA)), hb.tape.trans (hg.tape.trans (Below.tape hA)), hb.output.trans (hg.output.trans (Below.output hA)), Nat.le_trans hAs (Nat.le_trans hg.size hb.size), fun b hb' hn => hchain b hb' (fun e => by rw [hne b e] at hn; cases hn) (fun e => by rw [e, hg0] at hn; cases hn)⟩, hrl⟩
  · unfold relab
    rw [if_neg]
    · exact h.base b hb
    · intro e
      have := (ho.lt b e).1
      omega
/-- as a slice of parts -/
theorem PartsAt.parts (h : PartsAt B w v hds ps lab) : SliceOf prtLay (fun k => B ≤ k ∧ k < w.heap.size) w v ps := by
  have h1 := (h.row.no (S' := Nn)).sl (S' := fun k => B ≤ k ∧ k < w.heap.size) (fun _ h _ _ => h.elim) (fun g hg => h.row.lt g hg)
  refine h1.map (M := prtLay) rfl h.len.symm fun i cs a p ha hp hc => ?_
  obtain ⟨rfl, _⟩ := hc
  obtain ⟨a', ha', hnm⟩ := h.hd hp
  rw [ha] at ha'
  cases ha'
  have h2 := (h.fs i a p ha hp).1
  have h3 := (h.os i a p ha hp).1
  have h4 := (h.hs i a p ha hp).1
  exact ⟨a.fv, a.ov, a.hv, by rw [hnm], (h2.no (S' := Nn)).sl (fun _ h _ _ => h.elim) (fun g hg => h2.lt g hg), (h3.no (S' := Nn)).sl (fun _ h _ _ => h.elim) (fun g hg => h3.lt g hg), (h4.no (S' := Nn)).sl (fun _ h _ _ => h.elim) (fun g hg => h4.lt g hg)⟩
end
end Go.Proofs.Ytgckpmcdlciibab

namespace Go.Proofs.Ytgckpmcdlciibab
open Go.RowKit
theorem PartsAt.rise {B : Nat} {w : World} {v : Value} {hds : List Ph} {ps : List Prt} {lab : Lab} (h : PartsAt B w v hds ps lab) (hs : Sorted ps) : Rise hds := by
  have h2 : ∀ {l : List Prt}, (l.map (·.type.name)).Pairwise (fun a b => strLt a b = true) ↔ l.Pairwise fun p q => strLt p.type.name q.type.name = true := List.pairwise_map
  have h3 : ∀ {l : List Ph}, (l.map (·.name)).Pairwise (fun a b => strLt a b = true) ↔ l.Pairwise fun p q => strLt p.name q.name = true := List.pairwise_map
  unfold Rise
  rw [← h3, h.names, h2]
  exact hs
theorem PartsAt.place {B : Nat} {w : World} {v : Value} {hds : List Ph} {ps : List Prt} {lab : Lab} {n : Str} {k : Nat} {b : Bool} (h : PartsAt B w v hds ps lab) (hp : PlaceOf hds n k b) : placeP ps n = k ∧ hasP ps n = b := by
  have hk : placeP ps n = k := placeP_eq (by rw [← h.len]; exact hp.le) (fun j p hj hpj => by
    obtain ⟨a, ha, hn⟩ := h.hd hpj
    rw [← hn]
    exact hp.below j a hj ha) fun p hpk => by
    obtain ⟨a, ha, hn⟩ := h.hd hpk
    rw [← hn]
    exact (hp.at_ a ha).1
  refine ⟨hk, ?_⟩
  unfold hasP
  rw [hk]
  cases hpk : ps[k]? with
  | none =>
    refine (hp.none ?_).symm
    rw [h.len]
    exact List.getElem?_eq_none_iff.1 hpk
  | some p =>
    obtain ⟨a, ha, hn⟩ := h.hd hpk
    simp only
    rw [← hn]
    exact (hp.at_ a ha).2.symm
def smallP (N : Nat) (p : Prt) : Prop := p.type.fields.length ≤ N ∧ p.owners.length ≤ N ∧ p.homes.length ≤ N
set_option maxHeartbeats 4000000 in
theorem add_any {B qb qo N : Nat} {v fv nv : Value} {hds : List Ph} {ps : List Prt} {lab : Lab} {w0 : World} (i : Int) (s : Sn) (w : World) (h : PartsAt B w v hds ps lab) (hs : Sorted ps) (hu0 : Up w0 w) (hB0 : w0.heap.size ≤ B) (hBw : B ≤ w.heap.size) (hat : At w qb qo [.string s.type.name, fv, .string s.own, nv]) (hqb : lab qb = none)
    (hf : SliceOf fldLay (fun b => lab b = none) w fv s.type.fields) (hn : SliceOf strLay (fun b => lab b = none) w nv s.fields) (hlen : s.fields.length = s.type.fields.length) (h10 : s.type.fields.length ≤ 10) (hN : N ≤ 100000) (hpl : ps.length ≤ N) (hsm : ∀ p ∈ ps, smallP N p) :
    Calls Try.prog 64 #[v, .int .i64 i, .pointer (some ⟨qb, qo, none⟩)] w fun en w' => Off lab w w' ∧ ((addM ps i s = none ∧ en = .returned (.tuple #[.slice none 0 0, .int .i64 6])) ∨
      ∃ ps' v' hds' lab', addM ps i s = some ps' ∧ en = .returned (.tuple #[v', .int .i64 0]) ∧ PartsAt B w' v' hds' ps' lab' ∧ (∀ b, b < w.heap.size → lab' b = lab b) ∧ ∀ p ∈ ps', smallP (N + 10) p) := by
  refine calls_of_sim Try.func64 rfl (Nat.le_of_ble_eq_true rfl) ?_
  obtain ⟨⟨tn, tf⟩, own, fl⟩ := s
  simp only at hat hf hn hlen h10 ⊢
  have hl := h.len
  obtain ⟨fa, fc, rfl, _⟩ := id hf
  obtain ⟨na, nc, rfl, _⟩ := id hn
  have hatw := hat
  have hfw := hf
  have hnw := hn
  have hqlt0 := hat.lt
  have hu0w := hu0
  have hBw0 := hBw
  repeat (first | refine RL.vv ?_ | refine RL.p ?_ | refine RL.nil ?_ | refine Sim.seq ?_ | refine Sim.region ?_ | refine Sim.block ?_ | refine Sim.skip ?_ | refine Sim.inBlock ?_ | refine Sim.exit rfl ?_ | refine Sim.condT rfl ?_ | refine Sim.condF rfl ?_)
  have hvs := (h.row.no (S' := Nn)).sl (S' := fun _ => True) (fun _ h _ _ => h.elim) (fun _ _ => trivial)
  refine RL.cx (BinarySearch_Ph tn w hvs (h.rise hs) (by omega)) ?_
  rintro _ w1 ⟨k, b, rfl, h01, hpl2⟩
  refine ⟨_, rfl, ?_⟩
  obtain ⟨hk, hhas⟩ := h.place hpl2
  have hO := Off.of_up (lab := lab) h01
  have h := h.up h01
  have hat := hat.up h01
  have hf := hf.up h01
  have hn := hn.up h01
  have hu0 := hu0.trans h01
  have hBw := Nat.le_trans hBw h01.size
  have hkl : k ≤ ps.length := by rw [← hk]; exact placeP_le _ _
  clear hvs hpl2
  obtain ⟨va, vn, vc, rfl⟩ := h.row.sh
  repeat (first | refine RL.vv ?_ | refine RL.p ?_ | refine RL.nil ?_ | refine Sim.seq ?_ | refine Sim.region ?_ | refine Sim.block ?_ | refine Sim.skip ?_ | refine Sim.inBlock ?_ | refine Sim.exit rfl ?_ | refine Sim.condT rfl ?_ | refine Sim.condF rfl ?_)
  refine Sim.cutX (σ := Value × List Ph × Lab) (fun st => [(0, st.1), (1, .int .i64 i), (2, .pointer (some ⟨qb, qo, none⟩)), (8, .int .i64 (k : Int))])
    (fun st w' => Off lab w1 w' ∧ PartsAt B w' st.1 st.2.1 (insP ps tn) st.2.2 ∧ ∀ b, b < w1.heap.size → st.2.2 b = lab b) (fun k' next => ?_) ?_
  · cases b with
    | true =>
      repeat (first | refine RL.vv ?_ | refine RL.p ?_ | refine RL.nil ?_ | refine Sim.seq ?_ | refine Sim.region ?_ | refine Sim.block ?_ | refine Sim.skip ?_ | refine Sim.inBlock ?_ | refine Sim.exit rfl ?_ | refine Sim.condT rfl ?_ | refine Sim.condF rfl ?_)
      refine next (_, hds, lab) _ _ ⟨Off.refl _ _, ?_, fun _ _ => rfl⟩ sb
      unfold insP
      rw [hhas, if_pos rfl]
      exact h
    | false =>
      repeat (first | refine RL.vv ?_ | refine RL.p ?_ | refine RL.nil ?_ | refine Sim.seq ?_ | refine Sim.region ?_ | refine Sim.block ?_ | refine Sim.skip ?_ | refine Sim.inBlock ?_ | refine Sim.exit rfl ?_ | refine Sim.condT rfl ?_ | refine Sim.condF rfl ?_)
      refine RL.vv ?_ (hy := y_build (v := .agg #[.string tn, .slice none 0 0]) rfl (fun w => by kernel_rfl))
      refine RL.vv ?_ (hy := y_build (v := .agg #[.string tn, .slice none 0 0, .slice none 0 0, .slice none 0 0]) rfl (fun w => by kernel_rfl))
      refine RL.bu (el := 83) [.string tn, .slice none 0 0, .slice none 0 0, .slice none 0 0] (.refl w1) fun b2 w2 he2 hle2 h12 _ hb2 => ?_
      have hne2 := h.row.ne (Nat.le_of_eq he2.symm)
      have h2 := h.up h12
      refine RL.cx (Insert_Ph (x := ⟨tn, .slice none 0 0, .slice none 0 0, .slice none 0 0⟩) w2 h2.row hb2 ⟨rfl, rfl, rfl⟩ hne2 (by rw [hl]; exact hkl) (by omega) (Nat.le_trans hBw h12.size)) ?_
      rintro _ w3 ⟨v', rfl, hg, hv', ho⟩
      refine ⟨_, rfl, ?_⟩
      repeat (first | refine RL.vv ?_ | refine RL.p ?_ | refine RL.nil ?_ | refine Sim.seq ?_ | refine Sim.region ?_ | refine Sim.block ?_ | refine Sim.skip ?_ | refine Sim.inBlock ?_ | refine Sim.exit rfl ?_ | refine Sim.condT rfl ?_ | refine Sim.condF rfl ?_)
      have hlab : ∀ b, b < w2.heap.size → relab lab v' none b = lab b := relab_old (fun g hg => h.own0 g hg) hv'
      refine next (v', hds.take k ++ ⟨tn, .slice none 0 0, .slice none 0 0, .slice none 0 0⟩ :: hds.drop k, relab lab v' none) _ _ ⟨(Off.of_up h12).trans (Off.of_grown hg fun g hg' => by rw [h.own0 g hg']; simp) (fun _ _ => rfl), ?_, fun b hb => hlab b (Nat.lt_of_lt_of_le hb h12.size)⟩ sb
      unfold insP
      rw [hhas, if_neg (by decide), hk]
      refine h2.insert ho hkl (fun b hb => ?_) hlab (fun b hb hne => hg.block b hb fun e => hne (h.own0 b e.symm)) fun g hg => relab_own g hg
      show relab lab v' none b = none
      unfold relab
      rw [if_neg (fun e => by have := (ho.lt b e).1; omega)]
      exact h.base b hb
  rintro ⟨v1, hds1, lab1⟩ w2 ⟨hO1, h1, hl1⟩
  simp only at h1 hl1 ⊢
  obtain ⟨p0, hp0, hpn, hpm⟩ := insP_at (l := ps) (n := tn)
  rw [hk] at hp0
  have hs1 := insP_sorted (n := tn) hs
  have hnd := sorted_nodup hs1
  have hbound : smallP N p0 := by
    rcases hpm with h2 | h2
    · exact hsm p0 h2
    · rw [h2]; exact ⟨Nat.zero_le _, Nat.zero_le _, Nat.zero_le _⟩
  obtain ⟨a0, ha0, han⟩ := h1.hd hp0
  obtain ⟨g, c1, cs, rfl, hg0, ⟨rfl, hq1, hq2, hq3⟩, hklt, _, _⟩ := h1.row.get ha0
  have hg0 : At w2 g (0 + k * 4) [.string a0.name, a0.fv, a0.ov, a0.hv] := hg0
  have hO2 : Off lab w w2 := hO.trans hO1 (fun _ _ => rfl)
  have hqlt := hat.lt
  have hat := hat.keep hO1.keep hqb
  have hf := hf.keep hO1.keep
  have hn := hn.keep hO1.keep
  have hu2 := hO1.up hu0 hB0 h.base
  have hBw2 := Nat.le_trans hBw hO1.size
  have hqb1 : lab1 qb = none := by rw [hl1 qb hqlt]; exact hqb
  have hown0 := h1.own0 g rfl
  obtain ⟨hh1, hh2⟩ := h1.hs k a0 p0 ha0 hp0
  obtain ⟨hva, hvn, hvc, hhv⟩ := hh1.sh
  repeat (first | refine RL.vv ?_ | refine RL.p ?_ | refine RL.nil ?_ | refine Sim.seq ?_ | refine Sim.region ?_ | refine Sim.block ?_ | refine Sim.skip ?_ | refine Sim.inBlock ?_ | refine Sim.exit rfl ?_ | refine Sim.condT rfl ?_ | refine Sim.condF rfl ?_)
  refine Sim.ordD [15] (fun wq => At wq g (0 + k * 4) [.string a0.name, a0.fv, a0.ov, a0.hv] ∧ At wq qb qo [.string tn, .slice fa tf.length fc, .string own, .slice na fl.length nc]) (fun _ => True) ?_ mixed
  have tv : True := trivial
  have hd := Up.drew w2
  have hS1 : At w2.drew g (0 + k * 4) [.string a0.name, a0.fv, a0.ov, a0.hv] ∧ At w2.drew qb qo [.string tn, .slice fa tf.length fc, .string own, .slice na fl.length nc] := ⟨hg0.up hd, hat.up hd⟩
  refine RD.tk 0 ?_
  refine RD.tk 1 ?_
  refine RD.tk 2 ?_
  refine RD.tk 3 ?_
  refine RD.tk 4 ?_ (hy := fun wq hq => y_loadF rfl hq.1 rfl)
  refine RD.tk 5 ?_
  refine RD.tk 6 ?_
  refine RD.tk 7 ?_
  refine RD.tk 8 ?_
  refine RD.tk 9 ?_ (hy := fun wq hq => y_loadF rfl hq.2 rfl)
  refine RD.tk 10 ?_ (hy := fun wq hq => y_build (v := .agg #[.int .i64 i, .string own, .string ⟨#[]⟩]) rfl (fun w => by kernel_rfl))
  refine RD.one 11 ?_
  refine RL.bu (el := 89) [.int .i64 i, .string own, .string ⟨#[]⟩] hd fun b4 w4 he4 hle4 h24 h hb4 => ?_
  have hh4 := hh1.up h24
  have hne4 := hh4.ne' (b := b4)
  refine RL.od tv ⟨hg0.up h24, hat.up h24⟩ ?_
  refine RD.one 12 ?_
  refine RL.app (L := ownLay) (el := 89) (S := fun _ => True) (B := B) (ys := [⟨i, own, ⟨#[]⟩⟩]) (hu2.trans h24) hh4.no (SliceOf.one hb4 ⟨trivial, fun e => by have := (hh1.lt b4 e.symm).2; have := hle4; omega⟩ rfl) (by have := hbound.2.2; simp; omega) hB0 (Nat.le_trans hBw2 h24.size) fun v5 w5 hu5 ho5 hg5 hv5 => ?_
  obtain ⟨xa, xn, xc, rfl⟩ := ho5.sh
  have hgne : some g ≠ a0.hv.ownBlock := fun e => by have := hh2 g e.symm; rw [hown0] at this; cases this
  have hqne : some qb ≠ a0.hv.ownBlock := fun e => by have := hh2 qb e.symm; rw [hqb1] at this; cases this
  have hg05 := (hg0.up h24).keep (Grown.keep hg5) hgne
  have hat5 := (hat.up h24).keep (Grown.keep hg5) hqne
  have hr5 := (h1.row.up h24).keep (Grown.keep hg5) (fun _ h => h.elim) (fun b hb => by simp only [Value.ownBlock, Option.some.injEq] at hb; subst hb; exact hgne)
  have hS5 : At w5 g (0 + k * 4) [.string a0.name, a0.fv, a0.ov, a0.hv] ∧ At w5 qb qo [.string tn, .slice fa tf.length fc, .string own, .slice na fl.length nc] := ⟨hg05, hat5⟩
  refine RL.od tv hS5 ?_
  refine RD.tm 13 ?_
  refine RD.tm 14 ?_
  refine RD.one 15 ?_
  refine RL.wr (i := k) (j := 3) (k := 4) (o := 0 + k * 4 + 3) (u := .slice xa xn xc) (x' := ⟨a0.name, a0.fv, a0.ov, .slice xa xn xc⟩) hr5 ha0 (fun w6 hb6 hr6 => ?_) (hupd := by rintro _ ⟨rfl, h1, h2, h3⟩; exact ⟨rfl, h1, h2, rfl⟩)
  refine RL.ox tv ?_
  refine RD.done (RL.nil ?_)
  obtain ⟨h6, hO6, hl6⟩ := h1.put_hv hnd hp0 ha0 h24 hg5 ho5 hv5 hb6 hr6
  generalize hp1 : (⟨p0.type, p0.owners, p0.homes ++ [⟨i, own, ⟨#[]⟩⟩]⟩ : Prt) = p1 at h6
  have hp1n : p1.type.name = tn := by rw [← hp1]; exact hpn
  have hb1 : p1.type.fields.length ≤ N ∧ p1.owners.length ≤ N ∧ p1.homes.length ≤ N + 1 := by
    rw [← hp1]
    exact ⟨hbound.1, hbound.2.1, by have := hbound.2.2; simp; omega⟩
  have hO6 : Off lab w w6 := hO2.trans hO6 (fun b hb => hl1 b (Nat.lt_of_lt_of_le hb h01.size))
  have hlab6 : ∀ b, b < w.heap.size → relab lab1 (.slice xa xn xc) (some (p0.type.name, 2)) b = lab b := fun b hb => (hl6 b (Nat.lt_of_lt_of_le hb (Nat.le_trans h01.size hO1.size))).trans (hl1 b (Nat.lt_of_lt_of_le hb h01.size))
  generalize relab lab1 (.slice xa xn xc) (some (p0.type.name, 2)) = lab6 at *
  generalize hds1.set k ⟨a0.name, a0.fv, a0.ov, .slice xa xn xc⟩ = hds6 at *
  have hadd : addM ps i ⟨⟨tn, tf⟩, own, fl⟩ = (addF i own p1 (tf.zip fl)).map fun p' => (insP ps tn).set k p' := by
    unfold addM
    simp only [hk, hp0, hp1]
  rw [hadd]
  have hO6' := hO6
  have hpn' : ∀ p : Prt, p.type.name = tn → Sorted ((insP ps tn).set k p) := fun p hp => sorted_set hs1 hp0 (hp.trans hpn.symm)
  have hbase := h1.base
  have hat6 := hatw.keep hO6.keep hqb
  have hf6 := hfw.keep hO6.keep
  have hkp : k < (insP ps tn).length := (List.getElem?_eq_some_iff.1 hp0).1
  have hsm1 : ∀ p ∈ insP ps tn, smallP N p := fun p hp => by
    unfold insP at hp
    split at hp
    · exact hsm p hp
    · rcases List.mem_append.1 hp with h | h
      · exact hsm p (List.mem_of_mem_take h)
      · rcases List.mem_cons.1 h with rfl | h
        · exact ⟨Nat.zero_le _, Nat.zero_le _, Nat.zero_le _⟩
        · exact hsm p (List.mem_of_mem_drop h)
  clear hS1 hS5
  repeat (first | refine RL.vv ?_ | refine RL.p ?_ | refine RL.nil ?_ | refine Sim.seq ?_ | refine Sim.region ?_ | refine Sim.block ?_ | refine Sim.skip ?_ | refine Sim.inBlock ?_ | refine Sim.exit rfl ?_ | refine Sim.condT rfl ?_ | refine Sim.condF rfl ?_)
  refine Sim.loop (σ := Nat × List Ph × Prt × Lab) (fun st => [(0, .slice (some ⟨g, 0, none⟩) hds1.length c1), (1, .int .i64 i), (2, .pointer (some ⟨qb, qo, none⟩)), (10, .pointer (some ⟨g, 0 + k * 4, none⟩)), (58, .slice fa tf.length fc), (59, .int .i64 (tf.length : Int)), (60, .int .i64 (st.1 : Int))])
    (fun st w' => st.1 ≤ tf.length ∧ Off lab w w' ∧ PartsAt B w' (.slice (some ⟨g, 0, none⟩) hds1.length c1) st.2.1 ((insP ps tn).set k st.2.2.1) st.2.2.2 ∧ (∀ b, b < w.heap.size → st.2.2.2 b = lab b) ∧ st.2.2.1.type.name = tn ∧ (st.2.2.1.type.fields.length ≤ N + st.1 ∧ st.2.2.1.owners.length ≤ N + st.1 ∧ st.2.2.1.homes.length ≤ N + 1) ∧ addF i own p1 (tf.zip fl) = addF i own st.2.2.1 ((tf.zip fl).drop st.1))
    (fun st => tf.length - st.1) (0, hds6, p1, lab6) sb ⟨Nat.zero_le _, hO6', h6, hlab6, hp1n, hb1, rfl⟩ ?_
  clear h6 hlab6 hp1n hb1 hat6 hf6 hO6'
  rintro ⟨j, hdj, pj, labj⟩ w7 ⟨hj, hO7, h7, hl7, hn7, hb7, heq⟩ next
  simp only at hj h7 hl7 hn7 hb7 heq next ⊢
  have hu7 := hO7.up hu0w hB0 (fun b hb => by
    by_cases hbw : b < w.heap.size
    · rw [← hl7 b hbw]; exact h7.base b hb
    · omega)
  by_cases hlt : j < tf.length
  rotate_left
  · have : j = tf.length := by omega
    subst this
    rw [List.drop_eq_nil_of_le (by rw [List.length_zip]; omega)] at heq
    repeat (first | refine RL.vv ?_ | refine RL.p ?_ | refine RL.nil ?_ | refine Sim.seq ?_ | refine Sim.region ?_ | refine Sim.block ?_ | refine Sim.skip ?_ | refine Sim.inBlock ?_ | refine Sim.exit rfl ?_ | refine Sim.condT rfl ?_ | refine Sim.condF rfl ?_)
    refine Sim.ret2 Try.func64 rfl rfl rfl ⟨hO7, .inr ⟨_, _, hdj, labj, by rw [heq]; rfl, rfl, h7, hl7, fun p hp => ?_⟩⟩
    rcases List.mem_or_eq_of_mem_set hp with h | rfl
    · obtain ⟨h1, h2, h3⟩ := hsm1 p h
      exact ⟨by omega, by omega, by omega⟩
    · exact ⟨by omega, by omega, by omega⟩
  have hx : tf[j]? = some tf[j] := List.getElem?_eq_getElem hlt
  have hy : fl[j]? = some (fl[j]'(by omega)) := List.getElem?_eq_getElem (by omega)
  have hzip : (tf.zip fl).drop j = (tf[j], fl[j]'(by omega)) :: (tf.zip fl).drop (j + 1) := by
    rw [List.drop_eq_getElem_cons (by rw [List.length_zip]; omega), List.getElem_zip]
  obtain ⟨fb, fo, cs, rfl, _, hfat, rfl, _⟩ := (hfw.keep hO7.keep).at hx
  obtain ⟨nb, no, cs, rfl, hnb0, hnatw, rfl, _⟩ := hnw.at hy
  have hfat : At w7 fb (fo + j * 3) _ := hfat
  have hnatw : At w nb (no + j * 1) _ := hnatw
  have hnat := hnatw.keep hO7.keep hnb0
  have hat7 := hatw.keep hO7.keep hqb
  generalize tf[j] = f at *
  generalize (fl[j]'(by omega)) = o at *
  repeat (first | refine RL.vv ?_ | refine RL.p ?_ | refine RL.nil ?_ | refine Sim.seq ?_ | refine Sim.region ?_ | refine Sim.block ?_ | refine Sim.skip ?_ | refine Sim.inBlock ?_ | refine Sim.exit rfl ?_ | refine Sim.condT rfl ?_ | refine Sim.condF rfl ?_)
  refine RL.al (.refl w7) fun b12 w8 he12 hle12 h78 _ hb12 => ?_
  repeat (first | refine RL.vv ?_ | refine RL.p ?_ | refine RL.nil ?_ | refine Sim.seq ?_ | refine Sim.region ?_ | refine Sim.block ?_ | refine Sim.skip ?_ | refine Sim.inBlock ?_ | refine Sim.exit rfl ?_ | refine Sim.condT rfl ?_ | refine Sim.condF rfl ?_)
  refine RL.st h78 hb12 hle12 fun w9 h79 _ hb12 => ?_
  have hb12 : Box w9 b12 _ [.string f.name, .int .i64 f.kind, .string f.type] := hb12
  have h9 := h7.up h79
  have hpk : ((insP ps tn).set k pj)[k]? = some pj := List.getElem?_set_self hkp
  obtain ⟨aj, haj, hanj⟩ := h9.hd hpk
  obtain ⟨g', c', cs, he, hgj, ⟨rfl, hq1, hq2, hq3⟩, _⟩ := h9.row.get haj
  simp only [Value.slice.injEq, Option.some.injEq, Addr.mk.injEq, and_true] at he
  obtain ⟨rfl, hln, rfl⟩ := he
  have hgj : At w9 g (0 + k * 4) [.string aj.name, aj.fv, aj.ov, aj.hv] := hgj
  have hnd9 := sorted_nodup (hpn' pj hn7)
  obtain ⟨hf1, hf2⟩ := h9.fs k aj pj haj hpk
  have hfj := (hf1.no (S' := Nn)).sl (S' := fun _ => True) (fun _ h _ _ => h.elim) (fun _ _ => trivial)
  have ha12 := hb12.at
  have hu9 := hu7.trans h79
  have hat9 := hat7.up h79
  have hnat9 := hnat.up h79
  clear h78 he12 hfat hat7 hnat
  repeat (first | refine RL.vv ?_ | refine RL.p ?_ | refine RL.nil ?_ | refine Sim.seq ?_ | refine Sim.region ?_ | refine Sim.block ?_ | refine Sim.skip ?_ | refine Sim.inBlock ?_ | refine Sim.exit rfl ?_ | refine Sim.condT rfl ?_ | refine Sim.condF rfl ?_)
  by_cases hc : 0 ≤ fieldF pj.type.fields f.name
  · refine Sim.q ?_
    repeat (first | refine RQ.vv ?_ | refine RQ.p ?_)
    refine RQ.cu (fun wq hq => q_call (Field_any f.name wq (hfj.up hq)) hq) ?_
    repeat (first | refine RQ.vv ?_ | refine RQ.p ?_)
    refine RQ.nil fun w10 h910 => ?_
    repeat (first | refine RL.vv ?_ | refine RL.p ?_ | refine RL.nil ?_ | refine Sim.seq ?_ | refine Sim.region ?_ | refine Sim.block ?_ | refine Sim.skip ?_ | refine Sim.inBlock ?_ | refine Sim.exit rfl ?_ | refine Sim.condT rfl ?_ | refine Sim.condF rfl ?_)
    refine Sim.ret2 Try.func64 rfl rfl rfl ⟨(hO7.trans (Off.of_up (h79.trans h910)) (fun b hb => hl7 b hb)), .inl ⟨?_, rfl⟩⟩
    rw [heq, hzip]
    simp only [addF, if_pos hc, Option.map_none]
  refine Sim.q ?_
  repeat (first | refine RQ.vv ?_ | refine RQ.p ?_)
  refine RQ.cu (fun wq hq => q_call (Field_any f.name wq (hfj.up hq)) hq) ?_
  repeat (first | refine RQ.vv ?_ | refine RQ.p ?_)
  refine RQ.nil fun w10 h910 => ?_
  have hO10 : Off lab w w10 := hO7.trans (Off.of_up (lab := labj) (h79.trans h910)) (fun b hb => hl7 b hb)
  have hB10 : B ≤ w10.heap.size := Nat.le_trans hBw0 hO10.size
  have h10a := h9.up h910
  have hgj := hgj.up h910
  have hb12 := hb12.up h910
  have hat10 := hat9.up h910
  have hnat10 := hnat9.up h910
  have hu10 := hu9.trans h910
  have hs10 := h10a.own0 g rfl
  have hlw10 : w7.heap.size ≤ w9.heap.size := h79.size
  have hl10 : ∀ b, b < w.heap.size → labj b = lab b := hl7
  have hqbj : labj qb = none := by rw [hl7 qb hqlt0]; exact hqb
  have hnbj : labj nb = none := by rw [hl7 nb hnatw.lt]; exact hnb0
  obtain ⟨hf1, hf2⟩ := h10a.fs k aj pj haj hpk
  obtain ⟨fva, fvn, fvc, hfv⟩ := hf1.sh
  clear ha12 hat9 hnat9 hfj h9
  repeat (first | refine RL.vv ?_ | refine RL.p ?_ | refine RL.nil ?_ | refine Sim.seq ?_ | refine Sim.region ?_ | refine Sim.block ?_ | refine Sim.skip ?_ | refine Sim.inBlock ?_ | refine Sim.exit rfl ?_ | refine Sim.condT rfl ?_ | refine Sim.condF rfl ?_)
  refine Sim.ordD [12] (fun wq => At wq g (0 + k * 4) [.string aj.name, aj.fv, aj.ov, aj.hv] ∧ At wq b12 0 [.string f.name, .int .i64 f.kind, .string f.type]) (fun _ => True) ?_ mixed
  have hd := Up.drew w10
  have hS1 : At w10.drew g (0 + k * 4) [.string aj.name, aj.fv, aj.ov, aj.hv] ∧ At w10.drew b12 0 [.string f.name, .int .i64 f.kind, .string f.type] := ⟨hgj.up hd, hb12.at.up hd⟩
  refine RD.tk 0 ?_
  refine RD.tk 1 ?_
  refine RD.tk 2 ?_
  refine RD.tk 3 ?_
  refine RD.tk 4 ?_
  refine RD.tk 5 ?_ (hy := fun wq hq => y_loadF rfl hq.1 rfl)
  refine RD.tk 6 ?_ (hy := fun wq hq => y_loadA rfl hq.2 rfl)
  refine RD.one 7 ?_
  refine RL.bu (el := 86) [.string f.name, .int .i64 f.kind, .string f.type] hd fun b4 w4 he4 hle4 h24 h hb4 => ?_
  refine RL.od tv ⟨hgj.up h24, hb12.at.up h24⟩ ?_
  refine RD.one 8 ?_
  refine RL.app (L := fldLay) (el := 86) (S := fun _ => True) (B := B) (ys := [f]) (hu10.trans h24) (hf1.up h24).no (SliceOf.one hb4 ⟨trivial, fun e => by have := (hf1.lt b4 e.symm).2; have := hle4; omega⟩ rfl) (by have := hb7.1; simp; omega) hB0 (Nat.le_trans hB10 h24.size) fun v5 w5 hu5 ho5 hg5 hv5 => ?_
  obtain ⟨ya, yn, yc, rfl⟩ := ho5.sh
  have hgne : some g ≠ aj.fv.ownBlock := fun e => by have := hf2 g e.symm; rw [hs10] at this; cases this
  have hqne : some qb ≠ aj.fv.ownBlock := fun e => by have := hf2 qb e.symm; rw [hqbj] at this; cases this
  have hnne : some nb ≠ aj.fv.ownBlock := fun e => by have := hf2 nb e.symm; rw [hnbj] at this; cases this
  have h12ne : some b12 ≠ aj.fv.ownBlock := fun e => by have := ((h7.fs k aj pj haj hpk).1.lt b12 e.symm).2; omega
  have hS5 : At w5 g (0 + k * 4) [.string aj.name, aj.fv, aj.ov, aj.hv] ∧ At w5 b12 0 [.string f.name, .int .i64 f.kind, .string f.type] := ⟨(hgj.up h24).keep (Grown.keep hg5) hgne, (hb12.at.up h24).keep (Grown.keep hg5) h12ne⟩
  have hr5 := (h10a.row.up h24).keep (Grown.keep hg5) (fun _ h => h.elim) (fun b hb => by simp only [Value.ownBlock, Option.some.injEq] at hb; subst hb; exact hgne)
  have hat5 := (hat10.up h24).keep (Grown.keep hg5) hqne
  have hnat5 := (hnat10.up h24).keep (Grown.keep hg5) hnne
  refine RL.od tv hS5 ?_
  refine RD.tm 9 ?_
  refine RD.tm 10 ?_
  refine RD.tm 11 ?_
  refine RD.one 12 ?_
  refine RL.wr (i := k) (j := 1) (k := 4) (o := 0 + k * 4 + 0 + 1) (u := .slice ya yn yc) (x' := ⟨aj.name, .slice ya yn yc, aj.ov, aj.hv⟩) hr5 haj (fun w6 hb6 hr6 => ?_) (hupd := by rintro _ ⟨rfl, h1, h2, h3⟩; exact ⟨rfl, rfl, h2, h3⟩)
  refine RL.ox tv ?_
  refine RD.done (RL.nil ?_)
  obtain ⟨h6, hO6, hl6⟩ := h10a.put_fv hnd9 hpk haj h24 hg5 ho5 hv5 hb6 hr6
  have hO11 : Off lab w w6 := hO10.trans hO6 hl7
  have hl11 : ∀ b, b < w.heap.size → relab labj (.slice ya yn yc) (some (pj.type.name, 0)) b = lab b := fun b hb => (hl6 b (Nat.lt_of_lt_of_le hb hO10.size)).trans (hl7 b hb)
  have hgq : qb ≠ g := fun e => by rw [e, hs10] at hqbj; cases hqbj
  have hgn : nb ≠ g := fun e => by rw [e, hs10] at hnbj; cases hnbj
  have hat6 := hat5.keep hb6.keep hgq
  have hnat6 := hnat5.keep hb6.keep hgn
  have hB11 : B ≤ w6.heap.size := Nat.le_trans hBw0 hO11.size
  rw [List.set_set] at h6
  generalize relab labj (.slice ya yn yc) (some (pj.type.name, 0)) = lab6' at *
  have hu11 := hO11.up hu0w hB0 (fun b hb => by rw [← hl11 b (by omega)]; exact h6.base b hb)
  have hpj2 : ((⟨⟨pj.type.name, pj.type.fields ++ [f]⟩, pj.owners, pj.homes⟩ : Prt).type.name = tn) := hn7
  generalize hpj' : (⟨⟨pj.type.name, pj.type.fields ++ [f]⟩, pj.owners, pj.homes⟩ : Prt) = pj2 at h6 hpj2
  have hpk2 : ((insP ps tn).set k pj2)[k]? = some pj2 := List.getElem?_set_self hkp
  have hnd6 := sorted_nodup (hpn' pj2 hpj2)
  have hlk : k < hdj.length := (List.getElem?_eq_some_iff.1 haj).1
  have haj2 : (hdj.set k ⟨aj.name, .slice ya yn yc, aj.ov, aj.hv⟩)[k]? = some ⟨aj.name, .slice ya yn yc, aj.ov, aj.hv⟩ := List.getElem?_set_self hlk
  obtain ⟨g', c', cs, he, hgj6, ⟨rfl, _⟩, _⟩ := h6.row.get haj2
  simp only [Value.slice.injEq, Option.some.injEq, Addr.mk.injEq, and_true] at he
  obtain ⟨rfl, _, rfl⟩ := he
  have hgj6 : At w6 g (0 + k * 4) [.string aj.name, .slice ya yn yc, aj.ov, aj.hv] := hgj6
  obtain ⟨ho1, ho2⟩ := h6.os k _ pj2 haj2 hpk2
  simp only at ho1 ho2
  have hs6 := h6.own0 g rfl
  obtain ⟨ova, ovn, ovc, hov⟩ := ho1.sh
  have hqb6 : lab6' qb = none := by rw [hl11 qb hqlt0]; exact hqb
  have hnb6 : lab6' nb = none := by rw [hl11 nb hnatw.lt]; exact hnb0
  have hob : pj2.owners.length ≤ N + j ∧ pj2.type.fields.length ≤ N + j + 1 ∧ pj2.homes.length ≤ N + 1 := by
    rw [← hpj']
    exact ⟨hb7.2.1, by simp; omega, hb7.2.2⟩
  clear hS1 hS5 hr5 hat5 hnat5 hg5 ho5 hv5 hb6 hr6 hd h24 hle4 he4 hb4 h hu5
  repeat (first | refine RL.vv ?_ | refine RL.p ?_ | refine RL.nil ?_ | refine Sim.seq ?_ | refine Sim.region ?_ | refine Sim.block ?_ | refine Sim.skip ?_ | refine Sim.inBlock ?_ | refine Sim.exit rfl ?_ | refine Sim.condT rfl ?_ | refine Sim.condF rfl ?_)
  refine Sim.ordD [22] (fun wq => At wq g (0 + k * 4) [.string aj.name, .slice ya yn yc, aj.ov, aj.hv] ∧ At wq qb qo [.string tn, .slice (some ⟨fb, fo, none⟩) tf.length fc, .string own, .slice (some ⟨nb, no, none⟩) fl.length nc] ∧ At wq nb (no + j * 1) [.string o]) (fun _ => True) ?_ mixed
  have hd := Up.drew w6
  have hS1 : At w6.drew g (0 + k * 4) [.string aj.name, .slice ya yn yc, aj.ov, aj.hv] ∧ At w6.drew qb qo [.string tn, .slice (some ⟨fb, fo, none⟩) tf.length fc, .string own, .slice (some ⟨nb, no, none⟩) fl.length nc] ∧ At w6.drew nb (no + j * 1) [.string o] := ⟨hgj6.up hd, hat6.up hd, hnat6.up hd⟩
  refine RD.tk 0 ?_
  refine RD.tk 1 ?_
  refine RD.tk 2 ?_
  refine RD.tk 3 ?_
  refine RD.tk 4 ?_ (hy := fun wq hq => y_loadF rfl hq.1 rfl)
  refine RD.tk 5 ?_
  refine RD.tk 6 ?_
  refine RD.tk 7 ?_
  refine RD.tk 8 ?_
  refine RD.tk 9 ?_ (hy := fun wq hq => y_loadF rfl hq.2.1 rfl)
  refine RD.tk 10 ?_
  refine RD.tk 11 ?_
  refine RD.tk 12 ?_
  refine RD.tk 13 ?_ (hy := fun wq hq => y_loadF rfl hq.2.1 rfl)
  refine RD.tk 14 ?_
  refine RD.tk 15 ?_ (hy := fun wq hq => y_indexAddr (i := j) (k := 1) rfl rfl (by omega))
  refine RD.tk 16 ?_ (hy := fun wq hq => y_load0 rfl hq.2.2 rfl)
  refine RD.tk 17 ?_ (hy := fun wq hq => y_build (v := .agg #[.int .i64 i, .string own, .string o]) rfl (fun w => by kernel_rfl))
  refine RD.one 18 ?_
  refine RL.bu (el := 89) [.int .i64 i, .string own, .string o] hd fun b4 w4 he4 hle4 h24 h hb4 => ?_
  refine RL.od tv ⟨hgj6.up h24, hat6.up h24, hnat6.up h24⟩ ?_
  refine RD.one 19 ?_
  refine RL.app (L := ownLay) (el := 89) (S := fun _ => True) (B := B) (ys := [⟨i, own, o⟩]) (hu11.trans h24) (ho1.up h24).no (SliceOf.one hb4 ⟨trivial, fun e => by have := (ho1.lt b4 e.symm).2; have := hle4; omega⟩ rfl) (by have := hob.1; simp; omega) hB0 (Nat.le_trans hB11 h24.size) fun v5 w5 hu5 ho5 hg5 hv5 => ?_
  obtain ⟨za, zn, zc, rfl⟩ := ho5.sh
  have hgne : some g ≠ aj.ov.ownBlock := fun e => by have := ho2 g e.symm; rw [hs6] at this; cases this
  have hqne : some qb ≠ aj.ov.ownBlock := fun e => by have := ho2 qb e.symm; rw [hqb6] at this; cases this
  have hnne : some nb ≠ aj.ov.ownBlock := fun e => by have := ho2 nb e.symm; rw [hnb6] at this; cases this
  have hS5 : At w5 g (0 + k * 4) [.string aj.name, .slice ya yn yc, aj.ov, aj.hv] ∧ At w5 qb qo [.string tn, .slice (some ⟨fb, fo, none⟩) tf.length fc, .string own, .slice (some ⟨nb, no, none⟩) fl.length nc] ∧ At w5 nb (no + j * 1) [.string o] := ⟨(hgj6.up h24).keep (Grown.keep hg5) hgne, (hat6.up h24).keep (Grown.keep hg5) hqne, (hnat6.up h24).keep (Grown.keep hg5) hnne⟩
  have hr5 := (h6.row.up h24).keep (Grown.keep hg5) (fun _ h => h.elim) (fun b hb => by simp only [Value.ownBlock, Option.some.injEq] at hb; subst hb; exact hgne)
  refine RL.od tv hS5 ?_
  refine RD.tm 20 ?_
  refine RD.tm 21 ?_
  refine RD.one 22 ?_
  refine RL.wr (i := k) (j := 2) (k := 4) (o := 0 + k * 4 + 2) (u := .slice za zn zc) (x' := ⟨aj.name, .slice ya yn yc, .slice za zn zc, aj.hv⟩) hr5 haj2 (fun w12 hb12' hr12 => ?_) (hupd := by rintro _ ⟨rfl, h1, h2, h3⟩; exact ⟨rfl, h1, rfl, h3⟩)
  refine RL.ox tv ?_
  refine RD.done (RL.nil ?_)
  obtain ⟨h12, hO12, hl12⟩ := h6.put_ov hnd6 hpk2 haj2 h24 hg5 ho5 hv5 hb12' hr12
  rw [List.set_set, List.set_set] at h12
  repeat (first | refine RL.vv ?_ | refine RL.p ?_ | refine RL.nil ?_ | refine Sim.seq ?_ | refine Sim.region ?_ | refine Sim.block ?_ | refine Sim.skip ?_ | refine Sim.inBlock ?_ | refine Sim.exit rfl ?_ | refine Sim.condT rfl ?_ | refine Sim.condF rfl ?_)
  refine next (j + 1, _, ⟨pj2.type, pj2.owners ++ [⟨i, own, o⟩], pj2.homes⟩, _) _ _ ⟨by simp only; omega, hO11.trans hO12 hl11, h12, fun b hb => (hl12 b (Nat.lt_of_lt_of_le hb hO11.size)).trans (hl11 b hb), hpj2, ⟨by simp only; omega, by simp; omega, by simp only; omega⟩, ?_⟩ (by simp only; omega) sb
  rw [heq, hzip]
  simp only [addF, if_neg hc]
  rw [← hpj']
end Go.Proofs.Ytgckpmcdlciibab

namespace Go.Proofs.Ytgckpmcdlciibab
open Go.RowKit
theorem PartsAt.lower {B B' : Nat} {w : World} {v : Value} {hds : List Ph} {ps : List Prt} {lab : Lab} (h : PartsAt B w v hds ps lab) (hB : B' ≤ B) : PartsAt B' w v hds ps lab :=
  ⟨fun b hb => h.base b (by omega), h.row.base hB, h.own0, h.names, fun i a p h1 h2 => ⟨(h.fs i a p h1 h2).1.base hB, (h.fs i a p h1 h2).2⟩, fun i a p h1 h2 => ⟨(h.os i a p h1 h2).1.base hB, (h.os i a p h1 h2).2⟩, fun i a p h1 h2 => ⟨(h.hs i a p h1 h2).1.base hB, (h.hs i a p h1 h2).2⟩⟩
/-- blocks that aren't there yet have no label -/
theorem PartsAt.trim {B : Nat} {w : World} {v : Value} {hds : List Ph} {ps : List Prt} {lab : Lab} (h : PartsAt B w v hds ps lab) : PartsAt B w v hds ps (fun b => if b < w.heap.size then lab b else none) := by
  refine ⟨fun b hb => ?_, h.row, fun g hg => ?_, h.names, fun i a p h1 h2 => ⟨(h.fs i a p h1 h2).1, fun g hg => ?_⟩, fun i a p h1 h2 => ⟨(h.os i a p h1 h2).1, fun g hg => ?_⟩, fun i a p h1 h2 => ⟨(h.hs i a p h1 h2).1, fun g hg => ?_⟩⟩
  · show (if _ then _ else _) = _
    split
    · exact h.base b hb
    · rfl
  · show (if _ then _ else _) = _
    rw [if_pos (h.row.lt g hg).2]
    exact h.own0 g hg
  · show (if _ then _ else _) = _
    rw [if_pos ((h.fs i a p h1 h2).1.lt g hg).2]
    exact (h.fs i a p h1 h2).2 g hg
  · show (if _ then _ else _) = _
    rw [if_pos ((h.os i a p h1 h2).1.lt g hg).2]
    exact (h.os i a p h1 h2).2 g hg
  · show (if _ then _ else _) = _
    rw [if_pos ((h.hs i a p h1 h2).1.lt g hg).2]
    exact (h.hs i a p h1 h2).2 g hg
theorem PartsAt.bt {B k : Nat} {w w1 : World} {v : Value} {hds : List Ph} {ps : List Prt} {lab : Lab} (h : PartsAt B w v hds ps lab) (hb : But k w w1) (hk : k < B) : PartsAt B w1 v hds ps lab :=
  ⟨h.base, h.row.but hb (fun _ h => h.elim) (fun g hg => by have := (h.row.lt g hg).1; omega), h.own0, h.names,
    fun i a p h1 h2 => ⟨(h.fs i a p h1 h2).1.but hb (fun _ h => h.elim) (fun g hg => by have := ((h.fs i a p h1 h2).1.lt g hg).1; omega), (h.fs i a p h1 h2).2⟩,
    fun i a p h1 h2 => ⟨(h.os i a p h1 h2).1.but hb (fun _ h => h.elim) (fun g hg => by have := ((h.os i a p h1 h2).1.lt g hg).1; omega), (h.os i a p h1 h2).2⟩,
    fun i a p h1 h2 => ⟨(h.hs i a p h1 h2).1.but hb (fun _ h => h.elim) (fun g hg => by have := ((h.hs i a p h1 h2).1.lt g hg).1; omega), (h.hs i a p h1 h2).2⟩⟩
set_option maxHeartbeats 4000000 in
theorem MAll_any {S : Nat → Prop} {lv : Value} {l : List Svc} (w : World) (hl : SliceOf svcLay S w lv l) :
    Calls Try.prog 28 #[lv] w fun en w' => ∃ v, en = .returned (.tuple #[v, fltV (allM l).2]) ∧ Up w w' ∧ ∃ hds lab, PartsAt w.heap.size w' v hds (allM l).1 lab := by
  refine calls_of_sim Try.func28 rfl (Nat.le_of_ble_eq_true rfl) ?_
  obtain ⟨la, lc, rfl, hlnc, hlcm, _⟩ := id hl
  unfold maxLen at hlcm
  repeat (first | refine RL.vv ?_ | refine RL.p ?_ | refine RL.nil ?_ | refine Sim.seq ?_ | refine Sim.region ?_ | refine Sim.block ?_ | refine Sim.skip ?_ | refine Sim.inBlock ?_ | refine Sim.exit rfl ?_ | refine Sim.condT rfl ?_ | refine Sim.condF rfl ?_)
  refine RL.al (.refl w) fun b3 w1 _ hle3 hu1 _ hb3 => ?_
  repeat (first | refine RL.vv ?_ | refine RL.p ?_ | refine RL.nil ?_ | refine Sim.seq ?_ | refine Sim.region ?_ | refine Sim.block ?_ | refine Sim.skip ?_ | refine Sim.inBlock ?_ | refine Sim.exit rfl ?_ | refine Sim.condT rfl ?_ | refine Sim.condF rfl ?_)
  refine RL.cu hu1 (MWrong_any w1 (hl.up hu1)) fun w2 hu h12 => ?_
  have hb3 := hb3.up h12
  clear hu1 h12
  refine RL.al hu fun b4 w3 he4 hle4 hu h23 hb4 => ?_
  have hl34 : b3 < b4 := by have := hb3.lt; omega
  have hb3 := hb3.up h23
  unfold fltV
  refine RL.st hu hb4 hle4 fun w4 hu hbt hb4 => ?_
  have hb4 : Box w4 b4 _ [.int .i64 (wrongS l).err, .int .i64 (wrongS l).at_] := hb4
  have hb3 : Box w4 b3 _ [.int .i64 0, .int .i64 0] := hb3.but hbt (by omega)
  clear h23 hbt he4
  have ha4 := hb4.at
  by_cases he : (wrongS l).err = 0
  rotate_left
  · have hall : allM l = ([], wrongS l) := if_neg he
    rw [hall]
    repeat (first | refine RL.vv ?_ | refine RL.p ?_ | refine RL.nil ?_ | refine Sim.seq ?_ | refine Sim.region ?_ | refine Sim.block ?_ | refine Sim.skip ?_ | refine Sim.inBlock ?_ | refine Sim.exit rfl ?_ | refine Sim.condT rfl ?_ | refine Sim.condF rfl ?_)
    have hS : Up w w4.drew ∧ At w4.drew b4 0 [.int .i64 (wrongS l).err, .int .i64 (wrongS l).at_] := ⟨hu.trans (Up.drew _), ha4.up (Up.drew _)⟩
    refine Sim.ord (fun wq => Up w wq ∧ At wq b4 0 [.int .i64 (wrongS l).err, .int .i64 (wrongS l).at_]) ?_
    refine RO.tk 0 ?_ (hy := fun wq hq => y_loadA rfl hq.2 rfl)
    refine RO.tk 1 ?_
    refine RO.one 2 ?_
    refine RL.st hS.1 (hb3.up (Up.drew _)) hle3 fun w5 hu5 hbt hb3 => ?_
    refine RL.ord ⟨hu5, (hb4.up (Up.drew _)).but hbt (by omega) |>.at⟩ ?_
    refine RO.done (RL.nil ?_)
    repeat (first | refine RL.vv ?_ | refine RL.p ?_ | refine RL.nil ?_ | refine Sim.seq ?_ | refine Sim.region ?_ | refine Sim.block ?_ | refine Sim.skip ?_ | refine Sim.inBlock ?_ | refine Sim.exit rfl ?_ | refine Sim.condT rfl ?_ | refine Sim.condF rfl ?_)
    exact Sim.retTC (cs := [.int .i64 (wrongS l).err, .int .i64 (wrongS l).at_]) Try.func28 rfl rfl rfl hb3.at rfl ⟨_, rfl, hu5, [], fun _ => none, PartsAt.nil _ _⟩
  have hall : allM l = allGo [] 0 l := if_pos he
  rw [hall]
  obtain ⟨hl5, hright⟩ := wrongS_iff.1 he
  have hlt3 := hb3.lt
  have hs4 := hu.size
  repeat (first | refine RL.vv ?_ | refine RL.p ?_ | refine RL.nil ?_ | refine Sim.seq ?_ | refine Sim.region ?_ | refine Sim.block ?_ | refine Sim.skip ?_ | refine Sim.inBlock ?_ | refine Sim.exit rfl ?_ | refine Sim.condT rfl ?_ | refine Sim.condF rfl ?_)
  refine Sim.loop (σ := Nat × Value × List Ph × List Prt × Lab) (fun st => [(0, .slice la l.length lc), (3, .pointer (some ⟨b3, 0, none⟩)), (19, .slice la l.length lc), (20, .int .i64 (l.length : Int)), (21, .int .i64 (st.1 : Int)), (5, st.2.1)])
    (fun st w' => st.1 ≤ l.length ∧ Up w w' ∧ w4.heap.size ≤ w'.heap.size ∧ Box w' b3 41 [.int .i64 0, .int .i64 0] ∧ PartsAt w4.heap.size w' st.2.1 st.2.2.1 st.2.2.2.1 st.2.2.2.2 ∧ Sorted st.2.2.2.1 ∧ st.2.2.2.1.length ≤ 80 * st.1 ∧ (∀ p ∈ st.2.2.2.1, smallP (80 * st.1) p) ∧ allGo [] 0 l = allGo st.2.2.2.1 st.1 (l.drop st.1))
    (fun st => l.length - st.1) (0, .slice none 0 0, [], [], fun _ => none) sb ⟨Nat.zero_le _, hu, Nat.le_refl _, hb3, PartsAt.nil _ _, List.Pairwise.nil, by simp, fun p hp => by simp at hp, rfl⟩ ?_
  clear hu hb3 hb4 ha4
  generalize w4.heap.size = B at *
  rintro ⟨i, v, hds, ps, lab⟩ w5 ⟨hi, hu, hB5, hb3, hp, hso, hpl, hsm, heq⟩ next
  simp only at hi hp hso hpl hsm heq next ⊢
  by_cases hlt : i < l.length
  rotate_left
  · rw [List.drop_eq_nil_of_le (by omega)] at heq
    rw [heq]
    repeat (first | refine RL.vv ?_ | refine RL.p ?_ | refine RL.nil ?_ | refine Sim.seq ?_ | refine Sim.region ?_ | refine Sim.block ?_ | refine Sim.skip ?_ | refine Sim.inBlock ?_ | refine Sim.exit rfl ?_ | refine Sim.condT rfl ?_ | refine Sim.condF rfl ?_)
    refine RL.val trivial rfl (y_build (v := .agg #[.int .i64 0, .int .i64 0]) rfl (fun w => by kernel_rfl)) ?_
    repeat (first | refine RL.vv ?_ | refine RL.p ?_ | refine RL.nil ?_ | refine Sim.seq ?_ | refine Sim.region ?_ | refine Sim.block ?_ | refine Sim.skip ?_ | refine Sim.inBlock ?_ | refine Sim.exit rfl ?_ | refine Sim.condT rfl ?_ | refine Sim.condF rfl ?_)
    refine RL.st hu hb3 hle3 fun w6 hu6 hbt hb3 => ?_
    repeat (first | refine RL.vv ?_ | refine RL.p ?_ | refine RL.nil ?_ | refine Sim.seq ?_ | refine Sim.region ?_ | refine Sim.block ?_ | refine Sim.skip ?_ | refine Sim.inBlock ?_ | refine Sim.exit rfl ?_ | refine Sim.condT rfl ?_ | refine Sim.condF rfl ?_)
    exact Sim.retTC (cs := [.int .i64 0, .int .i64 0]) Try.func28 rfl rfl rfl hb3.at rfl ⟨_, rfl, hu6, hds, lab, (hp.bt hbt hlt3).lower hs4⟩
  have hx : l[i]? = some l[i] := List.getElem?_eq_getElem hlt
  rw [List.drop_eq_getElem_cons hlt, allGo_cons] at heq
  obtain ⟨vb, vo, cs, rfl, _, hat, ⟨v1, v2, v3, rfl, hv1, hv2, hv3⟩, _⟩ := hl.at hx
  have hat : At w vb (vo + i * 3) _ := hat
  have hrs := hright l[i] (List.mem_of_getElem? hx)
  generalize l[i] = s at *
  obtain ⟨a1, c1, rfl, _⟩ := id hv1
  obtain ⟨a2, c2, rfl, _⟩ := id hv2
  obtain ⟨a3, c3, rfl, _⟩ := id hv3
  obtain ⟨hsr, hss⟩ := seeM_right hrs.see
  have h8 : (seeM s.types s.changes).1.length ≤ 8 := by have := hsr.len; rwa [List.length_map] at this
  repeat (first | refine RL.vv ?_ | refine RL.p ?_ | refine RL.nil ?_ | refine Sim.seq ?_ | refine Sim.region ?_ | refine Sim.block ?_ | refine Sim.skip ?_ | refine Sim.inBlock ?_ | refine Sim.exit rfl ?_ | refine Sim.condT rfl ?_ | refine Sim.condF rfl ?_)
  refine RL.al (.refl w5) fun b7 w6 _ hle7 h56 _ hb7 => ?_
  repeat (first | refine RL.vv ?_ | refine RL.p ?_ | refine RL.nil ?_ | refine Sim.seq ?_ | refine Sim.region ?_ | refine Sim.block ?_ | refine Sim.skip ?_ | refine Sim.inBlock ?_ | refine Sim.exit rfl ?_ | refine Sim.condT rfl ?_ | refine Sim.condF rfl ?_)
  refine RL.st h56 hb7 hle7 fun w7 h57 _ hb7 => ?_
  have hb7 : Box w7 b7 _ [.slice a1 s.types.length c1, .slice a2 s.changes.length c2, .slice a3 s.things.length c3] := hb7
  have hu7 := hu.trans h57
  have ha7 := hb7.at
  repeat (first | refine RL.vv ?_ | refine RL.p ?_ | refine RL.nil ?_ | refine Sim.seq ?_ | refine Sim.region ?_ | refine Sim.block ?_ | refine Sim.skip ?_ | refine Sim.inBlock ?_ | refine Sim.exit rfl ?_ | refine Sim.condT rfl ?_ | refine Sim.condF rfl ?_)
  refine RL.cx (See_any w7 (hv1.up hu7) (hv2.up hu7)) ?_
  rintro _ w8 ⟨sv, rfl, h78, shds, slab, hsv⟩
  refine ⟨_, rfl, ?_⟩
  unfold fltV
  have hp7 := (hp.up h57).trim
  generalize hlab2 : (fun b => if b < w7.heap.size then lab b else none) = lab2 at hp7
  have hseen := hsv.seen
  obtain ⟨sa, sc, rfl, hsnc, hscm, _⟩ := id hseen
  unfold maxLen at hscm
  repeat (first | refine RL.vv ?_ | refine RL.p ?_ | refine RL.nil ?_ | refine Sim.seq ?_ | refine Sim.region ?_ | refine Sim.block ?_ | refine Sim.skip ?_ | refine Sim.inBlock ?_ | refine Sim.exit rfl ?_ | refine Sim.condT rfl ?_ | refine Sim.condF rfl ?_)
  refine RL.al (.refl w8) fun b9 w9 _ hle9 h89 _ hb9 => ?_
  repeat (first | refine RL.vv ?_ | refine RL.p ?_ | refine RL.nil ?_ | refine Sim.seq ?_ | refine Sim.region ?_ | refine Sim.block ?_ | refine Sim.skip ?_ | refine Sim.inBlock ?_ | refine Sim.exit rfl ?_ | refine Sim.condT rfl ?_ | refine Sim.condF rfl ?_)
  refine RL.st h89 hb9 hle9 fun w10 h810 _ hb9 => ?_
  have h710 := h78.trans h810
  have hnone : ∀ b, w7.heap.size ≤ b → b < w8.heap.size → lab2 b = none := fun b h1 _ => by
    rw [← hlab2]
    exact if_neg (by omega)
  have hs710 := h710.size
  have hs57 := h57.size
  have hs810 := h810.size
  have hu10 := hu7.trans h710
  have hp10 := hp7.up h710
  have hb310 := hb3.up (h57.trans h710)
  have hse10 := hseen.up h810
  generalize hsn : (seeM s.types s.changes).1 = sns at *
  clear hp7 hb7 ha7 hseen hb9 h89 h810 hsv hlab2 h56
  repeat (first | refine RL.vv ?_ | refine RL.p ?_ | refine RL.nil ?_ | refine Sim.seq ?_ | refine Sim.region ?_ | refine Sim.block ?_ | refine Sim.skip ?_ | refine Sim.inBlock ?_ | refine Sim.exit rfl ?_ | refine Sim.condT rfl ?_ | refine Sim.condF rfl ?_)
  refine Sim.loop (σ := Nat × Value × List Ph × List Prt × Lab) (fun st => [(0, .slice (some ⟨vb, vo, none⟩) l.length lc), (3, .pointer (some ⟨b3, 0, none⟩)), (19, .slice (some ⟨vb, vo, none⟩) l.length lc), (20, .int .i64 (l.length : Int)), (21, .int .i64 (i : Int)), (6, .int .i64 (i : Int)), (8, .slice sa sns.length sc), (35, .int .i64 (sns.length : Int)), (36, .int .i64 (st.1 : Int)), (5, st.2.1)])
    (fun st w' => st.1 ≤ sns.length ∧ Up w w' ∧ w10.heap.size ≤ w'.heap.size ∧ Box w' b3 41 [.int .i64 0, .int .i64 0] ∧ PartsAt B w' st.2.1 st.2.2.1 st.2.2.2.1 st.2.2.2.2 ∧ (∀ b, w7.heap.size ≤ b → b < w8.heap.size → st.2.2.2.2 b = none) ∧ SliceOf snLay (fun k => w7.heap.size ≤ k ∧ k < w8.heap.size) w' (.slice sa sns.length sc) sns ∧ Sorted st.2.2.2.1 ∧ st.2.2.2.1.length ≤ 80 * i + 10 * st.1 ∧ (∀ p ∈ st.2.2.2.1, smallP (80 * i + 10 * st.1) p) ∧ addsM i ps sns = addsM i st.2.2.2.1 (sns.drop st.1))
    (fun st => sns.length - st.1) (0, v, hds, ps, lab2) sb ⟨Nat.zero_le _, hu10, Nat.le_refl _, hb310, hp10, hnone, hse10, hso, hpl, hsm, rfl⟩ ?_
  clear hp10 hnone hb310 hu10 hse10 hb3
  rintro ⟨j, v2', hdj, pj, labj⟩ w11 ⟨hj, hu11, hs11, hb3, hpj, hnj, hse, hsoj, hplj, hsmj, heqj⟩ next2
  simp only at hj hpj hnj hsoj hplj hsmj heqj next2 ⊢
  by_cases hjl : j < sns.length
  rotate_left
  · rw [List.drop_eq_nil_of_le (by omega)] at heqj
    rw [heqj] at heq
    repeat (first | refine RL.vv ?_ | refine RL.p ?_ | refine RL.nil ?_ | refine Sim.seq ?_ | refine Sim.region ?_ | refine Sim.block ?_ | refine Sim.skip ?_ | refine Sim.inBlock ?_ | refine Sim.exit rfl ?_ | refine Sim.condT rfl ?_ | refine Sim.condF rfl ?_)
    exact next (i + 1, v2', hdj, pj, labj) _ _ ⟨by first | omega | (simp only; omega), hu11, by first | omega | (simp only; omega), hb3, hpj, hsoj, by first | omega | (simp only; omega), fun p hp => by
      obtain ⟨h1, h2, h3⟩ := hsmj p hp
      exact ⟨by omega, by omega, by omega⟩, heq⟩ (by first | omega | (simp only; omega)) sb
  have hy : sns[j]? = some sns[j] := List.getElem?_eq_getElem hjl
  rw [List.drop_eq_getElem_cons hjl, addsM_cons] at heqj
  obtain ⟨qb, qo, cs, rfl, hqS, hqat, ⟨fv, nv, rfl, hfv, hnv⟩, _⟩ := hse.at hy
  have hqat : At w11 qb (qo + j * 4) _ := hqat
  have hty : s.types[j]? = some (s.types[j]'(by have := hss.len; omega)) := List.getElem?_eq_getElem _
  obtain ⟨e1, e2, e3⟩ := hss.at_ j _ _ hy hty
  have e4 := (hrs.types.fields _ (List.mem_of_getElem? hty)).len
  generalize sns[j] = q at *
  have hqn := hnj qb hqS.1 hqS.2
  repeat (first | refine RL.vv ?_ | refine RL.p ?_ | refine RL.nil ?_ | refine Sim.seq ?_ | refine Sim.region ?_ | refine Sim.block ?_ | refine Sim.skip ?_ | refine Sim.inBlock ?_ | refine Sim.exit rfl ?_ | refine Sim.condT rfl ?_ | refine Sim.condF rfl ?_)
  refine RL.cx (add_any (N := 80 * i + 10 * j) (i : Int) q w11 hpj hsoj hu11 hs4 (by omega) hqat hqn (hfv.mono fun b hb => hnj b hb.1 hb.2) (hnv.mono fun b hb => hnj b hb.1 hb.2) e3 (by omega) (by omega) hplj hsmj) ?_
  rintro _ w12 ⟨hO, h1 | ⟨ps', v', hds', lab', h1, h2, h3, h4, h5⟩⟩
  · obtain ⟨h1, rfl⟩ := h1
    refine ⟨_, rfl, ?_⟩
    rw [h1] at heqj
    rw [heqj] at heq
    rw [heq]
    have hu12 := hO.up hu11 hs4 hpj.base
    have hb3 := hb3.keep hO.keep (hpj.base b3 hlt3)
    repeat (first | refine RL.vv ?_ | refine RL.p ?_ | refine RL.nil ?_ | refine Sim.seq ?_ | refine Sim.region ?_ | refine Sim.block ?_ | refine Sim.skip ?_ | refine Sim.inBlock ?_ | refine Sim.exit rfl ?_ | refine Sim.condT rfl ?_ | refine Sim.condF rfl ?_)
    refine RL.val trivial rfl (y_build (v := .agg #[.int .i64 6, .int .i64 (i : Int)]) rfl (fun w => by kernel_rfl)) ?_
    repeat (first | refine RL.vv ?_ | refine RL.p ?_ | refine RL.nil ?_ | refine Sim.seq ?_ | refine Sim.region ?_ | refine Sim.block ?_ | refine Sim.skip ?_ | refine Sim.inBlock ?_ | refine Sim.exit rfl ?_ | refine Sim.condT rfl ?_ | refine Sim.condF rfl ?_)
    refine RL.st hu12 hb3 hle3 fun w13 hu13 hbt hb3 => ?_
    repeat (first | refine RL.vv ?_ | refine RL.p ?_ | refine RL.nil ?_ | refine Sim.seq ?_ | refine Sim.region ?_ | refine Sim.block ?_ | refine Sim.skip ?_ | refine Sim.inBlock ?_ | refine Sim.exit rfl ?_ | refine Sim.condT rfl ?_ | refine Sim.condF rfl ?_)
    exact Sim.retTC (cs := [.int .i64 6, .int .i64 (i : Int)]) Try.func28 rfl rfl rfl hb3.at rfl ⟨_, rfl, hu13, [], fun _ => none, PartsAt.nil _ _⟩
  · subst h2
    refine ⟨_, rfl, ?_⟩
    rw [h1] at heqj
    have hu12 := hO.up hu11 hs4 hpj.base
    have hb3 := hb3.keep hO.keep (hpj.base b3 hlt3)
    have hs12 := hO.size
    repeat (first | refine RL.vv ?_ | refine RL.p ?_ | refine RL.nil ?_ | refine Sim.seq ?_ | refine Sim.region ?_ | refine Sim.block ?_ | refine Sim.skip ?_ | refine Sim.inBlock ?_ | refine Sim.exit rfl ?_ | refine Sim.condT rfl ?_ | refine Sim.condF rfl ?_)
    refine next2 (j + 1, v', hds', ps', lab') _ _ ⟨by first | omega | (simp only; omega), hu12, by first | omega | (simp only; omega), hb3, h3, fun b hb1 hb2 => by
      show lab' b = none
      rw [h4 b (by omega)]
      exact hnj b hb1 hb2, hse.keep (fun b hb hlt => hO.block b hlt (hnj b hb.1 hb.2)), addM_sorted hsoj h1, ?_, fun p hp => ?_, heqj⟩ (by first | omega | (simp only; omega)) sb
    · have := addM_len h1
      show ps'.length ≤ 80 * i + 10 * (j + 1)
      omega
    · have := h5 p hp
      rwa [show 80 * i + 10 * j + 10 = 80 * i + 10 * (j + 1) by omega] at this
end Go.Proofs.Ytgckpmcdlciibab
