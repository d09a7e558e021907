/- Several texts in one: What is seen, in memory: a row of headers, each with two rows of its own. Contracts of chapter 2: an element taken out of a row. Contracts of chapter 2: a type looked up in what is seen; a type called otherwise. Contracts of chapter 2: a type called otherwise, wherever it is named. Contracts of chapter 2: a change is done. Contracts of chapter 2: what is seen behind changes. Contracts of chapter 2: what is seen behind changes: the walk. -/
import Derived.Test.YtgckpmcdlciibabZB
import Derived.Test.YtgckpmcdlciibabZP
import Derived.Test.YtgckpmcdlciibabZD
import Derived.Test.YtgckpmcdlciibabZK
namespace Go.Proofs.Ytgckpmcdlciibab
open Go.RowKit
structure Hd where
  name : Str
  fv : Value
  own : Str
  nv : Value
def hdLay : Lay Hd where
  k := 4
  pos := by decide
  is := fun _ _ cs h => cs = [.string h.name, h.fv, .string h.own, h.nv] ∧ h.fv.oneCell' = true ∧ h.nv.oneCell' = true
  len := by rintro S w cs x ⟨rfl, _⟩; rfl
  keep := fun h _ => h
  mono := fun h _ => h
  old := fun h => h
instance : Flat hdLay := ⟨fun h => h⟩
instance : OneC hdLay := ⟨by rintro S w cs x ⟨rfl, h1, h2⟩ c hc; simp only [List.mem_cons, List.not_mem_nil, or_false] at hc; rcases hc with rfl | rfl | rfl | rfl <;> first | rfl | assumption⟩
/-- the same cells read otherwise -/
theorem SliceOf.map {α β : Type} {L : Lay α} {M : Lay β} {S : Nat → Prop} {w : World} {v : Value} {xs : List α} {ys : List β} (h : SliceOf L S w v xs) (hk : L.k = M.k) (hl : ys.length = xs.length) (hm : ∀ (i : Nat) cs x y, xs[i]? = some x → ys[i]? = some y → L.is S w cs x → M.is S w cs y) : SliceOf M S w v ys := by
  obtain ⟨a, c, rfl, h1, h2, h3⟩ := h
  refine ⟨a, c, by rw [hl], by omega, h2, fun hp => ?_⟩
  obtain ⟨b, o, rfl, hb, he⟩ := h3 (by omega)
  refine ⟨b, o, rfl, hb, fun i y hy => ?_⟩
  have hlt := (List.getElem?_eq_some_iff.1 hy).1
  obtain ⟨cs, hc, hi⟩ := he i xs[i] (List.getElem?_eq_getElem (by omega))
  exact ⟨cs, by rw [← hk]; exact hc, hm i cs _ y (List.getElem?_eq_getElem (by omega)) hy hi⟩
structure ViewAt (B : Nat) (w : World) (v : Value) (hds : List Hd) (sns : List Sn) (lab : Nat → Nat) : Prop where
  row : Own hdLay 94 B Nn w v hds
  len : hds.length = sns.length
  own0 : ∀ g, v.ownBlock = some g → lab g = 0
  name : ∀ (i : Nat) h s, hds[i]? = some h → sns[i]? = some s → h.name = s.type.name ∧ h.own = s.own
  fs : ∀ (i : Nat) h s, hds[i]? = some h → sns[i]? = some s → Own fldLay 86 B Nn w h.fv s.type.fields ∧ ∀ g, h.fv.ownBlock = some g → lab g = 2 * i + 1
  ns : ∀ (i : Nat) h s, hds[i]? = some h → sns[i]? = some s → Own strLay 9 B Nn w h.nv s.fields ∧ ∀ g, h.nv.ownBlock = some g → lab g = 2 * i + 2
section
variable {B : Nat} {w w1 : World} {v : Value} {hds : List Hd} {sns : List Sn} {lab : Nat → Nat}
theorem ViewAt.up (h : ViewAt B w v hds sns lab) (hu : Up w w1) : ViewAt B w1 v hds sns lab :=
  ⟨h.row.up hu, h.len, h.own0, h.name, fun i a s h1 h2 => ⟨(h.fs i a s h1 h2).1.up hu, (h.fs i a s h1 h2).2⟩, fun i a s h1 h2 => ⟨(h.ns i a s h1 h2).1.up hu, (h.ns i a s h1 h2).2⟩⟩
theorem ViewAt.nil (B : Nat) (w : World) (lab : Nat → Nat) : ViewAt B w (.slice none 0 0) [] [] lab := ⟨Own.nil _ _ _ _ _, rfl, fun g h => (by cases h), fun i h s h1 _ => (by simp at h1), fun i h s h1 _ => (by simp at h1), fun i h s h1 _ => (by simp at h1)⟩
theorem ViewAt.hd (h : ViewAt B w v hds sns lab) {i : Nat} {s : Sn} (hs : sns[i]? = some s) : ∃ a, hds[i]? = some a := by
  have := (List.getElem?_eq_some_iff.1 hs).1
  exact ⟨_, List.getElem?_eq_getElem (by rw [h.len]; exact this)⟩
theorem ViewAt.sn (h : ViewAt B w v hds sns lab) {i : Nat} {a : Hd} (ha : hds[i]? = some a) : ∃ s, sns[i]? = some s := by
  have := (List.getElem?_eq_some_iff.1 ha).1
  exact ⟨_, List.getElem?_eq_getElem (by rw [← h.len]; exact this)⟩
/-- one element, and the rows it leads to, are written -/
theorem ViewAt.step {lab' : Nat → Nat} (h : ViewAt B w v hds sns lab) {k : Nat} {s : Sn} (hs : sns[k]? = some s) (hd' : Hd) (s' : Sn) (hrow : Own hdLay 94 B Nn w1 v (hds.set k hd')) (hn : hd'.name = s'.type.name ∧ hd'.own = s'.own)
    (hlab : ∀ b, b < w.heap.size → lab' b = lab b) (hkeep : ∀ b, b < w.heap.size → lab b ≠ 0 → lab b ≠ 2 * k + 1 → lab b ≠ 2 * k + 2 → w1.heap[b]? = w.heap[b]?)
    (hf : Own fldLay 86 B Nn w1 hd'.fv s'.type.fields ∧ ∀ g, hd'.fv.ownBlock = some g → lab' g = 2 * k + 1) (hns : Own strLay 9 B Nn w1 hd'.nv s'.fields ∧ ∀ g, hd'.nv.ownBlock = some g → lab' g = 2 * k + 2) :
    ViewAt B w1 v (hds.set k hd') (sns.set k s') lab' := by
  have hlt := (List.getElem?_eq_some_iff.1 hs).1
  have hlt' : k < hds.length := by rw [h.len]; exact hlt
  refine ⟨hrow, by simp [h.len], fun g hg => by rw [hlab g (h.row.lt g hg).2]; exact h.own0 g hg, fun i a t h1 h2 => ?_, fun i a t h1 h2 => ?_, fun i a t h1 h2 => ?_⟩
  · by_cases hik : i = k
    · subst hik
      rw [List.getElem?_set_self hlt'] at h1
      rw [List.getElem?_set_self hlt] at h2
      cases h1; cases h2
      exact hn
    · rw [List.getElem?_set_ne (by omega)] at h1 h2
      exact h.name i a t h1 h2
  · by_cases hik : i = k
    · subst hik
      rw [List.getElem?_set_self hlt'] at h1
      rw [List.getElem?_set_self hlt] at h2
      cases h1; cases h2
      exact hf
    · rw [List.getElem?_set_ne (by omega)] at h1 h2
      obtain ⟨h3, h4⟩ := h.fs i a t h1 h2
      exact ⟨h3.keep (S' := fun b => lab b = 2 * i + 1) (fun b hb hlt => hkeep b hlt (by omega) (by omega) (by omega)) (fun _ h => h.elim) h4, fun g hg => by rw [hlab g (h3.lt g hg).2]; exact h4 g hg⟩
  · by_cases hik : i = k
    · subst hik
      rw [List.getElem?_set_self hlt'] at h1
      rw [List.getElem?_set_self hlt] at h2
      cases h1; cases h2
      exact hns
    · rw [List.getElem?_set_ne (by omega)] at h1 h2
      obtain ⟨h3, h4⟩ := h.ns i a t h1 h2
      exact ⟨h3.keep (S' := fun b => lab b = 2 * i + 2) (fun b hb hlt => hkeep b hlt (by omega) (by omega) (by omega)) (fun _ h => h.elim) h4, fun g hg => by rw [hlab g (h3.lt g hg).2]; exact h4 g hg⟩
/-- as a slice of what is seen -/
theorem ViewAt.seen (h : ViewAt B w v hds sns lab) : SliceOf snLay (fun k => B ≤ k ∧ k < w.heap.size) w v sns := by
  have h1 := (h.row.no (S' := Nn)).sl (S' := fun k => B ≤ k ∧ k < w.heap.size) (fun _ h _ _ => h.elim) (fun g hg => h.row.lt g hg)
  refine h1.map (M := snLay) rfl h.len.symm fun i cs a s ha hs hc => ?_
  obtain ⟨rfl, _, _⟩ := hc
  obtain ⟨hn1, hn2⟩ := h.name i a s ha hs
  have h2 := (h.fs i a s ha hs).1
  have h3 := (h.ns i a s ha hs).1
  exact ⟨a.fv, a.nv, by rw [hn1, hn2], (h2.no (S' := Nn)).sl (fun _ h _ _ => h.elim) (fun g hg => h2.lt g hg), (h3.no (S' := Nn)).sl (fun _ h _ _ => h.elim) (fun g hg => h3.lt g hg)⟩
end
end Go.Proofs.Ytgckpmcdlciibab

namespace Go.Proofs.Ytgckpmcdlciibab
open Go.RowKit
section
variable {P : Program} {f : FuncId} {N : Nat} {K : Act → World → Prop} {e : Env} {w w' : World} {R : Ending → World → Prop}
variable {ops : Array Oper} {rest : List Oper} {op : Op} {ty : TypeId} {ps : String} {af : Array Edge} {gd : Option (Nat × Bool)} {v : Value}
theorem RL.eff0 (hw : Wants ops e gd) (hy : Eff P op ty e w v w') (h : RL P f N ops rest K e w' R) :
    RL P f N ops ({ dst := none, op := op, type := ty, pos := ps, after := af, guard := gd } :: rest) K e w R := by
  unfold RL
  intro tm hok
  have hy' := hy.out _ (hok.sees [])
  unfold wpList
  rw [if_pos (Wants.wanted (o := { dst := none, op := op, type := ty, pos := ps, after := af, guard := gd }) hw hok)]
  refine .inl ?_
  unfold Oper.wp
  rw [execOp_eq, hy', Oper.upon_value]
  exact h.out _ hok
/-- x[i:j:m] -/
theorem y_slice3 {t el : TypeId} {x y z u : Operand} {a : Option Addr} {n c i j m k : Nat} [Sli P t el] [Siz P el k] (hx : e.ev x = some (.slice a n c)) (hy : e.ev y = some (.int .i64 (i : Int))) (hz : e.ev z = some (.int .i64 (j : Int))) (hu : e.ev u = some (.int .i64 (m : Int))) (hi : i ≤ j) (hj : j ≤ m) (hm : m ≤ c) : Yld P (.slice t x (some y) (some z) (some u)) ty e w (dropV a j m i k) := Yld.mk fun ρ hρ => by
  have h1 := run_underlying (Sli.h (P := P) (t := t) (el := el)) w
  have h2 := Siz.run P el (k := k) w
  unfold dropV
  simp [xop, execOp, hρ x _ hx, hρ y _ hy, hρ z _ hz, hρ u _ hu, Instr.sliceAt, Instr.slice, h1, h2, Instr.sliceBounds, Instr.sliceBound, asIntOf]
  rw [if_pos hm]
  rw [if_pos hj, if_pos hi]
/-- 'clear(s)' of a slice that lies in a block -/
theorem e_clear {t el : TypeId} {x : Operand} {g o c k : Nat} {z : Value} {cur : List Value} [Sli P t el] [Zer P el z] (hz : z.cells.size = k) (hz1 : ∀ u ∈ z.cells.toList, u.oneCell' = true) (hx : e.ev x = some (.slice (some ⟨g, o, none⟩) 1 c)) (hb : Box w g el cur) (hfit : o + k ≤ cur.length) :
    Eff P (.call { callee := .builtin .clear, args := #[x], argTypes := #[t] }) ty e w (.tuple #[]) (w.setRow g (cur.take o ++ z.cells.toList ++ cur.drop (o + k)).toArray) := Eff.mk fun ρ hρ => by
  have h1 := run_underlying (Sli.h (P := P) (t := t) (el := el)) w
  have h2 := Zer.run P el (z := z) w
  have h3 := run_storeCells_at P g o el z.cells.toList 0 cur.toArray w hb (by simp only [List.size_toArray, Nat.add_zero, Array.length_toList]; omega) hz1
  have h4 : (Builtin.zeroCells z.cells 1).toList = z.cells.toList := by
    refine List.ext_getElem (by simp [Builtin.zeroCells]) fun i h5 h6 => ?_
    have h7 : i < z.cells.size := by simpa using h6
    simp [Builtin.zeroCells, Nat.mod_eq_of_lt h7, h7]
  simp only [Nat.add_zero, Array.length_toList] at h3
  subst hz
  simp [xop, execOp, hρ x _ hx, resolve, invoke, builtin, Builtin.clear_, h1, h2, h4, h3]
end
theorem erase_flat {k f : Nat} {css : List (List Value)} (h : ∀ c ∈ css, c.length = k) (hf : f < css.length) : css.flatten.take (f * k) ++ (css.drop (f + 1)).flatten = (css.eraseIdx f).flatten := by
  have h1 : css.flatten.take (f * k) = (css.take f).flatten := by
    have h2 : css.flatten = (css.take f).flatten ++ (css.drop f).flatten := by rw [← List.flatten_append, List.take_append_drop]
    have h3 : (css.take f).flatten.length = f * k := by
      rw [flat_len (fun c hc => h c (List.mem_of_mem_take hc)), List.length_take, Nat.min_eq_left (by omega)]
    rw [h2, ← h3, List.take_left]
  rw [h1, List.eraseIdx_eq_take_drop_succ, List.flatten_append]
theorem drop_flat {k f : Nat} {css : List (List Value)} (h : ∀ c ∈ css, c.length = k) (hf : f ≤ css.length) : css.flatten.drop (f * k) = (css.drop f).flatten := by
  have h2 : css.flatten = (css.take f).flatten ++ (css.drop f).flatten := by rw [← List.flatten_append, List.take_append_drop]
  have h3 : (css.take f).flatten.length = f * k := by
    rw [flat_len (fun c hc => h c (List.mem_of_mem_take hc)), List.length_take, Nat.min_eq_left (by omega)]
  rw [h2, ← h3, List.drop_left]
theorem del_lists {k n c f : Nat} {A : List Value} {css : List (List Value)} (hall : ∀ c ∈ css, c.length = k) (hl : css.length = n) (hA : A.length = c * k) (ht : A.take (n * k) = css.flatten) (hf : f < n) (hnc : n ≤ c) :
    (css.drop (f + 1)).flatten.length = (n - (f + 1)) * k ∧ (A.take (f * k) ++ (css.drop (f + 1)).flatten ++ A.drop (f * k + (css.drop (f + 1)).flatten.length)).length = c * k ∧
    (A.take (f * k) ++ (css.drop (f + 1)).flatten ++ A.drop (f * k + (css.drop (f + 1)).flatten.length)).take ((n - 1) * k) = (css.eraseIdx f).flatten ∧ (n - 1) * k + k ≤ c * k := by
  have hlen2 : (css.drop (f + 1)).flatten.length = (n - (f + 1)) * k := by
    rw [flat_len (fun c hc => hall c (List.mem_of_mem_drop hc)), List.length_drop, hl]
  have h1 : (n - 1) * k = f * k + (n - (f + 1)) * k := by rw [← Nat.add_mul]; congr 1; omega
  have h2 : f * k + (n - (f + 1)) * k ≤ c * k := by rw [← Nat.add_mul]; exact Nat.mul_le_mul_right _ (by omega)
  have h3 : (A.take (f * k) ++ (css.drop (f + 1)).flatten).length = (n - 1) * k := by
    rw [List.length_append, List.length_take, hA, hlen2]
    omega
  refine ⟨hlen2, ?_, ?_, ?_⟩
  · rw [List.length_append, h3, List.length_drop, hA, hlen2]
    omega
  · rw [← h3, List.take_left, ← erase_flat hall (by omega)]
    congr 1
    rw [← ht, List.take_take, Nat.min_eq_left (Nat.mul_le_mul_right _ (by omega))]
  · rw [← Nat.succ_mul]
    exact Nat.mul_le_mul_right _ (by omega)
set_option maxHeartbeats 1000000 in
theorem Delete_Str {B g n c f : Nat} {xs : List _} (w : World) (h : Own strLay 9 B Nn w (.slice (some ⟨g, 0, none⟩) n c) xs) (hf : f < xs.length) :
    Calls Try.prog 115 #[.slice (some ⟨g, 0, none⟩) n c, .int .i64 (f : Int), .int .i64 ((f + 1 : Nat) : Int)] w fun en w' => en = .returned (.slice (some ⟨g, 0, none⟩) (xs.length - 1) c) ∧ But g w w' ∧ Own strLay 9 B Nn w' (.slice (some ⟨g, 0, none⟩) (xs.length - 1) c) (xs.eraseIdx f) := by
  refine calls_of_sim Try.func115 rfl (Nat.le_of_ble_eq_true rfl) ?_
  obtain ⟨css, ho, hl, hi⟩ := h
  rcases ho.2 with ⟨hn, h0⟩ | ⟨g', cap, cur, he, hb, hg, hnc, hm, hcs, htake⟩
  · cases hn
  simp only [Value.slice.injEq, Option.some.injEq, Addr.mk.injEq, and_true] at he
  obtain ⟨rfl, rfl, rfl⟩ := he
  have hall : ∀ c ∈ css, c.length = 1 := fun cs hcs => by
    obtain ⟨m, hm', rfl⟩ := List.getElem_of_mem hcs
    exact (strLay).len (hi m _ xs[m] (List.getElem?_eq_getElem hm') (List.getElem?_eq_getElem (by omega)))
  have hfl := flat_len hall
  have hone : ∀ cs ∈ css, ∀ u ∈ cs, u.oneCell' = true := fun cs hcs u hu => by
    obtain ⟨m, hm', rfl⟩ := List.getElem_of_mem hcs
    exact OneC.h (hi m _ xs[m] (List.getElem?_eq_getElem hm') (List.getElem?_eq_getElem (by omega))) u hu
  have hier : ∀ (i : Nat) cs x, (css.eraseIdx f)[i]? = some cs → (xs.eraseIdx f)[i]? = some x → (strLay).is (fun b => Nn b ∧ some b ≠ Value.ownBlock (.slice (some ⟨g, 0, none⟩) xs.length c)) w cs x := fun i cs x h1 h2 => by
    rw [List.getElem?_eraseIdx] at h1 h2
    split at h1
    · rename_i hlt
      rw [if_pos hlt] at h2
      exact hi i cs x h1 h2
    · rename_i hlt
      rw [if_neg hlt] at h2
      exact hi (i + 1) cs x h1 h2
  have htake : cur.toList.take (xs.length * 1) = css.flatten := htake
  have hcs : cur.size = c * 1 := hcs
  unfold maxLen at hm
  have hf0 := hf
  generalize hnn : xs.length = n at *
  clear hi
  repeat (first | refine RL.vv ?_ | refine RL.p ?_ | refine RL.nil ?_ | refine Sim.seq ?_ | refine Sim.region ?_ | refine Sim.block ?_ | refine Sim.skip ?_ | refine Sim.inBlock ?_ | refine Sim.exit rfl ?_ | refine Sim.condT rfl ?_ | refine Sim.condF rfl ?_)
  refine RL.vv ?_ (hy := y_slice3 (k := 1) rfl rfl rfl rfl (by omega) (by omega) hnc)
  repeat (first | refine RL.vv ?_ | refine RL.p ?_ | refine RL.nil ?_ | refine Sim.seq ?_ | refine Sim.region ?_ | refine Sim.block ?_ | refine Sim.skip ?_ | refine Sim.inBlock ?_ | refine Sim.exit rfl ?_ | refine Sim.condT rfl ?_ | refine Sim.condF rfl ?_)
  refine Sim.ord (fun _ => True) ?_
  refine RO.tk 0 ?_ (hS := trivial)
  refine RO.tk 1 ?_ (hS := trivial)
  refine RO.tk 2 ?_ (hS := trivial)
  refine RO.tk 3 ?_ (hS := trivial)
  refine RO.tk 4 ?_ (hS := trivial)
  refine RO.tk 5 ?_ (hS := trivial) (hy := fun wq hq => y_sliceLo (i := f + 1) (k := 1) rfl rfl (by omega) hnc)
  obtain ⟨da, hda, hsrc⟩ : ∃ da : Addr, dropV (some ⟨g, 0, none⟩) n c (f + 1) 1 = .slice (some da) (n - (f + 1)) (c - (f + 1)) ∧ ∀ j u, (css.drop (f + 1)).flatten[j]? = some u → w.drew.cell? (da.add j) = some u := by
    unfold dropV
    by_cases hcf : c = f + 1
    · refine ⟨_, by rw [if_pos hcf], fun j u hj => ?_⟩
      rw [List.drop_eq_nil_of_le (by omega)] at hj
      simp at hj
    · refine ⟨_, by rw [if_neg hcf]; rfl, fun j u hj => ?_⟩
      rw [← drop_flat hall (by omega), List.getElem?_drop] at hj
      have hcell := ho.cells (g := g) rfl _ u hj
      simp only [addr_add] at hcell ⊢
      rw [Nat.add_assoc]
      exact hcell
  rw [hda]
  obtain ⟨hlen2, hA1, hA2, hfit⟩ := del_lists hall hl (show cur.toList.length = c * 1 by rw [Array.length_toList, hcs]) htake hf hnc
  obtain ⟨inf, hinf, hsize⟩ : ∃ i, Try.prog.info? 9 = some i ∧ i.size = 1 := Siz.h
  have happ := fun ty => run_append_room (P := Try.prog) w.drew 50 ty 9 inf Sli.h hinf g f c cur hg da (n - (f + 1)) (c - (f + 1)) (css.drop (f + 1)).flatten (by rw [hsize]; exact hlen2) hsrc (fun u hu => by
    obtain ⟨cs, hcs, hu⟩ := List.mem_flatten.1 hu
    exact hone cs (List.mem_of_mem_drop hcs) u hu) (by omega) (by rw [hsize, hlen2, hcs, ← Nat.add_mul]; exact Nat.mul_le_mul_right _ (by omega))
  rw [show f + (n - (f + 1)) = n - 1 by omega, hsize] at happ
  have hbx1 : Box (w.drew.setRow g (cur.toList.take (f * 1) ++ (css.drop (f + 1)).flatten ++ cur.toList.drop (f * 1 + (css.drop (f + 1)).flatten.length)).toArray) g 9 (cur.toList.take (f * 1) ++ (css.drop (f + 1)).flatten ++ cur.toList.drop (f * 1 + (css.drop (f + 1)).flatten.length)) :=
    setRow_heap w.drew g cur _ 9 (0, 0) hg
  have hbt1 : But g w (w.drew.setRow g (cur.toList.take (f * 1) ++ (css.drop (f + 1)).flatten ++ cur.toList.drop (f * 1 + (css.drop (f + 1)).flatten.length)).toArray) := (But.of_up (Up.drew w)).trans (But.setRow _ _ _)
  generalize hw1 : w.drew.setRow g (cur.toList.take (f * 1) ++ (css.drop (f + 1)).flatten ++ cur.toList.drop (f * 1 + (css.drop (f + 1)).flatten.length)).toArray = w1 at *
  generalize cur.toList.take (f * 1) ++ (css.drop (f + 1)).flatten ++ cur.toList.drop (f * 1 + (css.drop (f + 1)).flatten.length) = A1 at *
  refine RO.one 6 ?_
  refine RL.eff trivial rfl (e_append rfl rfl (happ _)) ?_
  refine RL.ord trivial ?_
  refine RO.tk 7 ?_ (hS := trivial) (hy := fun wq hq => y_assign rfl)
  refine RO.done (RL.nil ?_)
  clear happ hw1 hsrc hda
  refine Sim.seq ?_
  refine Sim.region ?_
  refine RL.vv ?_ (hy := y_move rfl)
  refine RL.vv ?_ (hy := y_move rfl)
  refine RL.vv ?_ (hy := y_len rfl)
  refine RL.vv ?_ (hy := y_move rfl)
  refine RL.vv ?_ (hy := y_slice2 (i := n - 1) (j := n) (k := 1) rfl rfl rfl (by omega) hnc)
  rw [show dropV (some ⟨g, 0, none⟩) n c (n - 1) 1 = .slice (some ⟨g, (n - 1) * 1, none⟩) 1 (c - (n - 1)) by
    unfold dropV
    rw [if_neg (by omega), show n - (n - 1) = 1 by omega]
    simp [addr_add]]
  rw [← hA1] at hfit
  refine RL.eff0 trivial (e_clear (k := 1) rfl (by intro u hu; simp [Value.cells] at hu; rcases hu with rfl | rfl | rfl <;> rfl) rfl hbx1 hfit) ?_
  refine RL.nil ?_
  refine Sim.seq ?_
  refine Sim.region ?_
  refine RL.vv ?_ (hy := y_move rfl)
  refine RL.vv ?_ (hy := y_assign rfl)
  refine RL.nil ?_
  have hbx2 := setRow_heap w1 g A1.toArray (A1.take ((n - 1) * 1) ++ (Value.cells (.string ⟨#[]⟩)).toList ++ A1.drop ((n - 1) * 1 + 1)).toArray 9 (0, 0) hbx1
  have hbt2 := hbt1.trans (But.setRow w1 g (A1.take ((n - 1) * 1) ++ (Value.cells (.string ⟨#[]⟩)).toList ++ A1.drop ((n - 1) * 1 + 1)).toArray)
  have hzl : (Value.cells (.string ⟨#[]⟩)).toList.length = 1 := rfl
  have hlA : (A1.take ((n - 1) * 1)).length = (n - 1) * 1 := by rw [List.length_take]; omega
  refine Sim.ret1 Try.func115 rfl rfl ⟨rfl, hbt2, css.eraseIdx f, ⟨?_, .inr ⟨g, c, _, ?_, hb, hbx2, ?_, hm, ?_, ?_⟩⟩, ?_, fun i cs x h1 h2 => Flat.h (hier i cs x h1 h2)⟩
  · rw [← hA2, hlA, List.length_eraseIdx, if_pos (by omega), hnn]
    rfl
  · rw [List.length_eraseIdx, if_pos (by omega), hnn]
  · rw [List.length_eraseIdx, if_pos (by omega), hnn]
    omega
  · show _ = c * 1
    rw [List.size_toArray, List.length_append, List.length_append, hlA, hzl, List.length_drop, hA1]
    rw [hA1] at hfit
    omega
  · rw [List.length_eraseIdx, if_pos (by omega), hnn, ← hA2, List.append_assoc]
    show (A1.take ((n - 1) * 1) ++ _).take ((n - 1) * 1) = A1.take ((n - 1) * 1)
    exact List.take_left' hlA
  · rw [List.length_eraseIdx, List.length_eraseIdx, if_pos (by omega), if_pos (by omega), hl, hnn]
set_option maxHeartbeats 1000000 in
theorem Delete_Fld {B g n c f : Nat} {xs : List _} (w : World) (h : Own fldLay 86 B Nn w (.slice (some ⟨g, 0, none⟩) n c) xs) (hf : f < xs.length) :
    Calls Try.prog 114 #[.slice (some ⟨g, 0, none⟩) n c, .int .i64 (f : Int), .int .i64 ((f + 1 : Nat) : Int)] w fun en w' => en = .returned (.slice (some ⟨g, 0, none⟩) (xs.length - 1) c) ∧ But g w w' ∧ Own fldLay 86 B Nn w' (.slice (some ⟨g, 0, none⟩) (xs.length - 1) c) (xs.eraseIdx f) := by
  refine calls_of_sim Try.func114 rfl (Nat.le_of_ble_eq_true rfl) ?_
  obtain ⟨css, ho, hl, hi⟩ := h
  rcases ho.2 with ⟨hn, h0⟩ | ⟨g', cap, cur, he, hb, hg, hnc, hm, hcs, htake⟩
  · cases hn
  simp only [Value.slice.injEq, Option.some.injEq, Addr.mk.injEq, and_true] at he
  obtain ⟨rfl, rfl, rfl⟩ := he
  have hall : ∀ c ∈ css, c.length = 3 := fun cs hcs => by
    obtain ⟨m, hm', rfl⟩ := List.getElem_of_mem hcs
    exact (fldLay).len (hi m _ xs[m] (List.getElem?_eq_getElem hm') (List.getElem?_eq_getElem (by omega)))
  have hfl := flat_len hall
  have hone : ∀ cs ∈ css, ∀ u ∈ cs, u.oneCell' = true := fun cs hcs u hu => by
    obtain ⟨m, hm', rfl⟩ := List.getElem_of_mem hcs
    exact OneC.h (hi m _ xs[m] (List.getElem?_eq_getElem hm') (List.getElem?_eq_getElem (by omega))) u hu
  have hier : ∀ (i : Nat) cs x, (css.eraseIdx f)[i]? = some cs → (xs.eraseIdx f)[i]? = some x → (fldLay).is (fun b => Nn b ∧ some b ≠ Value.ownBlock (.slice (some ⟨g, 0, none⟩) xs.length c)) w cs x := fun i cs x h1 h2 => by
    rw [List.getElem?_eraseIdx] at h1 h2
    split at h1
    · rename_i hlt
      rw [if_pos hlt] at h2
      exact hi i cs x h1 h2
    · rename_i hlt
      rw [if_neg hlt] at h2
      exact hi (i + 1) cs x h1 h2
  have htake : cur.toList.take (xs.length * 3) = css.flatten := htake
  have hcs : cur.size = c * 3 := hcs
  unfold maxLen at hm
  have hf0 := hf
  generalize hnn : xs.length = n at *
  clear hi
  repeat (first | refine RL.vv ?_ | refine RL.p ?_ | refine RL.nil ?_ | refine Sim.seq ?_ | refine Sim.region ?_ | refine Sim.block ?_ | refine Sim.skip ?_ | refine Sim.inBlock ?_ | refine Sim.exit rfl ?_ | refine Sim.condT rfl ?_ | refine Sim.condF rfl ?_)
  refine RL.vv ?_ (hy := y_slice3 (k := 3) rfl rfl rfl rfl (by omega) (by omega) hnc)
  repeat (first | refine RL.vv ?_ | refine RL.p ?_ | refine RL.nil ?_ | refine Sim.seq ?_ | refine Sim.region ?_ | refine Sim.block ?_ | refine Sim.skip ?_ | refine Sim.inBlock ?_ | refine Sim.exit rfl ?_ | refine Sim.condT rfl ?_ | refine Sim.condF rfl ?_)
  refine Sim.ord (fun _ => True) ?_
  refine RO.tk 0 ?_ (hS := trivial)
  refine RO.tk 1 ?_ (hS := trivial)
  refine RO.tk 2 ?_ (hS := trivial)
  refine RO.tk 3 ?_ (hS := trivial)
  refine RO.tk 4 ?_ (hS := trivial)
  refine RO.tk 5 ?_ (hS := trivial) (hy := fun wq hq => y_sliceLo (i := f + 1) (k := 3) rfl rfl (by omega) hnc)
  obtain ⟨da, hda, hsrc⟩ : ∃ da : Addr, dropV (some ⟨g, 0, none⟩) n c (f + 1) 3 = .slice (some da) (n - (f + 1)) (c - (f + 1)) ∧ ∀ j u, (css.drop (f + 1)).flatten[j]? = some u → w.drew.cell? (da.add j) = some u := by
    unfold dropV
    by_cases hcf : c = f + 1
    · refine ⟨_, by rw [if_pos hcf], fun j u hj => ?_⟩
      rw [List.drop_eq_nil_of_le (by omega)] at hj
      simp at hj
    · refine ⟨_, by rw [if_neg hcf]; rfl, fun j u hj => ?_⟩
      rw [← drop_flat hall (by omega), List.getElem?_drop] at hj
      have hcell := ho.cells (g := g) rfl _ u hj
      simp only [addr_add] at hcell ⊢
      rw [Nat.add_assoc]
      exact hcell
  rw [hda]
  obtain ⟨hlen2, hA1, hA2, hfit⟩ := del_lists hall hl (show cur.toList.length = c * 3 by rw [Array.length_toList, hcs]) htake hf hnc
  obtain ⟨inf, hinf, hsize⟩ : ∃ i, Try.prog.info? 86 = some i ∧ i.size = 3 := Siz.h
  have happ := fun ty => run_append_room (P := Try.prog) w.drew 78 ty 86 inf Sli.h hinf g f c cur hg da (n - (f + 1)) (c - (f + 1)) (css.drop (f + 1)).flatten (by rw [hsize]; exact hlen2) hsrc (fun u hu => by
    obtain ⟨cs, hcs, hu⟩ := List.mem_flatten.1 hu
    exact hone cs (List.mem_of_mem_drop hcs) u hu) (by omega) (by rw [hsize, hlen2, hcs, ← Nat.add_mul]; exact Nat.mul_le_mul_right _ (by omega))
  rw [show f + (n - (f + 1)) = n - 1 by omega, hsize] at happ
  have hbx1 : Box (w.drew.setRow g (cur.toList.take (f * 3) ++ (css.drop (f + 1)).flatten ++ cur.toList.drop (f * 3 + (css.drop (f + 1)).flatten.length)).toArray) g 86 (cur.toList.take (f * 3) ++ (css.drop (f + 1)).flatten ++ cur.toList.drop (f * 3 + (css.drop (f + 1)).flatten.length)) :=
    setRow_heap w.drew g cur _ 86 (0, 0) hg
  have hbt1 : But g w (w.drew.setRow g (cur.toList.take (f * 3) ++ (css.drop (f + 1)).flatten ++ cur.toList.drop (f * 3 + (css.drop (f + 1)).flatten.length)).toArray) := (But.of_up (Up.drew w)).trans (But.setRow _ _ _)
  generalize hw1 : w.drew.setRow g (cur.toList.take (f * 3) ++ (css.drop (f + 1)).flatten ++ cur.toList.drop (f * 3 + (css.drop (f + 1)).flatten.length)).toArray = w1 at *
  generalize cur.toList.take (f * 3) ++ (css.drop (f + 1)).flatten ++ cur.toList.drop (f * 3 + (css.drop (f + 1)).flatten.length) = A1 at *
  refine RO.one 6 ?_
  refine RL.eff trivial rfl (e_append rfl rfl (happ _)) ?_
  refine RL.ord trivial ?_
  refine RO.tk 7 ?_ (hS := trivial) (hy := fun wq hq => y_assign rfl)
  refine RO.done (RL.nil ?_)
  clear happ hw1 hsrc hda
  refine Sim.seq ?_
  refine Sim.region ?_
  refine RL.vv ?_ (hy := y_move rfl)
  refine RL.vv ?_ (hy := y_move rfl)
  refine RL.vv ?_ (hy := y_len rfl)
  refine RL.vv ?_ (hy := y_move rfl)
  refine RL.vv ?_ (hy := y_slice2 (i := n - 1) (j := n) (k := 3) rfl rfl rfl (by omega) hnc)
  rw [show dropV (some ⟨g, 0, none⟩) n c (n - 1) 3 = .slice (some ⟨g, (n - 1) * 3, none⟩) 1 (c - (n - 1)) by
    unfold dropV
    rw [if_neg (by omega), show n - (n - 1) = 1 by omega]
    simp [addr_add]]
  rw [← hA1] at hfit
  refine RL.eff0 trivial (e_clear (k := 3) rfl (by intro u hu; simp [Value.cells] at hu; rcases hu with rfl | rfl | rfl <;> rfl) rfl hbx1 hfit) ?_
  refine RL.nil ?_
  refine Sim.seq ?_
  refine Sim.region ?_
  refine RL.vv ?_ (hy := y_move rfl)
  refine RL.vv ?_ (hy := y_assign rfl)
  refine RL.nil ?_
  have hbx2 := setRow_heap w1 g A1.toArray (A1.take ((n - 1) * 3) ++ (Value.cells (.agg #[.string ⟨#[]⟩, .int .i64 0, .string ⟨#[]⟩])).toList ++ A1.drop ((n - 1) * 3 + 3)).toArray 86 (0, 0) hbx1
  have hbt2 := hbt1.trans (But.setRow w1 g (A1.take ((n - 1) * 3) ++ (Value.cells (.agg #[.string ⟨#[]⟩, .int .i64 0, .string ⟨#[]⟩])).toList ++ A1.drop ((n - 1) * 3 + 3)).toArray)
  have hzl : (Value.cells (.agg #[.string ⟨#[]⟩, .int .i64 0, .string ⟨#[]⟩])).toList.length = 3 := rfl
  have hlA : (A1.take ((n - 1) * 3)).length = (n - 1) * 3 := by rw [List.length_take]; omega
  refine Sim.ret1 Try.func114 rfl rfl ⟨rfl, hbt2, css.eraseIdx f, ⟨?_, .inr ⟨g, c, _, ?_, hb, hbx2, ?_, hm, ?_, ?_⟩⟩, ?_, fun i cs x h1 h2 => Flat.h (hier i cs x h1 h2)⟩
  · rw [← hA2, hlA, List.length_eraseIdx, if_pos (by omega), hnn]
    rfl
  · rw [List.length_eraseIdx, if_pos (by omega), hnn]
  · rw [List.length_eraseIdx, if_pos (by omega), hnn]
    omega
  · show _ = c * 3
    rw [List.size_toArray, List.length_append, List.length_append, hlA, hzl, List.length_drop, hA1]
    rw [hA1] at hfit
    omega
  · rw [List.length_eraseIdx, if_pos (by omega), hnn, ← hA2, List.append_assoc]
    show (A1.take ((n - 1) * 3) ++ _).take ((n - 1) * 3) = A1.take ((n - 1) * 3)
    exact List.take_left' hlA
  · rw [List.length_eraseIdx, List.length_eraseIdx, if_pos (by omega), if_pos (by omega), hl, hnn]
end Go.Proofs.Ytgckpmcdlciibab

namespace Go.Proofs.Ytgckpmcdlciibab
open Go.RowKit
set_option maxHeartbeats 400000 in
theorem IndexFunc_Seen {g : FuncId} [Fun Try.prog g] {caps : Array Value} {sv : Value} {n : Nat} {cells : Nat → List Value} {p : Nat → Bool} {w : World} (hs : Elems 4 w sv n cells)
    (hp : ∀ i, i < n → ∀ w', Up w w' → Calls Try.prog g (#[.agg (cells i).toArray] ++ caps) w' fun en w'' => en = .returned (.bool (p i)) ∧ Up w' w'') :
    Calls Try.prog 134 #[sv, .func (.func g) #[] caps] w fun en w' => en = .returned (.int .i64 (idx p n)) ∧ Up w w' := by
  obtain ⟨a, c, rfl, hnc, hcm, hel⟩ := hs
  unfold maxLen at hcm
  refine calls_of_sim Try.func134 rfl (Nat.le_of_ble_eq_true rfl) ?_
  repeat (first | refine RL.vv ?_ | refine RL.p ?_ | refine RL.nil ?_ | refine Sim.seq ?_ | refine Sim.region ?_ | refine Sim.block ?_ | refine Sim.skip ?_ | refine Sim.inBlock ?_ | refine Sim.exit rfl ?_ | refine Sim.condT rfl ?_ | refine Sim.condF rfl ?_)
  refine Sim.loop (σ := Nat) (fun i => [(0, .slice a n c), (1, .func (.func g) #[] caps), (6, .slice a n c), (7, .int .i64 (n : Int)), (8, .int .i64 (i : Int))]) (fun i w' => i ≤ n ∧ Up w w' ∧ ∀ j, j < i → p j = false) (fun i => n - i) 0 sb ⟨Nat.zero_le _, Up.refl _, fun j hj => absurd hj (Nat.not_lt_zero _)⟩ ?_
  rintro i w1 ⟨hi, hu, hno⟩ next
  by_cases hlt : i < n
  · obtain ⟨b, o, rfl, hc⟩ := hel (by omega)
    obtain ⟨hk, hcell⟩ := hc i hlt
    have hcell := hcell.up hu
    repeat (first | refine RL.vv ?_ | refine RL.p ?_ | refine RL.nil ?_ | refine Sim.seq ?_ | refine Sim.region ?_ | refine Sim.block ?_ | refine Sim.skip ?_ | refine Sim.inBlock ?_ | refine Sim.exit rfl ?_ | refine Sim.condT rfl ?_ | refine Sim.condF rfl ?_)
    refine RL.call trivial rfl (c_closure rfl rfl) (hp i hlt w1 hu) ?_
    rintro _ w2 ⟨rfl, hu2⟩
    refine ⟨_, rfl, ?_⟩
    refine RL.nil ?_
    refine Sim.cond rfl (fun ht => ?_) (fun hf => ?_)
    · repeat (first | refine RL.vv ?_ | refine RL.p ?_ | refine RL.nil ?_ | refine Sim.seq ?_ | refine Sim.region ?_ | refine Sim.block ?_ | refine Sim.skip ?_ | refine Sim.inBlock ?_ | refine Sim.exit rfl ?_ | refine Sim.condT rfl ?_ | refine Sim.condF rfl ?_)
      exact Sim.ret1 Try.func134 rfl rfl ⟨by rw [idx_hit hlt ht hno], hu.trans hu2⟩
    · repeat (first | refine RL.vv ?_ | refine RL.p ?_ | refine RL.nil ?_ | refine Sim.seq ?_ | refine Sim.region ?_ | refine Sim.block ?_ | refine Sim.skip ?_ | refine Sim.inBlock ?_ | refine Sim.exit rfl ?_ | refine Sim.condT rfl ?_ | refine Sim.condF rfl ?_)
      refine next (i + 1) w2 _ ⟨by omega, hu.trans hu2, fun j hj => ?_⟩ (by omega) sb
      by_cases hji : j = i
      · subst hji; exact hf
      · exact hno j (by omega)
  · repeat (first | refine RL.vv ?_ | refine RL.p ?_ | refine RL.nil ?_ | refine Sim.seq ?_ | refine Sim.region ?_ | refine Sim.block ?_ | refine Sim.skip ?_ | refine Sim.inBlock ?_ | refine Sim.exit rfl ?_ | refine Sim.condT rfl ?_ | refine Sim.condF rfl ?_)
    exact Sim.ret1 Try.func134 rfl rfl ⟨by rw [idx_miss (fun j hj => hno j (by omega))], hu⟩

set_option maxHeartbeats 400000 in
theorem vfind1_any (n n2 : Str) (v1 v2 v3 : Value) (b : Nat) (w : World) (hb : At w b 0 [.string n]) :
    Calls Try.prog 135 #[.agg #[.string n2, v1, v2, v3], .pointer (some ⟨b, 0, none⟩)] w fun en w' => en = .returned (.bool (decide (n2 = n))) ∧ Up w w' := by
  refine calls_of_sim Try.func135 rfl (Nat.le_of_ble_eq_true rfl) ?_
  repeat (first | refine RL.vv ?_ | refine RL.p ?_ | refine RL.nil ?_ | refine Sim.seq ?_ | refine Sim.region ?_ | refine Sim.block ?_ | refine Sim.skip ?_ | refine Sim.inBlock ?_ | refine Sim.exit rfl ?_ | refine Sim.condT rfl ?_ | refine Sim.condF rfl ?_)
  refine RL.bx (.refl w) fun b3 w1 _ _ hu _ hb3 => ?_
  have ha3 := hb3.at
  repeat (first | refine RL.vv ?_ | refine RL.p ?_ | refine RL.nil ?_ | refine Sim.seq ?_ | refine Sim.region ?_ | refine Sim.block ?_ | refine Sim.skip ?_ | refine Sim.inBlock ?_ | refine Sim.exit rfl ?_ | refine Sim.condT rfl ?_ | refine Sim.condF rfl ?_)
  exact Sim.ret1 Try.func135 rfl rfl ⟨rfl, hu⟩
def hdF (l : List Hd) (n : Str) : Int := firstIdx l fun h => decide (h.name = n)
set_option maxHeartbeats 400000 in
theorem vfind_any {S : Nat → Prop} {v : Value} {l : List Hd} (n : Str) (w : World) (hl : SliceOf hdLay S w v l) :
    Calls Try.prog 112 #[v, .string n] w fun en w' => en = .returned (.int .i64 (hdF l n)) ∧ Up w w' := by
  refine calls_of_sim Try.func112 rfl (Nat.le_of_ble_eq_true rfl) ?_
  repeat (first | refine RL.vv ?_ | refine RL.p ?_ | refine RL.nil ?_ | refine Sim.seq ?_ | refine Sim.region ?_ | refine Sim.block ?_ | refine Sim.skip ?_ | refine Sim.inBlock ?_ | refine Sim.exit rfl ?_ | refine Sim.condT rfl ?_ | refine Sim.condF rfl ?_)
  refine RL.bx (.refl w) fun b1 w1 _ _ hu _ hb1 => ?_
  repeat (first | refine RL.vv ?_ | refine RL.p ?_ | refine RL.nil ?_ | refine Sim.seq ?_ | refine Sim.region ?_ | refine Sim.block ?_ | refine Sim.skip ?_ | refine Sim.inBlock ?_ | refine Sim.exit rfl ?_ | refine Sim.condT rfl ?_ | refine Sim.condF rfl ?_)
  obtain ⟨cells, hel, his⟩ := (hl.up hu).elems
  refine RL.cu hu (IndexFunc_Seen (g := 135) (caps := #[.pointer (some ⟨b1, 0, none⟩)]) (p := fun i => match l[i]? with | some h => decide (h.name = n) | none => false) hel ?_) fun w2 hu _ => ?_
  · intro i hi w2 hu2
    obtain ⟨hcs, _⟩ := his i l[i] (List.getElem?_eq_getElem hi)
    rw [hcs]
    refine (vfind1_any n _ _ _ _ b1 w2 (hb1.at.up hu2)).mono ?_
    rintro _ w3 ⟨rfl, hu3⟩
    exact ⟨by simp [List.getElem?_eq_getElem hi], hu3⟩
  rw [idx_firstIdx l (fun h => decide (h.name = n)) _ (fun i x hx => by simp only [hx])]
  repeat (first | refine RL.vv ?_ | refine RL.p ?_ | refine RL.nil ?_ | refine Sim.seq ?_ | refine Sim.region ?_ | refine Sim.block ?_ | refine Sim.skip ?_ | refine Sim.inBlock ?_ | refine Sim.exit rfl ?_ | refine Sim.condT rfl ?_ | refine Sim.condF rfl ?_)
  exact Sim.ret1 Try.func112 rfl rfl ⟨rfl, hu⟩
theorem firstIdx_map {α β : Type} {l : List α} {m : List β} {p : α → Bool} {q : β → Bool} (hl : l.length = m.length) (h : ∀ (i : Nat) x y, l[i]? = some x → m[i]? = some y → p x = q y) : firstIdx l p = firstIdx m q := by
  by_cases h0 : 0 ≤ firstIdx l p
  · obtain ⟨i, x, h1, h2, h3, h4⟩ := firstIdx_lt h0
    rw [h1]
    have hy : m[i]? = some (m[i]'(by omega)) := List.getElem?_eq_getElem (by omega)
    refine (firstIdx_hit hy (by rw [← h i x _ h2 hy]; exact h3) fun j y hj hy2 => ?_).symm
    have hx2 : l[j]? = some (l[j]'(by omega)) := List.getElem?_eq_getElem (by omega)
    rw [← h j _ y hx2 hy2]
    unfold firstIdx at h1
    cases hf : l.findIdx? p with
    | none => rw [hf] at h1; simp at h1
    | some k =>
      rw [hf] at h1
      simp only [Int.natCast_inj] at h1
      subst h1
      obtain ⟨_, _, hno⟩ := List.findIdx?_eq_some_iff_getElem.1 hf
      have := hno j hj
      simpa using this
  · rw [firstIdx_neg h0]
    refine (firstIdx_miss fun j y hy => ?_).symm
    have hlt := (List.getElem?_eq_some_iff.1 hy).1
    have hx : l[j]? = some (l[j]'(by omega)) := List.getElem?_eq_getElem (by omega)
    rw [← h j _ y hx hy]
    cases hp : p (l[j]'(by omega)) with
    | false => rfl
    | true => exact absurd (firstIdx_nonneg_iff.2 (List.any_eq_true.2 ⟨_, List.mem_of_getElem? hx, hp⟩)) h0
theorem ViewAt.find {B : Nat} {w : World} {v : Value} {hds : List Hd} {sns : List Sn} {lab : Nat → Nat} (h : ViewAt B w v hds sns lab) (n : Str) : hdF hds n = snF sns n :=
  firstIdx_map h.len fun i a s h1 h2 => by rw [(h.name i a s h1 h2).1]
theorem ViewAt.slice {B : Nat} {w : World} {v : Value} {hds : List Hd} {sns : List Sn} {lab : Nat → Nat} (h : ViewAt B w v hds sns lab) : SliceOf hdLay (fun _ => True) w v hds := (h.row.no (S' := Nn)).sl (fun _ h _ _ => h.elim) (fun _ _ => trivial)
end Go.Proofs.Ytgckpmcdlciibab

namespace Go.Proofs.Ytgckpmcdlciibab
open Go.RowKit
theorem set_same {α : Type} {l : List α} {i : Nat} {a : α} (h : l[i]? = some a) : l.set i a = l := by
  obtain ⟨h1, rfl⟩ := List.getElem?_eq_some_iff.1 h
  simp
theorem mid_get {α : Type} (A C : List α) (x : α) : (A ++ x :: C)[A.length]? = some x := by simp
theorem mid_set {α : Type} (A C : List α) (x y : α) : (A ++ x :: C).set A.length y = A ++ y :: C := by simp
/-- the first j fields turned -/
def partS (frm to : Str) (j : Nat) (s : Sn) : Sn := { s with type := { s.type with fields := (s.type.fields.take j).map (reF frm to) ++ s.type.fields.drop j } }
theorem partS_zero (frm to : Str) (s : Sn) : partS frm to 0 s = s := by simp [partS]
theorem partS_all (frm to : Str) (s : Sn) : partS frm to s.type.fields.length s = reS frm to s := by simp [partS, reS]
theorem part_get (frm to : Str) (s : Sn) {j : Nat} (hj : j < s.type.fields.length) : (partS frm to j s).type.fields[j]? = some s.type.fields[j] := by
  have hl : ((s.type.fields.take j).map (reF frm to)).length = j := by simp; omega
  simp only [partS]
  rw [List.drop_eq_getElem_cons hj]
  have := mid_get ((s.type.fields.take j).map (reF frm to)) (s.type.fields.drop (j + 1)) s.type.fields[j]
  rwa [hl] at this
theorem part_len (frm to : Str) (s : Sn) {j : Nat} (hj : j < s.type.fields.length) : (partS frm to j s).type.fields.length = s.type.fields.length := by
  simp [partS]
  omega
theorem part_set (frm to : Str) (s : Sn) {j : Nat} (hj : j < s.type.fields.length) : { partS frm to j s with type := { (partS frm to j s).type with fields := (partS frm to j s).type.fields.set j (reF frm to s.type.fields[j]) } } = partS frm to (j + 1) s := by
  have hl : ((s.type.fields.take j).map (reF frm to)).length = j := by simp; omega
  have := mid_set ((s.type.fields.take j).map (reF frm to)) (s.type.fields.drop (j + 1)) s.type.fields[j] (reF frm to s.type.fields[j])
  rw [hl] at this
  simp only [partS]
  rw [List.drop_eq_getElem_cons hj, this, List.take_succ_eq_append_getElem hj, List.map_append, List.append_assoc]
  rfl
theorem part_same (frm to : Str) (s : Sn) {j : Nat} (hj : j < s.type.fields.length) (h : reF frm to s.type.fields[j] = s.type.fields[j]) : partS frm to (j + 1) s = partS frm to j s := by
  simp only [partS]
  rw [List.drop_eq_getElem_cons hj, List.take_succ_eq_append_getElem hj, List.map_append, List.append_assoc, List.map_cons, h]
  rfl
set_option maxHeartbeats 2000000 in
theorem vcall_any {B : Nat} {v : Value} {hds : List Hd} {sns : List Sn} {lab : Nat → Nat} {k : Nat} {s : Sn} (to : Str) (w : World) (h : ViewAt B w v hds sns lab) (hs : sns[k]? = some s) :
    Calls Try.prog 113 #[v, .int .i64 (k : Int), .string to] w fun en w' => en = .returned (.tuple #[]) ∧ Below B w w' ∧ ∃ hds', ViewAt B w' v hds' (callV sns k to) lab := by
  refine calls_of_sim Try.func113 rfl (Nat.le_of_ble_eq_true rfl) ?_
  obtain ⟨a, ha⟩ := h.hd hs
  obtain ⟨g, c, cs, rfl, hat, ⟨rfl, hc1, hc2⟩, hlt, hnc, hcm⟩ := h.row.get ha
  have hat : At w g (0 + k * 4) _ := hat
  obtain ⟨hn1, hn2⟩ := h.name k a s ha hs
  have hlen := h.len
  have hgB := (h.row.lt g rfl).1
  have hg0 := h.own0 g rfl
  unfold maxLen at hcm
  have hcv : callV sns k to = (sns.set k (nameS to s)).map (reS s.type.name to) := by
    unfold callV
    rw [hs]
  rw [hcv, ← hn1]
  repeat (first | refine RL.vv ?_ | refine RL.p ?_ | refine RL.nil ?_ | refine Sim.seq ?_ | refine Sim.region ?_ | refine Sim.block ?_ | refine Sim.skip ?_ | refine Sim.inBlock ?_ | refine Sim.exit rfl ?_ | refine Sim.condT rfl ?_ | refine Sim.condF rfl ?_)
  refine RL.wr (L := hdLay) (k := 4) (j := 0) (x' := { a with name := to }) h.row ha (fun w1 hbt hrow => ?_) (by rintro _ ⟨rfl, h1, h2⟩; exact ⟨rfl, h1, h2⟩)
  have hv1 : ViewAt B w1 (.slice (some ⟨g, 0, none⟩) hds.length c) (hds.set k { a with name := to }) (sns.set k (nameS to s)) lab := by
    obtain ⟨h3, h4⟩ := h.fs k a s ha hs
    obtain ⟨h5, h6⟩ := h.ns k a s ha hs
    exact h.step hs { a with name := to } (nameS to s) hrow ⟨rfl, hn2⟩ (fun _ _ => rfl) (fun b hb h0 _ _ => hbt.block b hb (fun e => h0 (e ▸ hg0)))
      ⟨h3.but hbt (fun _ h => h.elim) (fun g' hg' e => by have := h4 g' hg'; rw [e, hg0] at this; omega), h4⟩ ⟨h5.but hbt (fun _ h => h.elim) (fun g' hg' e => by have := h6 g' hg'; rw [e, hg0] at this; omega), h6⟩
  have hb1 : Below B w w1 := hbt.below (by have := (h.row.lt g rfl).2; omega) hgB
  clear hrow hbt hat h
  generalize hsn1 : sns.set k (nameS to s) = sn1 at *
  have hl1 : sn1.length = hds.length := by rw [← hsn1]; simp [hlen]
  clear hsn1 hcv hs hn1 hn2 hlt ha
  generalize hnn : hds.length = n at *
  generalize hf : a.name = frm at *
  repeat (first | refine RL.vv ?_ | refine RL.p ?_ | refine RL.nil ?_ | refine Sim.seq ?_ | refine Sim.region ?_ | refine Sim.block ?_ | refine Sim.skip ?_ | refine Sim.inBlock ?_ | refine Sim.exit rfl ?_ | refine Sim.condT rfl ?_ | refine Sim.condF rfl ?_)
  refine Sim.loop (σ := Nat) (fun i => [(0, .slice (some ⟨g, 0, none⟩) n c), (2, .string to), (6, .string frm), (23, .int .i64 (n : Int)), (24, .int .i64 (i : Int))])
    (fun i w' => i ≤ n ∧ Below B w w' ∧ ∃ hds', ViewAt B w' (.slice (some ⟨g, 0, none⟩) n c) hds' ((sn1.take i).map (reS frm to) ++ sn1.drop i) lab) (fun i => n - i) 0 sb ⟨Nat.zero_le _, hb1, _, by simpa using hv1⟩ ?_
  clear hb1 hv1
  rintro i w2 ⟨hi, hbel, hds2, hv⟩ next
  by_cases hlt : i < n
  rotate_left
  · have : i = n := by omega
    subst this
    rw [← hl1, List.take_length, List.drop_length, List.append_nil] at hv
    repeat (first | refine RL.vv ?_ | refine RL.p ?_ | refine RL.nil ?_ | refine Sim.seq ?_ | refine Sim.region ?_ | refine Sim.block ?_ | refine Sim.skip ?_ | refine Sim.inBlock ?_ | refine Sim.exit rfl ?_ | refine Sim.condT rfl ?_ | refine Sim.condF rfl ?_)
    exact Sim.fin0 Try.func113 rfl ⟨rfl, hbel, hds2, by rw [← hl1]; exact hv⟩
  have hsi : sn1[i]? = some sn1[i] := List.getElem?_eq_getElem (by omega)
  have hdi : sn1.drop i = sn1[i] :: sn1.drop (i + 1) := List.drop_eq_getElem_cons (by omega)
  have htl : ((sn1.take i).map (reS frm to)).length = i := by simp; omega
  have htk : (sn1.take (i + 1)).map (reS frm to) = (sn1.take i).map (reS frm to) ++ [reS frm to sn1[i]] := by rw [List.take_succ_eq_append_getElem (by omega), List.map_append]; rfl
  rw [hdi] at hv
  generalize sn1[i] = s1 at *
  generalize hA : (sn1.take i).map (reS frm to) = A at *
  generalize hC : sn1.drop (i + 1) = C at *
  have hget : ∀ x : Sn, (A ++ x :: C)[i]? = some x := fun x => by rw [← htl]; exact mid_get A C x
  have hset : ∀ x y : Sn, (A ++ x :: C).set i y = A ++ y :: C := fun x y => by rw [← htl]; exact mid_set A C x y
  obtain ⟨a1, ha1⟩ := hv.hd (hget s1)
  obtain ⟨g', c', cs, he', hat, ⟨rfl, _, _⟩, _, _, _⟩ := hv.row.get ha1
  simp only [Value.slice.injEq, Option.some.injEq, Addr.mk.injEq, and_true] at he'
  obtain ⟨rfl, hln, rfl⟩ := he'
  have hat : At w2 g (0 + i * 4) _ := hat
  obtain ⟨fa, fc, hfv⟩ := (hv.fs i a1 s1 ha1 (hget s1)).1.shape
  rw [hfv] at hat
  repeat (first | refine RL.vv ?_ | refine RL.p ?_ | refine RL.nil ?_ | refine Sim.seq ?_ | refine Sim.region ?_ | refine Sim.block ?_ | refine Sim.skip ?_ | refine Sim.inBlock ?_ | refine Sim.exit rfl ?_ | refine Sim.condT rfl ?_ | refine Sim.condF rfl ?_)
  refine Sim.loop (σ := Nat) (fun j => [(0, .slice (some ⟨g, 0, none⟩) n c), (2, .string to), (6, .string frm), (23, .int .i64 (n : Int)), (24, .int .i64 (i : Int)), (7, .int .i64 (i : Int)), (33, .int .i64 (s1.type.fields.length : Int)), (34, .int .i64 (j : Int))])
    (fun j w' => j ≤ s1.type.fields.length ∧ Below B w w' ∧ ∃ hds', ViewAt B w' (.slice (some ⟨g, 0, none⟩) n c) hds' (A ++ partS frm to j s1 :: C) lab) (fun j => s1.type.fields.length - j) 0 sb ⟨Nat.zero_le _, hbel, hds2, by rw [partS_zero]; exact hv⟩ ?_
  clear hbel hv ha1 hat hfv hln
  rintro j w3 ⟨hj, hbel, hds3, hv⟩ next2
  by_cases hjl : j < s1.type.fields.length
  rotate_left
  · have : j = s1.type.fields.length := by omega
    subst this
    rw [partS_all] at hv
    repeat (first | refine RL.vv ?_ | refine RL.p ?_ | refine RL.nil ?_ | refine Sim.seq ?_ | refine Sim.region ?_ | refine Sim.block ?_ | refine Sim.skip ?_ | refine Sim.inBlock ?_ | refine Sim.exit rfl ?_ | refine Sim.condT rfl ?_ | refine Sim.condF rfl ?_)
    refine next (i + 1) _ _ ⟨by omega, hbel, hds3, ?_⟩ (by omega) sb
    rw [htk, hC, List.append_assoc]
    exact hv
  obtain ⟨a3, ha3⟩ := hv.hd (hget (partS frm to j s1))
  obtain ⟨g', c', cs, he', hat, ⟨rfl, hoc1, hoc2⟩, _, _, _⟩ := hv.row.get ha3
  simp only [Value.slice.injEq, Option.some.injEq, Addr.mk.injEq, and_true] at he'
  obtain ⟨rfl, hln, rfl⟩ := he'
  have hat : At w3 g (0 + i * 4) _ := hat
  have hpg := part_get frm to s1 hjl
  have hpl := part_len frm to s1 hjl
  have hps := part_set frm to s1 hjl
  have hpe := part_same frm to s1 hjl
  obtain ⟨hfr, hfl⟩ := hv.fs i a3 _ ha3 (hget (partS frm to j s1))
  obtain ⟨gf, cf, cs, hfe, hfat, rfl, hfj, hfnc, hfcm⟩ := hfr.get hpg
  have hfat : At w3 gf (0 + j * 3) _ := hfat
  have hfB := (hfr.lt gf (by rw [hfe]; rfl))
  have hgfl := hfl gf (by rw [hfe]; rfl)
  rw [hfe] at hat
  rw [hpl] at hfe hat hfj
  unfold maxLen at hfcm
  generalize s1.type.fields[j] = fj at *
  by_cases hk1 : fj.kind = 1
  · have hr : reF frm to fj = fj := if_neg fun h => h.1 hk1
    repeat (first | refine RL.vv ?_ | refine RL.p ?_ | refine RL.nil ?_ | refine Sim.seq ?_ | refine Sim.region ?_ | refine Sim.block ?_ | refine Sim.skip ?_ | refine Sim.inBlock ?_ | refine Sim.exit rfl ?_ | refine Sim.condT rfl ?_ | refine Sim.condF rfl ?_)
    refine next2 (j + 1) _ _ ⟨by omega, hbel, hds3, ?_⟩ (by omega) sb
    rw [hpe hr]
    exact hv
  by_cases hk2 : fj.type = frm
  rotate_left
  · have hr : reF frm to fj = fj := if_neg fun h => hk2 h.2
    repeat (first | refine RL.vv ?_ | refine RL.p ?_ | refine RL.nil ?_ | refine Sim.seq ?_ | refine Sim.region ?_ | refine Sim.block ?_ | refine Sim.skip ?_ | refine Sim.inBlock ?_ | refine Sim.exit rfl ?_ | refine Sim.condT rfl ?_ | refine Sim.condF rfl ?_)
    refine next2 (j + 1) _ _ ⟨by omega, hbel, hds3, ?_⟩ (by omega) sb
    rw [hpe hr]
    exact hv
  have hr : reF frm to fj = { fj with type := to } := if_pos ⟨hk1, hk2⟩
  repeat (first | refine RL.vv ?_ | refine RL.p ?_ | refine RL.nil ?_ | refine Sim.seq ?_ | refine Sim.region ?_ | refine Sim.block ?_ | refine Sim.skip ?_ | refine Sim.inBlock ?_ | refine Sim.exit rfl ?_ | refine Sim.condT rfl ?_ | refine Sim.condF rfl ?_)
  rw [hfe] at hfr
  refine RL.wr (L := fldLay) (k := 3) (j := 2) (i := j) (x' := reF frm to fj) hfr hpg (fun w4 hbt hrow => ?_) (by rw [hr]; rintro _ rfl; rfl)
  have hbel := hbel.trans (hbt.below (by have := hfB; omega) hfB.1)
  have hgg := (hv.row.lt g (by rfl)).2
  repeat (first | refine RL.vv ?_ | refine RL.p ?_ | refine RL.nil ?_ | refine Sim.seq ?_ | refine Sim.region ?_ | refine Sim.block ?_ | refine Sim.skip ?_ | refine Sim.inBlock ?_ | refine Sim.exit rfl ?_ | refine Sim.condT rfl ?_ | refine Sim.condF rfl ?_)
  refine next2 (j + 1) _ _ ⟨by omega, hbel, hds3.set i a3, ?_⟩ (by omega) sb
  rw [← hps]
  have hgne : ∀ b, lab b = 0 → b ≠ gf := fun b hb e => by rw [e, hgfl] at hb; omega
  have hstep := hv.step (w1 := w4) (hget (partS frm to j s1)) a3 { partS frm to j s1 with type := { (partS frm to j s1).type with fields := (partS frm to j s1).type.fields.set j (reF frm to fj) } }
    (by rw [set_same ha3]; exact hv.row.but hbt (fun _ h => h.elim) (fun g' hg' => hgne g' (hv.own0 g' hg')))
    (hv.name i a3 (partS frm to j s1) ha3 (hget _)) (fun _ _ => rfl) (fun b hb _ h1 _ => hbt.block b hb (fun e => h1 (e ▸ hgfl)))
    ⟨by rw [hfe]; exact hrow, hfl⟩
    ⟨(hv.ns i a3 (partS frm to j s1) ha3 (hget _)).1.but hbt (fun _ h => h.elim) (fun g2 hg2 e => by have := (hv.ns i a3 (partS frm to j s1) ha3 (hget _)).2 g2 hg2; rw [e, hgfl] at this; omega), (hv.ns i a3 (partS frm to j s1) ha3 (hget _)).2⟩
  rw [hset] at hstep
  exact hstep
end Go.Proofs.Ytgckpmcdlciibab

namespace Go.Proofs.Ytgckpmcdlciibab
open Go.RowKit
theorem modify_set {α : Type} : ∀ {l : List α} {i : Nat} {x : α}, l[i]? = some x → ∀ f : α → α, l.modify i f = l.set i (f x)
  | [], i, x, h, f => by simp at h
  | y :: l, 0, x, h, f => by simp at h; subst h; simp
  | y :: l, i + 1, x, h, f => by
    have := modify_set (l := l) (i := i) (x := x) (by simpa using h) f
    simpa using this
theorem snF_get {l : List Sn} {n : Str} (h : ¬ snF l n < 0) : ∃ (j : Nat) (t : Sn), snF l n = (j : Int) ∧ l[j]? = some t ∧ j < l.length := by
  obtain ⟨j, t, h1, h2, _, h3⟩ := firstIdx_lt (l := l) (p := fun t => decide (t.type.name = n)) (by unfold snF at h; omega)
  exact ⟨j, t, h1, h2, h3⟩
theorem fieldF_get' {l : List Fld} {n : Str} (h : ¬ fieldF l n < 0) : ∃ (j : Nat) (t : Fld), fieldF l n = (j : Int) ∧ l[j]? = some t ∧ j < l.length := by
  obtain ⟨j, t, h1, h2, _, h3⟩ := firstIdx_lt (l := l) (p := fun t => decide (t.name = n)) (by unfold fieldF at h; omega)
  exact ⟨j, t, h1, h2, h3⟩
set_option maxHeartbeats 4000000 in
theorem do_any {B cb co : Nat} {v : Value} {hds : List Hd} {sns : List Sn} {lab : Nat → Nat} (c : Chg) (w : World) (h : ViewAt B w v hds sns lab) (hc : At w cb co [.int .i64 c.kind, .string c.type, .string c.field, .string c.to]) (hcb : cb < B) (hBw : B ≤ w.heap.size) (hfl : ∀ s ∈ sns, s.fields.length = s.type.fields.length) :
    Calls Try.prog 77 #[v, .pointer (some ⟨cb, co, none⟩)] w fun en w' => en = .returned (.int .i64 (doV sns c).1) ∧ Below B w w' ∧ ∃ hds', ViewAt B w' v hds' (doV sns c).2 lab := by
  refine calls_of_sim Try.func77 rfl (Nat.le_of_ble_eq_true rfl) ?_
  obtain ⟨kind, type, field, to⟩ := c
  simp only at hc
  unfold doV
  simp only
  have hBr : Below B w w := Below.refl _ _
  by_cases h1 : kind < 1
  · rw [if_pos (.inl h1)]
    repeat (first | refine RL.vv ?_ | refine RL.p ?_ | refine RL.nil ?_ | refine Sim.seq ?_ | refine Sim.region ?_ | refine Sim.block ?_ | refine Sim.skip ?_ | refine Sim.inBlock ?_ | refine Sim.exit rfl ?_ | refine Sim.condT rfl ?_ | refine Sim.condF rfl ?_)
    exact Sim.ret1 Try.func77 rfl rfl ⟨rfl, hBr, hds, h⟩
  by_cases h3 : 3 < kind
  · rw [if_pos (.inr h3)]
    repeat (first | refine RL.vv ?_ | refine RL.p ?_ | refine RL.nil ?_ | refine Sim.seq ?_ | refine Sim.region ?_ | refine Sim.block ?_ | refine Sim.skip ?_ | refine Sim.inBlock ?_ | refine Sim.exit rfl ?_ | refine Sim.condT rfl ?_ | refine Sim.condF rfl ?_)
    exact Sim.ret1 Try.func77 rfl rfl ⟨rfl, hBr, hds, h⟩
  rw [if_neg (by omega)]
  repeat (first | refine RL.vv ?_ | refine RL.p ?_ | refine RL.nil ?_ | refine Sim.seq ?_ | refine Sim.region ?_ | refine Sim.block ?_ | refine Sim.skip ?_ | refine Sim.inBlock ?_ | refine Sim.exit rfl ?_ | refine Sim.condT rfl ?_ | refine Sim.condF rfl ?_)
  refine RL.cu (.refl w) (vfind_any type w h.slice) fun w1 hu _ => ?_
  rw [h.find]
  have hbel : Below B w w1 := Below.mono hu.below hBw
  have hBw := Nat.le_trans hBw hu.size
  have h := h.up hu
  have hc := hc.up hu
  clear hu hBr
  by_cases h4 : snF sns type < 0
  · rw [if_pos h4]
    repeat (first | refine RL.vv ?_ | refine RL.p ?_ | refine RL.nil ?_ | refine Sim.seq ?_ | refine Sim.region ?_ | refine Sim.block ?_ | refine Sim.skip ?_ | refine Sim.inBlock ?_ | refine Sim.exit rfl ?_ | refine Sim.condT rfl ?_ | refine Sim.condF rfl ?_)
    exact Sim.ret1 Try.func77 rfl rfl ⟨rfl, hbel, hds, h⟩
  rw [if_neg h4]
  obtain ⟨k, s, hk, hs, hkl⟩ := snF_get h4
  rw [hk] at h4 ⊢
  simp only [Int.toNat_natCast]
  have hfl1 := hfl s (List.mem_of_getElem? hs)
  by_cases h5 : kind = 1
  · rw [if_pos h5]
    subst h5
    repeat (first | refine RL.vv ?_ | refine RL.p ?_ | refine RL.nil ?_ | refine Sim.seq ?_ | refine Sim.region ?_ | refine Sim.block ?_ | refine Sim.skip ?_ | refine Sim.inBlock ?_ | refine Sim.exit rfl ?_ | refine Sim.condT rfl ?_ | refine Sim.condF rfl ?_)
    refine RL.cu (.refl w1) (Named_any to w1) fun w2 hu _ => ?_
    have hbel2 : Below B w w2 := hbel.trans (Below.mono hu.below hBw)
    have hBw := Nat.le_trans hBw hu.size
    have h := h.up hu
    have hc := hc.up hu
    clear hu
    rcases Bool.eq_false_or_eq_true (named to) with hn | hn
    rotate_left
    · rw [hn, if_neg (fun h => by cases h.1)]
      repeat (first | refine RL.vv ?_ | refine RL.p ?_ | refine RL.nil ?_ | refine Sim.seq ?_ | refine Sim.region ?_ | refine Sim.block ?_ | refine Sim.skip ?_ | refine Sim.inBlock ?_ | refine Sim.exit rfl ?_ | refine Sim.condT rfl ?_ | refine Sim.condF rfl ?_)
      exact Sim.ret1 Try.func77 rfl rfl ⟨rfl, hbel2, hds, h⟩
    rw [hn]
    repeat (first | refine RL.vv ?_ | refine RL.p ?_ | refine RL.nil ?_ | refine Sim.seq ?_ | refine Sim.region ?_ | refine Sim.block ?_ | refine Sim.skip ?_ | refine Sim.inBlock ?_ | refine Sim.exit rfl ?_ | refine Sim.condT rfl ?_ | refine Sim.condF rfl ?_)
    refine RL.cu (.refl w2) (vfind_any to w2 h.slice) fun w3 hu _ => ?_
    rw [h.find]
    have hbel3 : Below B w w3 := hbel2.trans (Below.mono hu.below hBw)
    have h := h.up hu
    have hc := hc.up hu
    clear hu
    by_cases h6 : 0 ≤ snF sns to
    · rw [if_neg (fun h => h.2 h6)]
      repeat (first | refine RL.vv ?_ | refine RL.p ?_ | refine RL.nil ?_ | refine Sim.seq ?_ | refine Sim.region ?_ | refine Sim.block ?_ | refine Sim.skip ?_ | refine Sim.inBlock ?_ | refine Sim.exit rfl ?_ | refine Sim.condT rfl ?_ | refine Sim.condF rfl ?_)
      exact Sim.ret1 Try.func77 rfl rfl ⟨rfl, hbel3, hds, h⟩
    rw [if_pos ⟨rfl, h6⟩]
    repeat (first | refine RL.vv ?_ | refine RL.p ?_ | refine RL.nil ?_ | refine Sim.seq ?_ | refine Sim.region ?_ | refine Sim.block ?_ | refine Sim.skip ?_ | refine Sim.inBlock ?_ | refine Sim.exit rfl ?_ | refine Sim.condT rfl ?_ | refine Sim.condF rfl ?_)
    refine RL.cx (vcall_any to w3 h hs) ?_
    rintro _ w4 ⟨rfl, hb4, hds4, h⟩
    refine ⟨_, rfl, ?_⟩
    repeat (first | refine RL.vv ?_ | refine RL.p ?_ | refine RL.nil ?_ | refine Sim.seq ?_ | refine Sim.region ?_ | refine Sim.block ?_ | refine Sim.skip ?_ | refine Sim.inBlock ?_ | refine Sim.exit rfl ?_ | refine Sim.condT rfl ?_ | refine Sim.condF rfl ?_)
    exact Sim.ret1 Try.func77 rfl rfl ⟨rfl, hbel3.trans hb4, hds4, h⟩
  rw [if_neg h5, hs]
  simp only
  obtain ⟨a, ha⟩ := h.hd hs
  obtain ⟨g, cap, cs, rfl, hat, ⟨rfl, hoc1, hoc2⟩, hlt, hnc, hcm⟩ := h.row.get ha
  have hat : At w1 g (0 + k * 4) _ := hat
  obtain ⟨hfs, hfb⟩ := h.fs k a s ha hs
  obtain ⟨hns, hnb⟩ := h.ns k a s ha hs
  obtain ⟨fa, fc, hfe⟩ := hfs.shape
  obtain ⟨na, nc, hne⟩ := hns.shape
  unfold maxLen at hcm
  rw [hfe, hne] at hat
  have hfsl : SliceOf fldLay (fun _ => True) w1 a.fv s.type.fields := (hfs.no (S' := Nn)).sl (fun _ h _ _ => h.elim) (fun _ _ => trivial)
  rw [hfe] at hfsl
  repeat (first | refine RL.vv ?_ | refine RL.p ?_ | refine RL.nil ?_ | refine Sim.seq ?_ | refine Sim.region ?_ | refine Sim.block ?_ | refine Sim.skip ?_ | refine Sim.inBlock ?_ | refine Sim.exit rfl ?_ | refine Sim.condT rfl ?_ | refine Sim.condF rfl ?_)
  refine Sim.q ?_
  repeat (first | refine RQ.vv ?_ | refine RQ.p ?_)
  refine RQ.cu (fun wq hq => q_call (Field_any field wq (hfsl.up hq)) hq) ?_
  repeat (first | refine RQ.vv ?_ | refine RQ.p ?_)
  refine RQ.nil fun w2 hq => ?_
  have hbel : Below B w w2 := hbel.trans (Below.mono hq.below hBw)
  have hBw := Nat.le_trans hBw hq.size
  have h := h.up hq
  have hc := hc.up hq
  have hat := hat.up hq
  have hfsl := hfsl.up hq
  have hfs := hfs.up hq
  have hns := hns.up hq
  clear hq
  by_cases h6 : fieldF s.type.fields field < 0
  · rw [if_pos h6]
    repeat (first | refine RL.vv ?_ | refine RL.p ?_ | refine RL.nil ?_ | refine Sim.seq ?_ | refine Sim.region ?_ | refine Sim.block ?_ | refine Sim.skip ?_ | refine Sim.inBlock ?_ | refine Sim.exit rfl ?_ | refine Sim.condT rfl ?_ | refine Sim.condF rfl ?_)
    exact Sim.ret1 Try.func77 rfl rfl ⟨rfl, hbel, hds, h⟩
  rw [if_neg h6]
  obtain ⟨f, x, hf, hx, hfl2⟩ := fieldF_get' h6
  rw [hf] at h6 ⊢
  simp only [Int.toNat_natCast]
  by_cases h7 : kind = 3
  · rw [if_pos h7]
    subst h7
    obtain ⟨gf, cf, hfe2⟩ := hfs.pos (by omega)
    rw [hfe] at hfe2
    simp only [Value.slice.injEq, true_and] at hfe2
    obtain ⟨rfl, rfl⟩ := hfe2
    obtain ⟨gn, cn, hne2⟩ := hns.pos (by omega)
    rw [hne] at hne2
    simp only [Value.slice.injEq, true_and] at hne2
    obtain ⟨rfl, rfl⟩ := hne2
    have hgf := hfb gf (by rw [hfe]; rfl)
    have hgn := hnb gn (by rw [hne]; rfl)
    have hg0 := h.own0 g rfl
    have hgB := h.row.lt g rfl
    rw [hfe] at hfs
    rw [hne] at hns
    have hgfB := hfs.lt gf rfl
    have hgnB := hns.lt gn rfl
    obtain ⟨_, _, _, _, _, _, _, hfnc, hfcm⟩ := hfs.get hx
    unfold maxLen at hfcm
    have e1 : g ≠ gf := fun e => by rw [e, hgf] at hg0; omega
    have e2 : gn ≠ gf := fun e => by rw [e, hgf] at hgn; omega
    have e3 : gn ≠ g := fun e => by rw [e, hg0] at hgn; omega
    have hkh : k < hds.length := hlt
    repeat (first | refine RL.vv ?_ | refine RL.p ?_ | refine RL.nil ?_ | refine Sim.seq ?_ | refine Sim.region ?_ | refine Sim.block ?_ | refine Sim.skip ?_ | refine Sim.inBlock ?_ | refine Sim.exit rfl ?_ | refine Sim.condT rfl ?_ | refine Sim.condF rfl ?_)
    refine RL.cx (Delete_Fld w2 hfs hfl2) ?_
    rintro _ w3 ⟨rfl, hbt3, hfs3⟩
    refine ⟨_, rfl, ?_⟩
    have hrow3 := h.row.but hbt3 (fun _ h => h.elim) (fun g' hg' => by cases hg'; exact e1)
    have hns3 := hns.but hbt3 (fun _ h => h.elim) (fun g' hg' => by cases hg'; exact e2)
    repeat (first | refine RL.vv ?_ | refine RL.p ?_ | refine RL.nil ?_ | refine Sim.seq ?_ | refine Sim.region ?_ | refine Sim.block ?_ | refine Sim.skip ?_ | refine Sim.inBlock ?_ | refine Sim.exit rfl ?_ | refine Sim.condT rfl ?_ | refine Sim.condF rfl ?_)
    refine RL.wr (L := hdLay) (k := 4) (j := 1) (i := k) (x' := { a with fv := .slice (some ⟨gf, 0, none⟩) (s.type.fields.length - 1) fc }) hrow3 ha (fun w4 hbt4 hrow4 => ?_) (by rintro _ ⟨rfl, h1, h2⟩; exact ⟨rfl, rfl, h2⟩)
    have ha4 : (hds.set k { a with fv := .slice (some ⟨gf, 0, none⟩) (s.type.fields.length - 1) fc })[k]? = some { a with fv := .slice (some ⟨gf, 0, none⟩) (s.type.fields.length - 1) fc } := List.getElem?_set_self hkh
    have hns4 := hns3.but hbt4 (fun _ h => h.elim) (fun g' hg' => by cases hg'; exact e3)
    have hfs4 := hfs3.but hbt4 (fun _ h => h.elim) (fun g' hg' => by cases hg'; exact e1.symm)
    obtain ⟨g', c', cs, he', hat4, ⟨rfl, _, _⟩, _, _, _⟩ := hrow4.get ha4
    simp only [Value.slice.injEq, Option.some.injEq, Addr.mk.injEq, and_true, List.length_set, true_and] at he'
    obtain ⟨rfl, rfl⟩ := he'
    have hat4 : At w4 g (0 + k * 4) _ := hat4
    rw [hne] at hat4
    clear hat hfsl
    have hfln : f < s.fields.length := by omega
    obtain ⟨_, _, _, _, _, _, _, hnnc, hnnm⟩ := hns4.get (List.getElem?_eq_getElem hfln)
    unfold maxLen at hnnm
    repeat (first | refine RL.vv ?_ | refine RL.p ?_ | refine RL.nil ?_ | refine Sim.seq ?_ | refine Sim.region ?_ | refine Sim.block ?_ | refine Sim.skip ?_ | refine Sim.inBlock ?_ | refine Sim.exit rfl ?_ | refine Sim.condT rfl ?_ | refine Sim.condF rfl ?_)
    refine RL.cx (Delete_Str w4 hns4 hfln) ?_
    rintro _ w5 ⟨rfl, hbt5, hns5⟩
    refine ⟨_, rfl, ?_⟩
    have hrow5 := hrow4.but hbt5 (fun _ h => h.elim) (fun g' hg' => by cases hg'; exact e3.symm)
    have hfs5 := hfs4.but hbt5 (fun _ h => h.elim) (fun g' hg' => by cases hg'; exact e2.symm)
    repeat (first | refine RL.vv ?_ | refine RL.p ?_ | refine RL.nil ?_ | refine Sim.seq ?_ | refine Sim.region ?_ | refine Sim.block ?_ | refine Sim.skip ?_ | refine Sim.inBlock ?_ | refine Sim.exit rfl ?_ | refine Sim.condT rfl ?_ | refine Sim.condF rfl ?_)
    refine RL.wr (L := hdLay) (k := 4) (j := 3) (i := k) (x' := { a with fv := .slice (some ⟨gf, 0, none⟩) (s.type.fields.length - 1) fc, nv := .slice (some ⟨gn, 0, none⟩) (s.fields.length - 1) nc }) hrow5 ha4 (fun w6 hbt6 hrow6 => ?_) (by rintro _ ⟨rfl, h1, h2⟩; exact ⟨rfl, h1, rfl⟩)
    have hns6 := hns5.but hbt6 (fun _ h => h.elim) (fun g' hg' => by cases hg'; exact e3)
    have hfs6 := hfs5.but hbt6 (fun _ h => h.elim) (fun g' hg' => by cases hg'; exact e1.symm)
    rw [List.set_set] at hrow6
    have s3 := hbt3.size
    have s4 := hbt4.size
    have s5 := hbt5.size
    have hstep := h.step hs { a with fv := .slice (some ⟨gf, 0, none⟩) (s.type.fields.length - 1) fc, nv := .slice (some ⟨gn, 0, none⟩) (s.fields.length - 1) nc } (hideS f s) hrow6 (h.name k a s ha hs) (fun _ _ => rfl)
      (fun b hb h0 h1 h2 => by
        have n1 : b ≠ g := fun e => h0 (e ▸ hg0)
        have n2 : b ≠ gf := fun e => h1 (e ▸ hgf)
        have n3 : b ≠ gn := fun e => h2 (e ▸ hgn)
        rw [hbt6.block b (by omega) n1, hbt5.block b (by omega) n3, hbt4.block b (by omega) n1, hbt3.block b hb n2])
      ⟨hfs6, fun g' hg' => by cases hg'; exact hgf⟩ ⟨hns6, fun g' hg' => by cases hg'; exact hgn⟩
    have hbel6 := hbel.trans (((hbt3.below hBw hgfB.1).trans (hbt4.below (by omega) hgB.1)).trans ((hbt5.below (by omega) hgnB.1).trans (hbt6.below (by omega) hgB.1)))
    repeat (first | refine RL.vv ?_ | refine RL.p ?_ | refine RL.nil ?_ | refine Sim.seq ?_ | refine Sim.region ?_ | refine Sim.block ?_ | refine Sim.skip ?_ | refine Sim.inBlock ?_ | refine Sim.exit rfl ?_ | refine Sim.condT rfl ?_ | refine Sim.condF rfl ?_)
    rw [← show sns.modify k (hideS f) = sns.set k (hideS f s) from modify_set hs _] at hstep
    exact Sim.ret1 Try.func77 rfl rfl ⟨rfl, hbel6, _, hstep⟩
  rw [if_neg h7]
  have hn7 : ¬ kind = 3 := h7
  repeat (first | refine RL.vv ?_ | refine RL.p ?_ | refine RL.nil ?_ | refine Sim.seq ?_ | refine Sim.region ?_ | refine Sim.block ?_ | refine Sim.skip ?_ | refine Sim.inBlock ?_ | refine Sim.exit rfl ?_ | refine Sim.condT rfl ?_ | refine Sim.condF rfl ?_)
  refine Sim.q ?_
  repeat (first | refine RQ.vv ?_ | refine RQ.p ?_)
  refine RQ.cu (fun wq hq => q_call (Named_any to wq) hq) ?_
  rcases Bool.eq_false_or_eq_true (named to) with hn | hn
  rotate_left
  · rw [hn, if_neg (fun h => by cases h.1)]
    repeat (first | refine RQ.vv ?_ | refine RQ.p ?_)
    refine RQ.nil fun w3 hq => ?_
    repeat (first | refine RL.vv ?_ | refine RL.p ?_ | refine RL.nil ?_ | refine Sim.seq ?_ | refine Sim.region ?_ | refine Sim.block ?_ | refine Sim.skip ?_ | refine Sim.inBlock ?_ | refine Sim.exit rfl ?_ | refine Sim.condT rfl ?_ | refine Sim.condF rfl ?_)
    exact Sim.ret1 Try.func77 rfl rfl ⟨rfl, hbel.trans (Below.mono hq.below hBw), hds, h.up hq⟩
  rw [hn]
  repeat (first | refine RQ.vv ?_ | refine RQ.p ?_)
  refine RQ.cu (fun wq hq => q_call (Field_any to wq (hfsl.up hq)) hq) ?_
  by_cases h8 : 0 ≤ fieldF s.type.fields to
  · rw [if_neg (fun h => h.2 h8)]
    repeat (first | refine RQ.vv ?_ | refine RQ.p ?_)
    refine RQ.nil fun w3 hq => ?_
    repeat (first | refine RL.vv ?_ | refine RL.p ?_ | refine RL.nil ?_ | refine Sim.seq ?_ | refine Sim.region ?_ | refine Sim.block ?_ | refine Sim.skip ?_ | refine Sim.inBlock ?_ | refine Sim.exit rfl ?_ | refine Sim.condT rfl ?_ | refine Sim.condF rfl ?_)
    exact Sim.ret1 Try.func77 rfl rfl ⟨rfl, hbel.trans (Below.mono hq.below hBw), hds, h.up hq⟩
  rw [if_pos ⟨rfl, h8⟩]
  repeat (first | refine RQ.vv ?_ | refine RQ.p ?_)
  refine RQ.nil fun w3 hq => ?_
  have hq := hq.trans (Up.drew w3)
  have hbel : Below B w w3.drew := hbel.trans (Below.mono hq.below hBw)
  have h := h.up hq
  have hc := hc.up hq
  have hat := hat.up hq
  have hfs := hfs.up hq
  obtain ⟨gf, cf, cs, hfe2, hfat, rfl, _, hfnc, hfcm⟩ := hfs.get hx
  rw [hfe] at hfe2
  simp only [Value.slice.injEq, true_and] at hfe2
  obtain ⟨rfl, rfl⟩ := hfe2
  have hgf := hfb gf (by rw [hfe]; rfl)
  have hg0 := h.own0 g rfl
  rw [hfe] at hfs
  have hgfB := hfs.lt gf rfl
  unfold maxLen at hfcm
  have e1 : g ≠ gf := fun e => by rw [e, hgf] at hg0; omega
  have hS : At w3.drew g (0 + k * 4) [.string a.name, .slice (some ⟨gf, 0, none⟩) s.type.fields.length fc, .string a.own, .slice na s.fields.length nc] ∧ At w3.drew cb co [.int .i64 kind, .string type, .string field, .string to] := ⟨hat, hc⟩
  repeat (first | refine RL.vv ?_ | refine RL.p ?_ | refine RL.nil ?_ | refine Sim.seq ?_ | refine Sim.region ?_ | refine Sim.block ?_ | refine Sim.skip ?_ | refine Sim.inBlock ?_ | refine Sim.exit rfl ?_ | refine Sim.condT rfl ?_ | refine Sim.condF rfl ?_)
  refine Sim.ord (fun wq => At wq g (0 + k * 4) [.string a.name, .slice (some ⟨gf, 0, none⟩) s.type.fields.length fc, .string a.own, .slice na s.fields.length nc] ∧ At wq cb co [.int .i64 kind, .string type, .string field, .string to]) ?_
  refine RO.tk 0 ?_
  refine RO.tk 1 ?_
  refine RO.tk 2 ?_
  refine RO.tk 3 ?_ (hy := fun wq hq => y_loadF rfl hq.1 rfl)
  refine RO.tk 4 ?_
  refine RO.tk 5 ?_
  refine RO.tk 6 ?_
  refine RO.tk 7 ?_
  refine RO.tk 8 ?_ (hy := fun wq hq => y_loadF rfl hq.2 rfl)
  refine RO.tk 9 ?_
  refine RO.tk 10 ?_
  refine RO.one 11 ?_
  refine RL.wr (L := fldLay) (k := 3) (j := 0) (i := f) (x' := { x with name := to }) hfs hx fun w4 hbt hrow => ?_
  have hS4 : At w4 g (0 + k * 4) [.string a.name, .slice (some ⟨gf, 0, none⟩) s.type.fields.length fc, .string a.own, .slice na s.fields.length nc] ∧ At w4 cb co [.int .i64 kind, .string type, .string field, .string to] := ⟨hat.keep (S := fun b => b ≠ gf) hbt.keep e1, hc.keep (S := fun b => b ≠ gf) hbt.keep (by omega)⟩
  refine RL.ord hS4 ?_
  refine RO.done (RL.nil ?_)
  have hstep := h.step (w1 := w4) hs a (fieldS f to s) (by rw [set_same ha]; exact h.row.but hbt (fun _ h => h.elim) (fun g' hg' => by cases hg'; exact e1)) (h.name k a s ha hs) (fun _ _ => rfl)
    (fun b hb _ h1 _ => hbt.block b hb (fun e => h1 (e ▸ hgf)))
    ⟨by
      rw [hfe]
      have : (fieldS f to s).type.fields = s.type.fields.set f { x with name := to } := by
        simp only [fieldS]
        exact modify_set hx _
      rw [this]
      exact hrow, hfb⟩
    ⟨(h.ns k a s ha hs).1.but hbt (fun _ h => h.elim) (fun g' hg' e => by have := (h.ns k a s ha hs).2 g' hg'; rw [e, hgf] at this; omega), hnb⟩
  have hbel4 := hbel.trans (hbt.below (by omega) hgfB.1)
  rw [← show sns.modify k (fieldS f to) = sns.set k (fieldS f to s) from modify_set hs _] at hstep
  repeat (first | refine RL.vv ?_ | refine RL.p ?_ | refine RL.nil ?_ | refine Sim.seq ?_ | refine Sim.region ?_ | refine Sim.block ?_ | refine Sim.skip ?_ | refine Sim.inBlock ?_ | refine Sim.exit rfl ?_ | refine Sim.condT rfl ?_ | refine Sim.condF rfl ?_)
  exact Sim.ret1 Try.func77 rfl rfl ⟨rfl, hbel4, _, hstep⟩
end Go.Proofs.Ytgckpmcdlciibab

namespace Go.Proofs.Ytgckpmcdlciibab
open Go.RowKit
section
variable {B n1 : Nat} {w0 w w1 : World} {v v' : Value} {hds : List Hd} {sns : List Sn} {lab : Nat → Nat}
/-- one element more -/
theorem ViewAt.push (h : ViewAt B w0 v hds sns lab) (hu : Up w0 w) (a : Hd) (s : Sn) (hB : B ≤ w0.heap.size) (hF : Own fldLay 86 w0.heap.size Nn w a.fv s.type.fields) (hN : Own strLay 9 n1 Nn w a.nv s.fields) (h01 : w0.heap.size ≤ n1) (hFN : ∀ g, a.fv.ownBlock = some g → g < n1)
    (hrow : Own hdLay 94 B Nn w1 v' (hds ++ [a])) (hg : w.grownBy w1 v.ownBlock) (hv : ∀ g, v'.ownBlock = some g → v.ownBlock = some g ∨ g = w.heap.size) (hn : a.name = s.type.name ∧ a.own = s.own) : ∃ lab', ViewAt B w1 v' (hds ++ [a]) (sns ++ [s]) lab' := by
  have hs0 := hu.size
  have hvl := h.row.lt
  refine ⟨fun b => if b < w0.heap.size then lab b else if some b = a.fv.ownBlock then 2 * hds.length + 1 else if some b = a.nv.ownBlock then 2 * hds.length + 2 else 0, hrow, by simp [h.len], fun g hg' => ?_, fun i x t h1 h2 => ?_, fun i x t h1 h2 => ?_, fun i x t h1 h2 => ?_⟩
  · rcases hv g hg' with h1 | h1
    · simp only [if_pos (hvl g h1).2]
      exact h.own0 g h1
    · subst h1
      simp only [if_neg (show ¬ w.heap.size < w0.heap.size by omega)]
      rw [if_neg fun e => by have := (hF.lt _ e.symm).2; omega, if_neg fun e => by have := (hN.lt _ e.symm).2; omega]
  · by_cases hlt : i < hds.length
    · rw [List.getElem?_append_left hlt] at h1
      rw [List.getElem?_append_left (by rw [← h.len]; exact hlt)] at h2
      exact h.name i x t h1 h2
    · have hi : i = hds.length := by have := (List.getElem?_eq_some_iff.1 h1).1; simp at this; omega
      subst hi
      rw [h.len] at h2
      simp at h1 h2
      subst h1; subst h2
      exact hn
  · by_cases hlt : i < hds.length
    · rw [List.getElem?_append_left hlt] at h1
      rw [List.getElem?_append_left (by rw [← h.len]; exact hlt)] at h2
      obtain ⟨h3, h4⟩ := h.fs i x t h1 h2
      refine ⟨(h3.up hu).grown hg (fun _ h => h.elim) (fun g hg' e => ?_), fun g hg' => ?_⟩
      · have h5 := h4 g hg'
        have h6 := h.own0 g e.symm
        omega
      · simp only [if_pos (h3.lt g hg').2]
        exact h4 g hg'
    · have hi : i = hds.length := by have := (List.getElem?_eq_some_iff.1 h1).1; simp at this; omega
      subst hi
      rw [h.len] at h2
      simp at h1 h2
      subst h1; subst h2
      refine ⟨(hF.base hB).grown hg (fun _ h => h.elim) (fun g hg' e => ?_), fun g hg' => ?_⟩
      · have h5 := (hF.lt g hg').1
        have h6 := (hvl g e.symm).2
        omega
      · have h5 := (hF.lt g hg').1
        simp only [if_neg (show ¬ g < w0.heap.size by omega), hg', if_true]
  · by_cases hlt : i < hds.length
    · rw [List.getElem?_append_left hlt] at h1
      rw [List.getElem?_append_left (by rw [← h.len]; exact hlt)] at h2
      obtain ⟨h3, h4⟩ := h.ns i x t h1 h2
      refine ⟨(h3.up hu).grown hg (fun _ h => h.elim) (fun g hg' e => ?_), fun g hg' => ?_⟩
      · have h5 := h4 g hg'
        have h6 := h.own0 g e.symm
        omega
      · simp only [if_pos (h3.lt g hg').2]
        exact h4 g hg'
    · have hi : i = hds.length := by have := (List.getElem?_eq_some_iff.1 h1).1; simp at this; omega
      subst hi
      rw [h.len] at h2
      simp at h1 h2
      subst h1; subst h2
      refine ⟨(hN.base (by omega)).grown hg (fun _ h => h.elim) (fun g hg' e => ?_), fun g hg' => ?_⟩
      · have h5 := (hN.lt g hg').1
        have h6 := (hvl g e.symm).2
        omega
      · have h5 := (hN.lt g hg').1
        simp only [if_neg (show ¬ g < w0.heap.size by omega)]
        rw [if_neg fun e => by have := hFN g e.symm; omega, hg', if_pos rfl]
end
theorem seeInit_flat (l : List Typ) : ∀ s ∈ seeInit l, s.fields.length = s.type.fields.length := fun s hs => by
  obtain ⟨t, _, rfl⟩ := List.mem_map.1 hs
  simp
theorem doV_flat {v : List Sn} {c : Chg} (h : ∀ s ∈ v, s.fields.length = s.type.fields.length) : ∀ s ∈ (doV v c).2, s.fields.length = s.type.fields.length := by
  have hm : ∀ (k : Nat) (f : Sn → Sn), (∀ s, s.fields.length = s.type.fields.length → (f s).fields.length = (f s).type.fields.length) → ∀ s ∈ v.modify k f, s.fields.length = s.type.fields.length := fun k f hf s hs => by
    obtain ⟨i, hi⟩ := List.getElem?_of_mem hs
    rw [List.getElem?_modify] at hi
    cases hv : v[i]? with
    | none => rw [hv] at hi; simp at hi
    | some x =>
      rw [hv] at hi
      have hx := h x (List.mem_of_getElem? hv)
      simp only [Option.map_eq_map, Option.map_some, Option.some.injEq] at hi
      split at hi
      · rw [← hi]; exact hf x hx
      · rw [← hi]; exact hx
  unfold doV
  split
  · exact h
  split
  · exact h
  split
  · split
    · intro s hs
      simp only [callV] at hs
      split at hs
      · exact h s hs
      · rename_i s0 hs0
        obtain ⟨t, ht, rfl⟩ := List.mem_map.1 hs
        have ht2 : t.fields.length = t.type.fields.length := by
          obtain ⟨i, hi⟩ := List.getElem?_of_mem ht
          rw [List.getElem?_set] at hi
          split at hi
          · split at hi
            · simp only [Option.some.injEq] at hi
              rw [← hi]
              exact h s0 (List.mem_of_getElem? hs0)
            · cases hi
          · exact h t (List.mem_of_getElem? hi)
        simpa [reS] using ht2
    · exact h
  split
  · exact h
  rename_i s hs
  split
  · exact h
  split
  · refine hm _ _ fun t ht => ?_
    simp only [hideS, List.length_eraseIdx, ht]
  split
  · refine hm _ _ fun t ht => ?_
    simpa [fieldS] using ht
  · exact h
end Go.Proofs.Ytgckpmcdlciibab

namespace Go.Proofs.Ytgckpmcdlciibab
open Go.RowKit
theorem doAll_cons (v : List Sn) (i : Nat) (c : Chg) (cs : List Chg) : doAll v i (c :: cs) = if (doV v c).1 = 0 then doAll (doV v c).2 (i + 1) cs else ([], ⟨(doV v c).1, i⟩) := rfl
theorem ViewAt.bt {B k : Nat} {w w1 : World} {v : Value} {hds : List Hd} {sns : List Sn} {lab : Nat → Nat} (h : ViewAt B w v hds sns lab) (hb : But k w w1) (hk : k < B) : ViewAt B w1 v hds sns lab :=
  ⟨h.row.but hb (fun _ h => h.elim) (fun g hg => by have := (h.row.lt g hg).1; omega), h.len, h.own0, h.name,
    fun i a s h1 h2 => ⟨(h.fs i a s h1 h2).1.but hb (fun _ h => h.elim) (fun g hg => by have := ((h.fs i a s h1 h2).1.lt g hg).1; omega), (h.fs i a s h1 h2).2⟩,
    fun i a s h1 h2 => ⟨(h.ns i a s h1 h2).1.but hb (fun _ h => h.elim) (fun g hg => by have := ((h.ns i a s h1 h2).1.lt g hg).1; omega), (h.ns i a s h1 h2).2⟩⟩
theorem ViewAt.base {B B' : Nat} {w : World} {v : Value} {hds : List Hd} {sns : List Sn} {lab : Nat → Nat} (h : ViewAt B w v hds sns lab) (hB : B' ≤ B) : ViewAt B' w v hds sns lab :=
  ⟨h.row.base hB, h.len, h.own0, h.name, fun i a s h1 h2 => ⟨(h.fs i a s h1 h2).1.base hB, (h.fs i a s h1 h2).2⟩, fun i a s h1 h2 => ⟨(h.ns i a s h1 h2).1.base hB, (h.ns i a s h1 h2).2⟩⟩
theorem wrongT_len {l : List Typ} (h : (wrongT l).err = 0) : l.length ≤ 8 ∧ ∀ t ∈ l, t.fields.length ≤ 10 := by
  unfold wrongT at h
  split at h
  · cases h
  rename_i h8
  cases hf : firstBad (nameErr l) 0 l with
  | some q =>
    rw [hf] at h
    obtain ⟨i, e⟩ := q
    obtain ⟨_, _, _, _, _, hne, _⟩ := firstBad_some hf
    exact absurd h hne
  | none =>
    rw [hf] at h
    cases hf2 : firstBad (fun _ t => fieldsErr l t) 0 l with
    | some q =>
      rw [hf2] at h
      obtain ⟨i, e⟩ := q
      obtain ⟨_, _, _, _, _, hne, _⟩ := firstBad_some hf2
      exact absurd h hne
    | none =>
      refine ⟨by omega, fun t ht => ?_⟩
      obtain ⟨j, hj⟩ := List.getElem?_of_mem ht
      have := firstBad_eq_none hf2 j t hj
      unfold fieldsErr at this
      split at this
      · cases this
      · omega
set_option maxHeartbeats 4000000 in
theorem See_any {S S2 : Nat → Prop} {lv cv : Value} {l : List Typ} {cs : List Chg} (w : World) (hl : SliceOf typLay S w lv l) (hcs : SliceOf chgLay S2 w cv cs) :
    Calls Try.prog 36 #[lv, cv] w fun en w' => ∃ v, en = .returned (.tuple #[v, fltV (seeM l cs).2]) ∧ Up w w' ∧ ∃ hds lab, ViewAt w.heap.size w' v hds (seeM l cs).1 lab := by
  refine calls_of_sim Try.func36 rfl (Nat.le_of_ble_eq_true rfl) ?_
  obtain ⟨la, lc, rfl, hlnc, hlcm, _⟩ := id hl
  obtain ⟨ca, cc, rfl, hcnc, hccm, _⟩ := id hcs
  unfold maxLen at hlcm hccm
  repeat (first | refine RL.vv ?_ | refine RL.p ?_ | refine RL.nil ?_ | refine Sim.seq ?_ | refine Sim.region ?_ | refine Sim.block ?_ | refine Sim.skip ?_ | refine Sim.inBlock ?_ | refine Sim.exit rfl ?_ | refine Sim.condT rfl ?_ | refine Sim.condF rfl ?_)
  refine RL.al (.refl w) fun b5 w1 _ hle5 hu1 _ hb5 => ?_
  repeat (first | refine RL.vv ?_ | refine RL.p ?_ | refine RL.nil ?_ | refine Sim.seq ?_ | refine Sim.region ?_ | refine Sim.block ?_ | refine Sim.skip ?_ | refine Sim.inBlock ?_ | refine Sim.exit rfl ?_ | refine Sim.condT rfl ?_ | refine Sim.condF rfl ?_)
  refine RL.cu hu1 (Wrong_any w1 (hl.up hu1)) fun w2 hu h12 => ?_
  have hb5 := hb5.up h12
  clear hu1 h12
  refine RL.al hu fun b6 w3 he6 hle6 hu h23 hb6 => ?_
  have hl56 : b5 < b6 := by have := hb5.lt; omega
  have hb5 := hb5.up h23
  unfold fltV
  refine RL.st hu hb6 hle6 fun w4 hu hbt hb6 => ?_
  have hb6 : Box w4 b6 _ [.int .i64 (wrongT l).err, .int .i64 (wrongT l).at_] := hb6
  have hb5 : Box w4 b5 _ [.int .i64 0, .int .i64 0] := hb5.but hbt (by omega)
  clear h23 hbt he6
  have ha6 := hb6.at
  by_cases he : (wrongT l).err = 0
  rotate_left
  · have hsee : seeM l cs = ([], wrongT l) := by
      unfold seeM
      rw [if_pos he]
    rw [hsee]
    repeat (first | refine RL.vv ?_ | refine RL.p ?_ | refine RL.nil ?_ | refine Sim.seq ?_ | refine Sim.region ?_ | refine Sim.block ?_ | refine Sim.skip ?_ | refine Sim.inBlock ?_ | refine Sim.exit rfl ?_ | refine Sim.condT rfl ?_ | refine Sim.condF rfl ?_)
    have hS : Up w w4.drew ∧ At w4.drew b6 0 [.int .i64 (wrongT l).err, .int .i64 (wrongT l).at_] := ⟨hu.trans (Up.drew _), ha6.up (Up.drew _)⟩
    refine Sim.ord (fun wq => Up w wq ∧ At wq b6 0 [.int .i64 (wrongT l).err, .int .i64 (wrongT l).at_]) ?_
    refine RO.tk 0 ?_ (hy := fun wq hq => y_loadA rfl hq.2 rfl)
    refine RO.tk 1 ?_
    refine RO.one 2 ?_
    refine RL.st hS.1 (hb5.up (Up.drew _)) hle5 fun w5 hu5 hbt hb5 => ?_
    refine RL.ord ⟨hu5, (hb6.up (Up.drew _)).but hbt (by omega) |>.at⟩ ?_
    refine RO.done (RL.nil ?_)
    repeat (first | refine RL.vv ?_ | refine RL.p ?_ | refine RL.nil ?_ | refine Sim.seq ?_ | refine Sim.region ?_ | refine Sim.block ?_ | refine Sim.skip ?_ | refine Sim.inBlock ?_ | refine Sim.exit rfl ?_ | refine Sim.condT rfl ?_ | refine Sim.condF rfl ?_)
    exact Sim.retTC (cs := [.int .i64 (wrongT l).err, .int .i64 (wrongT l).at_]) Try.func36 rfl rfl rfl hb5.at rfl ⟨_, rfl, hu5, [], fun _ => 0, ViewAt.nil _ _ _⟩
  obtain ⟨hl8, hf10⟩ := wrongT_len he
  by_cases h12 : (12 : Int) < cs.length
  · have hsee : seeM l cs = ([], ⟨4, 0⟩) := by
      unfold seeM
      rw [if_neg (by omega), if_pos (by omega)]
    rw [hsee]
    repeat (first | refine RL.vv ?_ | refine RL.p ?_ | refine RL.nil ?_ | refine Sim.seq ?_ | refine Sim.region ?_ | refine Sim.block ?_ | refine Sim.skip ?_ | refine Sim.inBlock ?_ | refine Sim.exit rfl ?_ | refine Sim.condT rfl ?_ | refine Sim.condF rfl ?_)
    refine RL.val trivial rfl (y_build (v := .agg #[.int .i64 4, .int .i64 0]) rfl (fun w => by kernel_rfl)) ?_
    repeat (first | refine RL.vv ?_ | refine RL.p ?_ | refine RL.nil ?_ | refine Sim.seq ?_ | refine Sim.region ?_ | refine Sim.block ?_ | refine Sim.skip ?_ | refine Sim.inBlock ?_ | refine Sim.exit rfl ?_ | refine Sim.condT rfl ?_ | refine Sim.condF rfl ?_)
    refine RL.st hu hb5 hle5 fun w5 hu5 hbt hb5 => ?_
    repeat (first | refine RL.vv ?_ | refine RL.p ?_ | refine RL.nil ?_ | refine Sim.seq ?_ | refine Sim.region ?_ | refine Sim.block ?_ | refine Sim.skip ?_ | refine Sim.inBlock ?_ | refine Sim.exit rfl ?_ | refine Sim.condT rfl ?_ | refine Sim.condF rfl ?_)
    exact Sim.retTC (cs := [.int .i64 4, .int .i64 0]) Try.func36 rfl rfl rfl hb5.at rfl ⟨_, rfl, hu5, [], fun _ => 0, ViewAt.nil _ _ _⟩
  have hsee : seeM l cs = doAll (seeInit l) 0 cs := by
    unfold seeM
    rw [if_neg (by omega), if_neg (by omega)]
  rw [hsee]
  have hlt5 := hb5.lt
  have hs4 := hu.size
  repeat (first | refine RL.vv ?_ | refine RL.p ?_ | refine RL.nil ?_ | refine Sim.seq ?_ | refine Sim.region ?_ | refine Sim.block ?_ | refine Sim.skip ?_ | refine Sim.inBlock ?_ | refine Sim.exit rfl ?_ | refine Sim.condT rfl ?_ | refine Sim.condF rfl ?_)
  refine Sim.loop (σ := Nat × Value) (fun st => [(0, .slice la l.length lc), (1, .slice ca cs.length cc), (5, .pointer (some ⟨b5, 0, none⟩)), (25, .slice la l.length lc), (26, .int .i64 (l.length : Int)), (27, .int .i64 (st.1 : Int)), (7, st.2)])
    (fun st w' => st.1 ≤ l.length ∧ Up w w' ∧ w4.heap.size ≤ w'.heap.size ∧ Box w' b5 41 [.int .i64 0, .int .i64 0] ∧ ∃ hds lab, ViewAt w4.heap.size w' st.2 hds (seeInit (l.take st.1)) lab) (fun st => l.length - st.1) (0, .slice none 0 0) sb ⟨Nat.zero_le _, hu, Nat.le_refl _, hb5, [], fun _ => 0, ViewAt.nil _ _ _⟩ ?_
  clear hu hb5 hb6 ha6
  generalize w4.heap.size = B at *
  rintro ⟨i, v⟩ w5 ⟨hi, hu, hB5, hb5, hds, lab, hv⟩ next
  simp only at hi hv next ⊢
  by_cases hlt : i < l.length
  rotate_left
  · have : i = l.length := by omega
    subst this
    rw [List.take_length] at hv
    repeat (first | refine RL.vv ?_ | refine RL.p ?_ | refine RL.nil ?_ | refine Sim.seq ?_ | refine Sim.region ?_ | refine Sim.block ?_ | refine Sim.skip ?_ | refine Sim.inBlock ?_ | refine Sim.exit rfl ?_ | refine Sim.condT rfl ?_ | refine Sim.condF rfl ?_)
    refine Sim.loop (σ := Nat) (fun i => [(1, .slice ca cs.length cc), (5, .pointer (some ⟨b5, 0, none⟩)), (7, v), (61, .int .i64 (cs.length : Int)), (62, .int .i64 (i : Int))])
      (fun i w' => i ≤ cs.length ∧ Up w w' ∧ B ≤ w'.heap.size ∧ Box w' b5 41 [.int .i64 0, .int .i64 0] ∧ ∃ hds lab sns, ViewAt B w' v hds sns lab ∧ (∀ s ∈ sns, s.fields.length = s.type.fields.length) ∧ doAll (seeInit l) 0 cs = doAll sns i (cs.drop i)) (fun i => cs.length - i) 0 sb ⟨Nat.zero_le _, hu, hB5, hb5, hds, lab, _, hv, seeInit_flat l, by simp⟩ ?_
    clear hu hb5 hv hB5 next hds lab
    rintro i w5 ⟨hi, hu, hB5, hb5, hds, lab, sns, hv, hfl, heq⟩ next
    by_cases hlt : i < cs.length
    rotate_left
    · rw [List.drop_eq_nil_of_le (by omega)] at heq
      rw [heq]
      repeat (first | refine RL.vv ?_ | refine RL.p ?_ | refine RL.nil ?_ | refine Sim.seq ?_ | refine Sim.region ?_ | refine Sim.block ?_ | refine Sim.skip ?_ | refine Sim.inBlock ?_ | refine Sim.exit rfl ?_ | refine Sim.condT rfl ?_ | refine Sim.condF rfl ?_)
      refine RL.val trivial rfl (y_build (v := .agg #[.int .i64 0, .int .i64 0]) rfl (fun w => by kernel_rfl)) ?_
      repeat (first | refine RL.vv ?_ | refine RL.p ?_ | refine RL.nil ?_ | refine Sim.seq ?_ | refine Sim.region ?_ | refine Sim.block ?_ | refine Sim.skip ?_ | refine Sim.inBlock ?_ | refine Sim.exit rfl ?_ | refine Sim.condT rfl ?_ | refine Sim.condF rfl ?_)
      refine RL.st hu hb5 hle5 fun w6 hu6 hbt hb5 => ?_
      have hv6 : ViewAt w.heap.size w6 v hds sns lab := (hv.bt hbt hlt5).base hs4
      repeat (first | refine RL.vv ?_ | refine RL.p ?_ | refine RL.nil ?_ | refine Sim.seq ?_ | refine Sim.region ?_ | refine Sim.block ?_ | refine Sim.skip ?_ | refine Sim.inBlock ?_ | refine Sim.exit rfl ?_ | refine Sim.condT rfl ?_ | refine Sim.condF rfl ?_)
      exact Sim.retTC (cs := [.int .i64 0, .int .i64 0]) Try.func36 rfl rfl rfl hb5.at rfl ⟨_, rfl, hu6, hds, lab, hv6⟩
    have hx : cs[i]? = some cs[i] := List.getElem?_eq_getElem hlt
    rw [List.drop_eq_getElem_cons hlt] at heq
    obtain ⟨cb, co, cs2, rfl, _, hcat, rfl, _⟩ := hcs.at hx
    have hcat : At w cb (co + i * 4) _ := hcat
    have hcb := hcat.lt
    generalize cs[i] = c at *
    repeat (first | refine RL.vv ?_ | refine RL.p ?_ | refine RL.nil ?_ | refine Sim.seq ?_ | refine Sim.region ?_ | refine Sim.block ?_ | refine Sim.skip ?_ | refine Sim.inBlock ?_ | refine Sim.exit rfl ?_ | refine Sim.condT rfl ?_ | refine Sim.condF rfl ?_)
    refine RL.cx (do_any c w5 hv (hcat.up hu) (by omega) hB5 hfl) ?_
    rintro _ w6 ⟨rfl, hbel, hds6, hv6⟩
    refine ⟨_, rfl, ?_⟩
    have hu6 : Up w w6 := Below.trans (b := w5) hu (Below.mono hbel hs4)
    have hb5 : Box w6 b5 41 [.int .i64 0, .int .i64 0] := (Below.block hbel b5 hlt5).trans hb5
    rw [doAll_cons] at heq
    by_cases h0 : (doV sns c).1 = 0
    · rw [if_pos h0] at heq
      repeat (first | refine RL.vv ?_ | refine RL.p ?_ | refine RL.nil ?_ | refine Sim.seq ?_ | refine Sim.region ?_ | refine Sim.block ?_ | refine Sim.skip ?_ | refine Sim.inBlock ?_ | refine Sim.exit rfl ?_ | refine Sim.condT rfl ?_ | refine Sim.condF rfl ?_)
      exact next (i + 1) _ _ ⟨by omega, hu6, Nat.le_trans hB5 hbel.size, hb5, hds6, lab, _, hv6, doV_flat hfl, heq⟩ (by omega) sb
    · rw [if_neg h0] at heq
      rw [heq]
      repeat (first | refine RL.vv ?_ | refine RL.p ?_ | refine RL.nil ?_ | refine Sim.seq ?_ | refine Sim.region ?_ | refine Sim.block ?_ | refine Sim.skip ?_ | refine Sim.inBlock ?_ | refine Sim.exit rfl ?_ | refine Sim.condT rfl ?_ | refine Sim.condF rfl ?_)
      refine RL.val trivial rfl (y_build (v := .agg #[.int .i64 (doV sns c).1, .int .i64 (i : Int)]) rfl (fun w => by kernel_rfl)) ?_
      repeat (first | refine RL.vv ?_ | refine RL.p ?_ | refine RL.nil ?_ | refine Sim.seq ?_ | refine Sim.region ?_ | refine Sim.block ?_ | refine Sim.skip ?_ | refine Sim.inBlock ?_ | refine Sim.exit rfl ?_ | refine Sim.condT rfl ?_ | refine Sim.condF rfl ?_)
      refine RL.st hu6 hb5 hle5 fun w7 hu7 hbt hb5 => ?_
      repeat (first | refine RL.vv ?_ | refine RL.p ?_ | refine RL.nil ?_ | refine Sim.seq ?_ | refine Sim.region ?_ | refine Sim.block ?_ | refine Sim.skip ?_ | refine Sim.inBlock ?_ | refine Sim.exit rfl ?_ | refine Sim.condT rfl ?_ | refine Sim.condF rfl ?_)
      exact Sim.retTC (cs := [.int .i64 (doV sns c).1, .int .i64 (i : Int)]) Try.func36 rfl rfl rfl hb5.at rfl ⟨_, rfl, hu7, [], fun _ => 0, ViewAt.nil _ _ _⟩
  have hx : l[i]? = some l[i] := List.getElem?_eq_getElem hlt
  obtain ⟨tb, to, cs2, rfl, _, htat, ⟨fv, rfl, hfv⟩, _⟩ := hl.at hx
  have htat : At w tb (to + i * 2) _ := htat
  have hf10 := hf10 l[i] (List.mem_of_getElem? hx)
  have htk : seeInit (l.take (i + 1)) = seeInit (l.take i) ++ [⟨l[i], l[i].name, l[i].fields.map (·.name)⟩] := by
    unfold seeInit
    rw [List.take_succ_eq_append_getElem hlt, List.map_append]
    rfl
  generalize l[i] = t at *
  obtain ⟨fa, fc, rfl, _, _, _⟩ := id hfv
  repeat (first | refine RL.vv ?_ | refine RL.p ?_ | refine RL.nil ?_ | refine Sim.seq ?_ | refine Sim.region ?_ | refine Sim.block ?_ | refine Sim.skip ?_ | refine Sim.inBlock ?_ | refine Sim.exit rfl ?_ | refine Sim.condT rfl ?_ | refine Sim.condF rfl ?_)
  refine RL.al (.refl w5) fun b9 w6 _ hle9 h56 _ hb9 => ?_
  repeat (first | refine RL.vv ?_ | refine RL.p ?_ | refine RL.nil ?_ | refine Sim.seq ?_ | refine Sim.region ?_ | refine Sim.block ?_ | refine Sim.skip ?_ | refine Sim.inBlock ?_ | refine Sim.exit rfl ?_ | refine Sim.condT rfl ?_ | refine Sim.condF rfl ?_)
  refine RL.st h56 hb9 hle9 fun w7 h57 _ hb9 => ?_
  have hb9 : Box w7 b9 _ [.string t.name, .slice fa t.fields.length fc] := hb9
  repeat (first | refine RL.vv ?_ | refine RL.p ?_ | refine RL.nil ?_ | refine Sim.seq ?_ | refine Sim.region ?_ | refine Sim.block ?_ | refine Sim.skip ?_ | refine Sim.inBlock ?_ | refine Sim.exit rfl ?_ | refine Sim.condT rfl ?_ | refine Sim.condF rfl ?_)
  have ha9 := hb9.at
  refine Sim.cutX (σ := Value × Nat) (fun st => [(0, .slice (some ⟨tb, to, none⟩) l.length lc), (1, .slice ca cs.length cc), (5, .pointer (some ⟨b5, 0, none⟩)), (25, .slice (some ⟨tb, to, none⟩) l.length lc), (26, .int .i64 (l.length : Int)), (27, .int .i64 (i : Int)), (7, v), (9, .pointer (some ⟨b9, 0, none⟩)), (10, .pointer (some ⟨st.2, 0, none⟩))])
    (fun st w' => Up w5 w' ∧ Box w' b9 80 [.string t.name, .slice fa t.fields.length fc] ∧ Box w' st.2 94 [.string t.name, st.1, .string t.name, .slice none 0 0] ∧ Own fldLay 86 w5.heap.size Nn w' st.1 t.fields ∧ (∀ g, st.1.ownBlock = some g → g ≠ st.2) ∧ w5.heap.size ≤ st.2) (fun k' nextc => ?_) ?_
  · have h0 := Up.drew w7
    refine Sim.ord (Up w7) ?_
    refine RO.tk 0 ?_
    refine RO.tk 1 ?_
    refine RO.tk 2 ?_
    refine RO.tk 3 ?_
    refine RO.tk 6 ?_
    refine RO.tk 7 ?_
    refine RO.two 4 9 ?_ ?_
    · refine RL.cx (Clone_Fld (S' := Nn) _ (hfv.up ((hu.trans h57).trans h0)) (by omega)) ?_
      rintro _ w8 ⟨fv', rfl, h8, hF⟩
      refine ⟨_, rfl, ?_⟩
      have hF := hF.base h0.size
      have h0 := h0.trans h8
      obtain ⟨xa, xn, xc, rfl⟩ := hF.sh
      refine RL.ord h0 ?_
      refine RO.tk 5 ?_ (hy := fun wq hq => y_build (v := .agg #[.string t.name, .slice xa xn xc]) rfl (fun w => by kernel_rfl))
      refine RO.tk 8 ?_ (hy := fun wq hq => y_build (v := .agg #[.string t.name, .slice xa xn xc, .string t.name, .slice none 0 0]) rfl (fun w => by kernel_rfl))
      refine RO.one 9 ?_
      refine RL.al h0 fun b10 w9 he10 h10 h0 h hb10 => ?_
      have h910 : b9 ≠ b10 := by have := (hb9.up (Up.drew w7)).lt; have := h8.size; omega
      have hF10 : ∀ g, Value.ownBlock (.slice xa xn xc) = some g → g ≠ b10 := fun g hg => by have := (hF.lt g hg).2; omega
      have hF := hF.up h
      have hb9 := hb9.up h0
      refine RL.ord h0 ?_
      refine RO.one 10 ?_
      refine RL.st h0 hb10 h10 fun w9 h0 hbt hb10 => ?_
      have hb9 := hb9.but hbt h910
      have hF := hF.but hbt (fun _ h => h.elim) hF10
      refine RL.ord h0 ?_
      refine RO.done (RL.nil ?_)
      exact nextc (.slice xa xn xc, b10) _ _ ⟨h57.trans h0, hb9, hb10, hF.base h57.size, hF10, Nat.le_trans h57.size h10⟩ sb
    · refine RL.al h0 fun b10 w8 he10 h10 h0 h hb10 => ?_
      have h910 : b9 ≠ b10 := by have := (hb9.up (Up.drew w7)).lt; omega
      refine RL.ord h0 ?_
      refine RO.one 4 ?_
      refine RL.cx (Clone_Fld (S' := Nn) _ (hfv.up ((hu.trans h57).trans h0)) (by omega)) ?_
      rintro _ w9 ⟨fv', rfl, h9, hF⟩
      refine ⟨_, rfl, ?_⟩
      have hF10 : ∀ g, fv'.ownBlock = some g → g ≠ b10 := fun g hg => by have := (hF.lt g hg).1; have := hb10.lt; omega
      have hF := hF.base h0.size
      have h0 := h0.trans h9
      have hb10 := hb10.up h9
      have hb9 := hb9.up h0
      obtain ⟨xa, xn, xc, rfl⟩ := hF.sh
      refine RL.ord h0 ?_
      refine RO.tk 5 ?_ (hy := fun wq hq => y_build (v := .agg #[.string t.name, .slice xa xn xc]) rfl (fun w => by kernel_rfl))
      refine RO.tk 8 ?_ (hy := fun wq hq => y_build (v := .agg #[.string t.name, .slice xa xn xc, .string t.name, .slice none 0 0]) rfl (fun w => by kernel_rfl))
      refine RO.one 10 ?_
      refine RL.st h0 hb10 h10 fun w9 h0 hbt hb10 => ?_
      have hb9 := hb9.but hbt h910
      have hF := hF.but hbt (fun _ h => h.elim) hF10
      refine RL.ord h0 ?_
      refine RO.done (RL.nil ?_)
      exact nextc (.slice xa xn xc, b10) _ _ ⟨h57.trans h0, hb9, hb10, hF.base h57.size, hF10, Nat.le_trans h57.size h10⟩ sb
  clear h57 hb9 ha9
  rintro ⟨F, b10⟩ w8 ⟨h58, hb9, hb10, hF, hF10, hle10⟩
  simp only at hb10 hF hF10 hle10 ⊢
  have ha9 := hb9.at
  have hF8 := hF.lt
  have hlt9 := hb9.lt
  have hlt10 := hb10.lt
  have hs58 := h58.size
  repeat (first | refine RL.vv ?_ | refine RL.p ?_ | refine RL.nil ?_ | refine Sim.seq ?_ | refine Sim.region ?_ | refine Sim.block ?_ | refine Sim.skip ?_ | refine Sim.inBlock ?_ | refine Sim.exit rfl ?_ | refine Sim.condT rfl ?_ | refine Sim.condF rfl ?_)
  refine Sim.loop (σ := Nat) (fun j => [(0, .slice (some ⟨tb, to, none⟩) l.length lc), (1, .slice ca cs.length cc), (5, .pointer (some ⟨b5, 0, none⟩)), (25, .slice (some ⟨tb, to, none⟩) l.length lc), (26, .int .i64 (l.length : Int)), (27, .int .i64 (i : Int)), (7, v), (9, .pointer (some ⟨b9, 0, none⟩)), (10, .pointer (some ⟨b10, 0, none⟩)), (41, .slice fa t.fields.length fc), (42, .int .i64 (t.fields.length : Int)), (43, .int .i64 (j : Int))])
    (fun j w' => j ≤ t.fields.length ∧ Up w5 w' ∧ w8.heap.size ≤ w'.heap.size ∧ Own fldLay 86 w5.heap.size Nn w' F t.fields ∧ ∃ nv, Box w' b10 94 [.string t.name, F, .string t.name, nv] ∧ Own strLay 9 w8.heap.size Nn w' nv ((t.fields.take j).map (·.name))) (fun j => t.fields.length - j) 0 sb ⟨Nat.zero_le _, h58, Nat.le_refl _, hF, _, hb10, Own.nil _ _ _ _ _⟩ ?_
  clear h58 hb9 ha9 hb10 hF
  rintro j w9 ⟨hj, h59, hs89, hF, nv, hb10, hN⟩ next2
  have hu9 := hu.trans h59
  by_cases hjl : j < t.fields.length
  · have hfj : t.fields[j]? = some t.fields[j] := List.getElem?_eq_getElem hjl
    obtain ⟨fb, fo, cs3, rfl, _, hfat, rfl, _⟩ := hfv.at hfj
    have hfat : At w fb (fo + j * 3) _ := hfat
    have hnk : (t.fields.take (j + 1)).map (·.name) = (t.fields.take j).map (·.name) ++ [t.fields[j].name] := by rw [List.take_succ_eq_append_getElem hjl, List.map_append]; rfl
    generalize t.fields[j] = fj at *
    have hu := hu9
    repeat (first | refine RL.vv ?_ | refine RL.p ?_ | refine RL.nil ?_ | refine Sim.seq ?_ | refine Sim.region ?_ | refine Sim.block ?_ | refine Sim.skip ?_ | refine Sim.inBlock ?_ | refine Sim.exit rfl ?_ | refine Sim.condT rfl ?_ | refine Sim.condF rfl ?_)
    refine RL.al (.refl w9) fun b12 w10 _ hle12 h910 _ hb12 => ?_
    repeat (first | refine RL.vv ?_ | refine RL.p ?_ | refine RL.nil ?_ | refine Sim.seq ?_ | refine Sim.region ?_ | refine Sim.block ?_ | refine Sim.skip ?_ | refine Sim.inBlock ?_ | refine Sim.exit rfl ?_ | refine Sim.condT rfl ?_ | refine Sim.condF rfl ?_)
    refine RL.st h910 hb12 hle12 fun w11 h911 _ hb12 => ?_
    have hb12 : Box w11 b12 _ [.string fj.name, .int .i64 fj.kind, .string fj.type] := hb12
    have h59 := h59.trans h911
    have hF := hF.up h911
    have hb10 := hb10.up h911
    have hN := hN.up h911
    have hs911 := h911.size
    have ha12 := hb12.at
    have ha10 := hb10.at
    clear hu h910 h911
    repeat (first | refine RL.vv ?_ | refine RL.p ?_ | refine RL.nil ?_ | refine Sim.seq ?_ | refine Sim.region ?_ | refine Sim.block ?_ | refine Sim.skip ?_ | refine Sim.inBlock ?_ | refine Sim.exit rfl ?_ | refine Sim.condT rfl ?_ | refine Sim.condF rfl ?_)
    refine RL.bu (el := 9) [.string fj.name] (.refl w11) fun b13 w12 he13 _ _ h1112 hb13 => ?_
    have hne := hN.ne (Nat.le_of_eq he13.symm)
    have hs12 := h1112.size
    refine RL.app (L := strLay) (el := 9) (S := fun _ => True) (B := w8.heap.size) (ys := [fj.name]) (h59.trans h1112) (hN.up h1112).no (SliceOf.one hb13 ⟨trivial, hne⟩ rfl) (by simp; omega) hs58 (by omega) fun nv2 w13 h513 ho hg hv => ?_
    have hF := (hF.up h1112).grown hg (fun _ h => h.elim) (fun g hg' e => by have := (hF8 g hg').2; have := (hN.lt g e.symm).1; omega)
    have hb10 := (hb10.up h1112).grown hg (hN.ne' hlt10)
    have hs13 := hg.size
    obtain ⟨na, nn, nc, rfl⟩ := ho.sh
    clear hg hv hne ha12 ha10
    repeat (first | refine RL.vv ?_ | refine RL.p ?_ | refine RL.nil ?_ | refine Sim.seq ?_ | refine Sim.region ?_ | refine Sim.block ?_ | refine Sim.skip ?_ | refine Sim.inBlock ?_ | refine Sim.exit rfl ?_ | refine Sim.condT rfl ?_ | refine Sim.condF rfl ?_)
    refine RL.st h513 hb10 hle10 fun w14 h514 hbt hb10 => ?_
    have hF := hF.but hbt (fun _ h => h.elim) hF10
    have hN := (ho.no (S' := Nn)).but hbt (fun _ h => h.elim) (fun g hg' => by have := (ho.lt g hg').1; omega)
    have hs14 := hbt.size
    repeat (first | refine RL.vv ?_ | refine RL.p ?_ | refine RL.nil ?_ | refine Sim.seq ?_ | refine Sim.region ?_ | refine Sim.block ?_ | refine Sim.skip ?_ | refine Sim.inBlock ?_ | refine Sim.exit rfl ?_ | refine Sim.condT rfl ?_ | refine Sim.condF rfl ?_)
    refine next2 (j + 1) _ _ ⟨by omega, h514, by omega, hF, _, hb10, ?_⟩ (by omega) sb
    rw [hnk]
    exact hN
  have hjj : j = t.fields.length := by omega
  subst hjj
  rw [List.take_length] at hN
  have ha10 := hb10.at
  obtain ⟨xa, xn, xc, rfl⟩ := hF.sh
  obtain ⟨na, nn, nc, rfl⟩ := hN.sh
  repeat (first | refine RL.vv ?_ | refine RL.p ?_ | refine RL.nil ?_ | refine Sim.seq ?_ | refine Sim.region ?_ | refine Sim.block ?_ | refine Sim.skip ?_ | refine Sim.inBlock ?_ | refine Sim.exit rfl ?_ | refine Sim.condT rfl ?_ | refine Sim.condF rfl ?_)
  refine RL.bu (el := 94) [.string t.name, .slice xa xn xc, .string t.name, .slice na nn nc] (.refl w9) fun b14 w10 he14 _ _ h910 hb14 => ?_
  have h510 := h59.trans h910
  have hs10 := h910.size
  have hs59 := h59.size
  have hln : hds.length = i := by
    have := hv.len
    simp [seeInit] at this
    omega
  refine RL.app (L := hdLay) (el := 94) (S := fun _ => True) (B := B) (ys := [⟨t.name, .slice xa xn xc, t.name, .slice na nn nc⟩]) (hu.trans h510) ((hv.row.up h510).no) (SliceOf.one hb14 ⟨trivial, (hv.row.up h59).ne (Nat.le_of_eq he14.symm)⟩ ⟨rfl, rfl, rfl⟩) (by simp; omega) hs4 (by omega) fun v2 w11 hu11 ho hg hv2 => ?_
  obtain ⟨lab2, hpush⟩ := hv.push h510 ⟨t.name, .slice xa xn xc, t.name, .slice na nn nc⟩ ⟨t, t.name, t.fields.map (·.name)⟩ hB5 (hF.up h910) (hN.up h910) hs58 (fun g hg => (hF8 g hg).2) ho.no hg hv2 ⟨rfl, rfl⟩
  have hb5 := (hb5.up h510).grown hg (hv.row.ne' hlt5)
  have hs11 := hg.size
  repeat (first | refine RL.vv ?_ | refine RL.p ?_ | refine RL.nil ?_ | refine Sim.seq ?_ | refine Sim.region ?_ | refine Sim.block ?_ | refine Sim.skip ?_ | refine Sim.inBlock ?_ | refine Sim.exit rfl ?_ | refine Sim.condT rfl ?_ | refine Sim.condF rfl ?_)
  exact next (i + 1, v2) _ _ ⟨by simp only; omega, hu11, by omega, hb5, _, lab2, by rw [htk]; exact hpush⟩ (by simp only; omega) sb
end Go.Proofs.Ytgckpmcdlciibab
