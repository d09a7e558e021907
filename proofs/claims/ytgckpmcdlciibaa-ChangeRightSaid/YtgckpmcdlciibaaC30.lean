/- Contracts of chapter 2: an element taken out of a row. -/
import Derived.Test.YtgckpmcdlciibaaView
namespace Go.Proofs.Ytgckpmcdlciibaa
open Go.RowKit
section
variable {P : Program} {f : FuncId} {N : Nat} {K : Act → World → Prop} {e : Env} {w w' : World} {R : Ending → World → Prop}
variable {ops : Array Oper} {rest : List Oper} {op : Op} {ty : TypeId} {ps : String} {af : Array Edge} {gd : Option (Nat × Bool)} {v : Value}
theorem RL.eff0 (hw : Wants ops e gd) (hy : Eff P op ty e w v w') (h : RL P f N ops rest K e w' R) :
    RL P f N ops ({ dst := none, op := op, type := ty, pos := ps, after := af, guard := gd } :: rest) K e w R := by
  unfold RL
  intro tm hok
  have hy' := hy.out _ (hok.sees [])
  unfold wpList
  rw [if_pos (Wants.wanted (o := { dst := none, op := op, type := ty, pos := ps, after := af, guard := gd }) hw hok)]
  refine .inl ?_
  unfold Oper.wp
  rw [execOp_eq, hy', Oper.upon_value]
  exact h.out _ hok
/-- x[i:j:m] -/
theorem y_slice3 {t el : TypeId} {x y z u : Operand} {a : Option Addr} {n c i j m k : Nat} [Sli P t el] [Siz P el k] (hx : e.ev x = some (.slice a n c)) (hy : e.ev y = some (.int .i64 (i : Int))) (hz : e.ev z = some (.int .i64 (j : Int))) (hu : e.ev u = some (.int .i64 (m : Int))) (hi : i ≤ j) (hj : j ≤ m) (hm : m ≤ c) : Yld P (.slice t x (some y) (some z) (some u)) ty e w (dropV a j m i k) := Yld.mk fun ρ hρ => by
  have h1 := run_underlying (Sli.h (P := P) (t := t) (el := el)) w
  have h2 := Siz.run P el (k := k) w
  unfold dropV
  simp [xop, execOp, hρ x _ hx, hρ y _ hy, hρ z _ hz, hρ u _ hu, Instr.sliceAt, Instr.slice, h1, h2, Instr.sliceBounds, Instr.sliceBound, asIntOf]
  rw [if_pos hm]
  rw [if_pos hj, if_pos hi]
/-- 'clear(s)' of a slice that lies in a block -/
theorem e_clear {t el : TypeId} {x : Operand} {g o c k : Nat} {z : Value} {cur : List Value} [Sli P t el] [Zer P el z] (hz : z.cells.size = k) (hz1 : ∀ u ∈ z.cells.toList, u.oneCell' = true) (hx : e.ev x = some (.slice (some ⟨g, o, none⟩) 1 c)) (hb : Box w g el cur) (hfit : o + k ≤ cur.length) :
    Eff P (.call { callee := .builtin .clear, args := #[x], argTypes := #[t] }) ty e w (.tuple #[]) (w.setRow g (cur.take o ++ z.cells.toList ++ cur.drop (o + k)).toArray) := Eff.mk fun ρ hρ => by
  have h1 := run_underlying (Sli.h (P := P) (t := t) (el := el)) w
  have h2 := Zer.run P el (z := z) w
  have h3 := run_storeCells_at P g o el z.cells.toList 0 cur.toArray w hb (by simp only [List.size_toArray, Nat.add_zero, Array.length_toList]; omega) hz1
  have h4 : (Builtin.zeroCells z.cells 1).toList = z.cells.toList := by
    refine List.ext_getElem (by simp [Builtin.zeroCells]) fun i h5 h6 => ?_
    have h7 : i < z.cells.size := by simpa using h6
    simp [Builtin.zeroCells, Nat.mod_eq_of_lt h7, h7]
  simp only [Nat.add_zero, Array.length_toList] at h3
  subst hz
  simp [xop, execOp, hρ x _ hx, resolve, invoke, builtin, Builtin.clear_, h1, h2, h4, h3]
end
theorem erase_flat {k f : Nat} {css : List (List Value)} (h : ∀ c ∈ css, c.length = k) (hf : f < css.length) : css.flatten.take (f * k) ++ (css.drop (f + 1)).flatten = (css.eraseIdx f).flatten := by
  have h1 : css.flatten.take (f * k) = (css.take f).flatten := by
    have h2 : css.flatten = (css.take f).flatten ++ (css.drop f).flatten := by rw [← List.flatten_append, List.take_append_drop]
    have h3 : (css.take f).flatten.length = f * k := by
      rw [flat_len (fun c hc => h c (List.mem_of_mem_take hc)), List.length_take, Nat.min_eq_left (by omega)]
    rw [h2, ← h3, List.take_left]
  rw [h1, List.eraseIdx_eq_take_drop_succ, List.flatten_append]
theorem drop_flat {k f : Nat} {css : List (List Value)} (h : ∀ c ∈ css, c.length = k) (hf : f ≤ css.length) : css.flatten.drop (f * k) = (css.drop f).flatten := by
  have h2 : css.flatten = (css.take f).flatten ++ (css.drop f).flatten := by rw [← List.flatten_append, List.take_append_drop]
  have h3 : (css.take f).flatten.length = f * k := by
    rw [flat_len (fun c hc => h c (List.mem_of_mem_take hc)), List.length_take, Nat.min_eq_left (by omega)]
  rw [h2, ← h3, List.drop_left]
theorem del_lists {k n c f : Nat} {A : List Value} {css : List (List Value)} (hall : ∀ c ∈ css, c.length = k) (hl : css.length = n) (hA : A.length = c * k) (ht : A.take (n * k) = css.flatten) (hf : f < n) (hnc : n ≤ c) :
    (css.drop (f + 1)).flatten.length = (n - (f + 1)) * k ∧ (A.take (f * k) ++ (css.drop (f + 1)).flatten ++ A.drop (f * k + (css.drop (f + 1)).flatten.length)).length = c * k ∧
    (A.take (f * k) ++ (css.drop (f + 1)).flatten ++ A.drop (f * k + (css.drop (f + 1)).flatten.length)).take ((n - 1) * k) = (css.eraseIdx f).flatten ∧ (n - 1) * k + k ≤ c * k := by
  have hlen2 : (css.drop (f + 1)).flatten.length = (n - (f + 1)) * k := by
    rw [flat_len (fun c hc => hall c (List.mem_of_mem_drop hc)), List.length_drop, hl]
  have h1 : (n - 1) * k = f * k + (n - (f + 1)) * k := by rw [← Nat.add_mul]; congr 1; omega
  have h2 : f * k + (n - (f + 1)) * k ≤ c * k := by rw [← Nat.add_mul]; exact Nat.mul_le_mul_right _ (by omega)
  have h3 : (A.take (f * k) ++ (css.drop (f + 1)).flatten).length = (n - 1) * k := by
    rw [List.length_append, List.length_take, hA, hlen2]
    omega
  refine ⟨hlen2, ?_, ?_, ?_⟩
  · rw [List.length_append, h3, List.length_drop, hA, hlen2]
    omega
  · rw [← h3, List.take_left, ← erase_flat hall (by omega)]
    congr 1
    rw [← ht, List.take_take, Nat.min_eq_left (Nat.mul_le_mul_right _ (by omega))]
  · rw [← Nat.succ_mul]
    exact Nat.mul_le_mul_right _ (by omega)
set_option maxHeartbeats 1000000 in
theorem Delete_Str {B g n c f : Nat} {xs : List _} (w : World) (h : Own strLay 9 B Nn w (.slice (some ⟨g, 0, none⟩) n c) xs) (hf : f < xs.length) :
    Calls Try.prog 107 #[.slice (some ⟨g, 0, none⟩) n c, .int .i64 (f : Int), .int .i64 ((f + 1 : Nat) : Int)] w fun en w' => en = .returned (.slice (some ⟨g, 0, none⟩) (xs.length - 1) c) ∧ But g w w' ∧ Own strLay 9 B Nn w' (.slice (some ⟨g, 0, none⟩) (xs.length - 1) c) (xs.eraseIdx f) := by
  refine calls_of_sim Try.func107 rfl (Nat.le_of_ble_eq_true rfl) ?_
  obtain ⟨css, ho, hl, hi⟩ := h
  rcases ho.2 with ⟨hn, h0⟩ | ⟨g', cap, cur, he, hb, hg, hnc, hm, hcs, htake⟩
  · cases hn
  simp only [Value.slice.injEq, Option.some.injEq, Addr.mk.injEq, and_true] at he
  obtain ⟨rfl, rfl, rfl⟩ := he
  have hall : ∀ c ∈ css, c.length = 1 := fun cs hcs => by
    obtain ⟨m, hm', rfl⟩ := List.getElem_of_mem hcs
    exact (strLay).len (hi m _ xs[m] (List.getElem?_eq_getElem hm') (List.getElem?_eq_getElem (by omega)))
  have hfl := flat_len hall
  have hone : ∀ cs ∈ css, ∀ u ∈ cs, u.oneCell' = true := fun cs hcs u hu => by
    obtain ⟨m, hm', rfl⟩ := List.getElem_of_mem hcs
    exact OneC.h (hi m _ xs[m] (List.getElem?_eq_getElem hm') (List.getElem?_eq_getElem (by omega))) u hu
  have hier : ∀ (i : Nat) cs x, (css.eraseIdx f)[i]? = some cs → (xs.eraseIdx f)[i]? = some x → (strLay).is (fun b => Nn b ∧ some b ≠ Value.ownBlock (.slice (some ⟨g, 0, none⟩) xs.length c)) w cs x := fun i cs x h1 h2 => by
    rw [List.getElem?_eraseIdx] at h1 h2
    split at h1
    · rename_i hlt
      rw [if_pos hlt] at h2
      exact hi i cs x h1 h2
    · rename_i hlt
      rw [if_neg hlt] at h2
      exact hi (i + 1) cs x h1 h2
  have htake : cur.toList.take (xs.length * 1) = css.flatten := htake
  have hcs : cur.size = c * 1 := hcs
  unfold maxLen at hm
  have hf0 := hf
  generalize hnn : xs.length = n at *
  clear hi
  repeat (first | refine RL.vv ?_ | refine RL.p ?_ | refine RL.nil ?_ | refine Sim.seq ?_ | refine Sim.region ?_ | refine Sim.block ?_ | refine Sim.skip ?_ | refine Sim.inBlock ?_ | refine Sim.exit rfl ?_ | refine Sim.condT rfl ?_ | refine Sim.condF rfl ?_)
  refine RL.vv ?_ (hy := y_slice3 (k := 1) rfl rfl rfl rfl (by omega) (by omega) hnc)
  repeat (first | refine RL.vv ?_ | refine RL.p ?_ | refine RL.nil ?_ | refine Sim.seq ?_ | refine Sim.region ?_ | refine Sim.block ?_ | refine Sim.skip ?_ | refine Sim.inBlock ?_ | refine Sim.exit rfl ?_ | refine Sim.condT rfl ?_ | refine Sim.condF rfl ?_)
  refine Sim.ord (fun _ => True) ?_
  refine RO.tk 0 ?_ (hS := trivial)
  refine RO.tk 1 ?_ (hS := trivial)
  refine RO.tk 2 ?_ (hS := trivial)
  refine RO.tk 3 ?_ (hS := trivial)
  refine RO.tk 4 ?_ (hS := trivial)
  refine RO.tk 5 ?_ (hS := trivial) (hy := fun wq hq => y_sliceLo (i := f + 1) (k := 1) rfl rfl (by omega) hnc)
  obtain ⟨da, hda, hsrc⟩ : ∃ da : Addr, dropV (some ⟨g, 0, none⟩) n c (f + 1) 1 = .slice (some da) (n - (f + 1)) (c - (f + 1)) ∧ ∀ j u, (css.drop (f + 1)).flatten[j]? = some u → w.drew.cell? (da.add j) = some u := by
    unfold dropV
    by_cases hcf : c = f + 1
    · refine ⟨_, by rw [if_pos hcf], fun j u hj => ?_⟩
      rw [List.drop_eq_nil_of_le (by omega)] at hj
      simp at hj
    · refine ⟨_, by rw [if_neg hcf]; rfl, fun j u hj => ?_⟩
      rw [← drop_flat hall (by omega), List.getElem?_drop] at hj
      have hcell := ho.cells (g := g) rfl _ u hj
      simp only [addr_add] at hcell ⊢
      rw [Nat.add_assoc]
      exact hcell
  rw [hda]
  obtain ⟨hlen2, hA1, hA2, hfit⟩ := del_lists hall hl (show cur.toList.length = c * 1 by rw [Array.length_toList, hcs]) htake hf hnc
  obtain ⟨inf, hinf, hsize⟩ : ∃ i, Try.prog.info? 9 = some i ∧ i.size = 1 := Siz.h
  have happ := fun ty => run_append_room (P := Try.prog) w.drew 23 ty 9 inf Sli.h hinf g f c cur hg da (n - (f + 1)) (c - (f + 1)) (css.drop (f + 1)).flatten (by rw [hsize]; exact hlen2) hsrc (fun u hu => by
    obtain ⟨cs, hcs, hu⟩ := List.mem_flatten.1 hu
    exact hone cs (List.mem_of_mem_drop hcs) u hu) (by omega) (by rw [hsize, hlen2, hcs, ← Nat.add_mul]; exact Nat.mul_le_mul_right _ (by omega))
  rw [show f + (n - (f + 1)) = n - 1 by omega, hsize] at happ
  have hbx1 : Box (w.drew.setRow g (cur.toList.take (f * 1) ++ (css.drop (f + 1)).flatten ++ cur.toList.drop (f * 1 + (css.drop (f + 1)).flatten.length)).toArray) g 9 (cur.toList.take (f * 1) ++ (css.drop (f + 1)).flatten ++ cur.toList.drop (f * 1 + (css.drop (f + 1)).flatten.length)) :=
    setRow_heap w.drew g cur _ 9 (0, 0) hg
  have hbt1 : But g w (w.drew.setRow g (cur.toList.take (f * 1) ++ (css.drop (f + 1)).flatten ++ cur.toList.drop (f * 1 + (css.drop (f + 1)).flatten.length)).toArray) := (But.of_up (Up.drew w)).trans (But.setRow _ _ _)
  generalize hw1 : w.drew.setRow g (cur.toList.take (f * 1) ++ (css.drop (f + 1)).flatten ++ cur.toList.drop (f * 1 + (css.drop (f + 1)).flatten.length)).toArray = w1 at *
  generalize cur.toList.take (f * 1) ++ (css.drop (f + 1)).flatten ++ cur.toList.drop (f * 1 + (css.drop (f + 1)).flatten.length) = A1 at *
  refine RO.one 6 ?_
  refine RL.eff trivial rfl (e_append rfl rfl (happ _)) ?_
  refine RL.ord trivial ?_
  refine RO.tk 7 ?_ (hS := trivial) (hy := fun wq hq => y_assign rfl)
  refine RO.done (RL.nil ?_)
  clear happ hw1 hsrc hda
  refine Sim.seq ?_
  refine Sim.region ?_
  refine RL.vv ?_ (hy := y_move rfl)
  refine RL.vv ?_ (hy := y_move rfl)
  refine RL.vv ?_ (hy := y_len rfl)
  refine RL.vv ?_ (hy := y_move rfl)
  refine RL.vv ?_ (hy := y_slice2 (i := n - 1) (j := n) (k := 1) rfl rfl rfl (by omega) hnc)
  rw [show dropV (some ⟨g, 0, none⟩) n c (n - 1) 1 = .slice (some ⟨g, (n - 1) * 1, none⟩) 1 (c - (n - 1)) by
    unfold dropV
    rw [if_neg (by omega), show n - (n - 1) = 1 by omega]
    simp [addr_add]]
  rw [← hA1] at hfit
  refine RL.eff0 trivial (e_clear (k := 1) rfl (by intro u hu; simp [Value.cells] at hu; rcases hu with rfl | rfl | rfl <;> rfl) rfl hbx1 hfit) ?_
  refine RL.nil ?_
  refine Sim.seq ?_
  refine Sim.region ?_
  refine RL.vv ?_ (hy := y_move rfl)
  refine RL.vv ?_ (hy := y_assign rfl)
  refine RL.nil ?_
  have hbx2 := setRow_heap w1 g A1.toArray (A1.take ((n - 1) * 1) ++ (Value.cells (.string ⟨#[]⟩)).toList ++ A1.drop ((n - 1) * 1 + 1)).toArray 9 (0, 0) hbx1
  have hbt2 := hbt1.trans (But.setRow w1 g (A1.take ((n - 1) * 1) ++ (Value.cells (.string ⟨#[]⟩)).toList ++ A1.drop ((n - 1) * 1 + 1)).toArray)
  have hzl : (Value.cells (.string ⟨#[]⟩)).toList.length = 1 := rfl
  have hlA : (A1.take ((n - 1) * 1)).length = (n - 1) * 1 := by rw [List.length_take]; omega
  refine Sim.ret1 Try.func107 rfl rfl ⟨rfl, hbt2, css.eraseIdx f, ⟨?_, .inr ⟨g, c, _, ?_, hb, hbx2, ?_, hm, ?_, ?_⟩⟩, ?_, fun i cs x h1 h2 => Flat.h (hier i cs x h1 h2)⟩
  · rw [← hA2, hlA, List.length_eraseIdx, if_pos (by omega), hnn]
    rfl
  · rw [List.length_eraseIdx, if_pos (by omega), hnn]
  · rw [List.length_eraseIdx, if_pos (by omega), hnn]
    omega
  · show _ = c * 1
    rw [List.size_toArray, List.length_append, List.length_append, hlA, hzl, List.length_drop, hA1]
    rw [hA1] at hfit
    omega
  · rw [List.length_eraseIdx, if_pos (by omega), hnn, ← hA2, List.append_assoc]
    show (A1.take ((n - 1) * 1) ++ _).take ((n - 1) * 1) = A1.take ((n - 1) * 1)
    exact List.take_left' hlA
  · rw [List.length_eraseIdx, List.length_eraseIdx, if_pos (by omega), if_pos (by omega), hl, hnn]
set_option maxHeartbeats 1000000 in
theorem Delete_Fld {B g n c f : Nat} {xs : List _} (w : World) (h : Own fldLay 118 B Nn w (.slice (some ⟨g, 0, none⟩) n c) xs) (hf : f < xs.length) :
    Calls Try.prog 106 #[.slice (some ⟨g, 0, none⟩) n c, .int .i64 (f : Int), .int .i64 ((f + 1 : Nat) : Int)] w fun en w' => en = .returned (.slice (some ⟨g, 0, none⟩) (xs.length - 1) c) ∧ But g w w' ∧ Own fldLay 118 B Nn w' (.slice (some ⟨g, 0, none⟩) (xs.length - 1) c) (xs.eraseIdx f) := by
  refine calls_of_sim Try.func106 rfl (Nat.le_of_ble_eq_true rfl) ?_
  obtain ⟨css, ho, hl, hi⟩ := h
  rcases ho.2 with ⟨hn, h0⟩ | ⟨g', cap, cur, he, hb, hg, hnc, hm, hcs, htake⟩
  · cases hn
  simp only [Value.slice.injEq, Option.some.injEq, Addr.mk.injEq, and_true] at he
  obtain ⟨rfl, rfl, rfl⟩ := he
  have hall : ∀ c ∈ css, c.length = 3 := fun cs hcs => by
    obtain ⟨m, hm', rfl⟩ := List.getElem_of_mem hcs
    exact (fldLay).len (hi m _ xs[m] (List.getElem?_eq_getElem hm') (List.getElem?_eq_getElem (by omega)))
  have hfl := flat_len hall
  have hone : ∀ cs ∈ css, ∀ u ∈ cs, u.oneCell' = true := fun cs hcs u hu => by
    obtain ⟨m, hm', rfl⟩ := List.getElem_of_mem hcs
    exact OneC.h (hi m _ xs[m] (List.getElem?_eq_getElem hm') (List.getElem?_eq_getElem (by omega))) u hu
  have hier : ∀ (i : Nat) cs x, (css.eraseIdx f)[i]? = some cs → (xs.eraseIdx f)[i]? = some x → (fldLay).is (fun b => Nn b ∧ some b ≠ Value.ownBlock (.slice (some ⟨g, 0, none⟩) xs.length c)) w cs x := fun i cs x h1 h2 => by
    rw [List.getElem?_eraseIdx] at h1 h2
    split at h1
    · rename_i hlt
      rw [if_pos hlt] at h2
      exact hi i cs x h1 h2
    · rename_i hlt
      rw [if_neg hlt] at h2
      exact hi (i + 1) cs x h1 h2
  have htake : cur.toList.take (xs.length * 3) = css.flatten := htake
  have hcs : cur.size = c * 3 := hcs
  unfold maxLen at hm
  have hf0 := hf
  generalize hnn : xs.length = n at *
  clear hi
  repeat (first | refine RL.vv ?_ | refine RL.p ?_ | refine RL.nil ?_ | refine Sim.seq ?_ | refine Sim.region ?_ | refine Sim.block ?_ | refine Sim.skip ?_ | refine Sim.inBlock ?_ | refine Sim.exit rfl ?_ | refine Sim.condT rfl ?_ | refine Sim.condF rfl ?_)
  refine RL.vv ?_ (hy := y_slice3 (k := 3) rfl rfl rfl rfl (by omega) (by omega) hnc)
  repeat (first | refine RL.vv ?_ | refine RL.p ?_ | refine RL.nil ?_ | refine Sim.seq ?_ | refine Sim.region ?_ | refine Sim.block ?_ | refine Sim.skip ?_ | refine Sim.inBlock ?_ | refine Sim.exit rfl ?_ | refine Sim.condT rfl ?_ | refine Sim.condF rfl ?_)
  refine Sim.ord (fun _ => True) ?_
  refine RO.tk 0 ?_ (hS := trivial)
  refine RO.tk 1 ?_ (hS := trivial)
  refine RO.tk 2 ?_ (hS := trivial)
  refine RO.tk 3 ?_ (hS := trivial)
  refine RO.tk 4 ?_ (hS := trivial)
  refine RO.tk 5 ?_ (hS := trivial) (hy := fun wq hq => y_sliceLo (i := f + 1) (k := 3) rfl rfl (by omega) hnc)
  obtain ⟨da, hda, hsrc⟩ : ∃ da : Addr, dropV (some ⟨g, 0, none⟩) n c (f + 1) 3 = .slice (some da) (n - (f + 1)) (c - (f + 1)) ∧ ∀ j u, (css.drop (f + 1)).flatten[j]? = some u → w.drew.cell? (da.add j) = some u := by
    unfold dropV
    by_cases hcf : c = f + 1
    · refine ⟨_, by rw [if_pos hcf], fun j u hj => ?_⟩
      rw [List.drop_eq_nil_of_le (by omega)] at hj
      simp at hj
    · refine ⟨_, by rw [if_neg hcf]; rfl, fun j u hj => ?_⟩
      rw [← drop_flat hall (by omega), List.getElem?_drop] at hj
      have hcell := ho.cells (g := g) rfl _ u hj
      simp only [addr_add] at hcell ⊢
      rw [Nat.add_assoc]
      exact hcell
  rw [hda]
  obtain ⟨hlen2, hA1, hA2, hfit⟩ := del_lists hall hl (show cur.toList.length = c * 3 by rw [Array.length_toList, hcs]) htake hf hnc
  obtain ⟨inf, hinf, hsize⟩ : ∃ i, Try.prog.info? 118 = some i ∧ i.size = 3 := Siz.h
  have happ := fun ty => run_append_room (P := Try.prog) w.drew 53 ty 118 inf Sli.h hinf g f c cur hg da (n - (f + 1)) (c - (f + 1)) (css.drop (f + 1)).flatten (by rw [hsize]; exact hlen2) hsrc (fun u hu => by
    obtain ⟨cs, hcs, hu⟩ := List.mem_flatten.1 hu
    exact hone cs (List.mem_of_mem_drop hcs) u hu) (by omega) (by rw [hsize, hlen2, hcs, ← Nat.add_mul]; exact Nat.mul_le_mul_right _ (by omega))
  rw [show f + (n - (f + 1)) = n - 1 by omega, hsize] at happ
  have hbx1 : Box (w.drew.setRow g (cur.toList.take (f * 3) ++ (css.drop (f + 1)).flatten ++ cur.toList.drop (f * 3 + (css.drop (f + 1)).flatten.length)).toArray) g 118 (cur.toList.take (f * 3) ++ (css.drop (f + 1)).flatten ++ cur.toList.drop (f * 3 + (css.drop (f + 1)).flatten.length)) :=
    setRow_heap w.drew g cur _ 118 (0, 0) hg
  have hbt1 : But g w (w.drew.setRow g (cur.toList.take (f * 3) ++ (css.drop (f + 1)).flatten ++ cur.toList.drop (f * 3 + (css.drop (f + 1)).flatten.length)).toArray) := (But.of_up (Up.drew w)).trans (But.setRow _ _ _)
  generalize hw1 : w.drew.setRow g (cur.toList.take (f * 3) ++ (css.drop (f + 1)).flatten ++ cur.toList.drop (f * 3 + (css.drop (f + 1)).flatten.length)).toArray = w1 at *
  generalize cur.toList.take (f * 3) ++ (css.drop (f + 1)).flatten ++ cur.toList.drop (f * 3 + (css.drop (f + 1)).flatten.length) = A1 at *
  refine RO.one 6 ?_
  refine RL.eff trivial rfl (e_append rfl rfl (happ _)) ?_
  refine RL.ord trivial ?_
  refine RO.tk 7 ?_ (hS := trivial) (hy := fun wq hq => y_assign rfl)
  refine RO.done (RL.nil ?_)
  clear happ hw1 hsrc hda
  refine Sim.seq ?_
  refine Sim.region ?_
  refine RL.vv ?_ (hy := y_move rfl)
  refine RL.vv ?_ (hy := y_move rfl)
  refine RL.vv ?_ (hy := y_len rfl)
  refine RL.vv ?_ (hy := y_move rfl)
  refine RL.vv ?_ (hy := y_slice2 (i := n - 1) (j := n) (k := 3) rfl rfl rfl (by omega) hnc)
  rw [show dropV (some ⟨g, 0, none⟩) n c (n - 1) 3 = .slice (some ⟨g, (n - 1) * 3, none⟩) 1 (c - (n - 1)) by
    unfold dropV
    rw [if_neg (by omega), show n - (n - 1) = 1 by omega]
    simp [addr_add]]
  rw [← hA1] at hfit
  refine RL.eff0 trivial (e_clear (k := 3) rfl (by intro u hu; simp [Value.cells] at hu; rcases hu with rfl | rfl | rfl <;> rfl) rfl hbx1 hfit) ?_
  refine RL.nil ?_
  refine Sim.seq ?_
  refine Sim.region ?_
  refine RL.vv ?_ (hy := y_move rfl)
  refine RL.vv ?_ (hy := y_assign rfl)
  refine RL.nil ?_
  have hbx2 := setRow_heap w1 g A1.toArray (A1.take ((n - 1) * 3) ++ (Value.cells (.agg #[.string ⟨#[]⟩, .int .i64 0, .string ⟨#[]⟩])).toList ++ A1.drop ((n - 1) * 3 + 3)).toArray 118 (0, 0) hbx1
  have hbt2 := hbt1.trans (But.setRow w1 g (A1.take ((n - 1) * 3) ++ (Value.cells (.agg #[.string ⟨#[]⟩, .int .i64 0, .string ⟨#[]⟩])).toList ++ A1.drop ((n - 1) * 3 + 3)).toArray)
  have hzl : (Value.cells (.agg #[.string ⟨#[]⟩, .int .i64 0, .string ⟨#[]⟩])).toList.length = 3 := rfl
  have hlA : (A1.take ((n - 1) * 3)).length = (n - 1) * 3 := by rw [List.length_take]; omega
  refine Sim.ret1 Try.func106 rfl rfl ⟨rfl, hbt2, css.eraseIdx f, ⟨?_, .inr ⟨g, c, _, ?_, hb, hbx2, ?_, hm, ?_, ?_⟩⟩, ?_, fun i cs x h1 h2 => Flat.h (hier i cs x h1 h2)⟩
  · rw [← hA2, hlA, List.length_eraseIdx, if_pos (by omega), hnn]
    rfl
  · rw [List.length_eraseIdx, if_pos (by omega), hnn]
  · rw [List.length_eraseIdx, if_pos (by omega), hnn]
    omega
  · show _ = c * 3
    rw [List.size_toArray, List.length_append, List.length_append, hlA, hzl, List.length_drop, hA1]
    rw [hA1] at hfit
    omega
  · rw [List.length_eraseIdx, if_pos (by omega), hnn, ← hA2, List.append_assoc]
    show (A1.take ((n - 1) * 3) ++ _).take ((n - 1) * 3) = A1.take ((n - 1) * 3)
    exact List.take_left' hlA
  · rw [List.length_eraseIdx, List.length_eraseIdx, if_pos (by omega), if_pos (by omega), hl, hnn]
end Go.Proofs.Ytgckpmcdlciibaa
