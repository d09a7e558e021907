/- Append: a row of elements in a block that is ours alone. -/
import Derived.Test.YtgckpmcdlciibaaLit
import Derived.Laws.AppendOwn
namespace Go.Proofs.Ytgckpmcdlciibaa
open Go.RowKit

/-- elements' cells are such as a store takes -/
class OneC {α : Type} (L : Lay α) : Prop where
  h : ∀ {S w cs x}, L.is S w cs x → ∀ c ∈ cs, c.oneCell' = true

/-- a row of elements in a block (B or later) that is ours alone; what they lead to lies in S and elsewhere -/
def Own {α : Type} (L : Lay α) (el : TypeId) (B : Nat) (S : Nat → Prop) (w : World) (v : Value) (xs : List α) : Prop :=
  ∃ css : List (List Value), w.ownsRow B el L.k v xs.length css.flatten ∧ css.length = xs.length ∧ ∀ (i : Nat) cs x, css[i]? = some cs → xs[i]? = some x → L.is (fun b => S b ∧ some b ≠ v.ownBlock) w cs x

section
variable {α : Type} {L : Lay α} {el : TypeId} {B : Nat} {S : Nat → Prop} {w w' : World} {v : Value} {xs : List α}
theorem Own.shape (h : Own L el B S w v xs) : ∃ a c, v = .slice a xs.length c := by
  obtain ⟨css, ho, _, _⟩ := h
  rcases ho.2 with ⟨rfl, h0⟩ | ⟨g, cap, cur, rfl, _⟩
  · exact ⟨none, 0, by rw [h0]⟩
  · exact ⟨_, cap, rfl⟩
theorem Own.nil (L : Lay α) (el : TypeId) (B : Nat) (S : Nat → Prop) (w : World) : Own L el B S w (.slice none 0 0) [] := ⟨[], World.ownsRow_nil w B el L.k, rfl, fun i cs x h => by simp at h⟩
/-- an empty literal -/
theorem Own.empty (L : Lay α) {b : Nat} (h : Box w b el []) (hB : B ≤ b) : Own L el B S w (.slice (some ⟨b, 0, none⟩) 0 0) [] :=
  ⟨[], ⟨by simp, .inr ⟨b, 0, #[], rfl, hB, by simpa [Box] using h, Nat.le_refl _, Nat.zero_le _, by simp, by simp⟩⟩, rfl, fun i cs x h => by simp at h⟩
theorem Own.keep {S' : Nat → Prop} (h : Own L el B S w v xs) (hk : Keep S' w w') (hS : ∀ b, S b → S' b) (hv : ∀ g, v.ownBlock = some g → S' g) : Own L el B S w' v xs := by
  obtain ⟨css, ho, hl, hi⟩ := h
  refine ⟨css, ⟨ho.1, ?_⟩, hl, fun i cs x h1 h2 => L.keep (hi i cs x h1 h2) fun b hb => hk b (hS b hb.1)⟩
  rcases ho.2 with hn | ⟨g, cap, cur, rfl, hb, hg, hr⟩
  · exact .inl hn
  · exact .inr ⟨g, cap, cur, rfl, hb, (hk g (hv g rfl) (Array.getElem?_eq_some_iff.1 hg).1).trans hg, hr⟩
theorem Own.up (h : Own L el B S w v xs) (hu : Up w w') : Own L el B S w' v xs := h.keep (S' := fun _ => True) (.of_up hu) (fun _ _ => trivial) fun _ _ => trivial
theorem Own.lt (h : Own L el B S w v xs) : ∀ k, v.ownBlock = some k → B ≤ k ∧ k < w.heap.size := by
  obtain ⟨css, ho, _, _⟩ := h
  exact ho.lt
theorem flat_at {w : World} {k : Nat} : ∀ {css : List (List Value)} {b o : Nat}, (∀ c ∈ css, c.length = k) → (∀ (i : Nat) cs, css[i]? = some cs → At w b (o + i * k) cs) → At w b o css.flatten
  | [], b, o, _, _ => fun j v hj => by simp at hj
  | c :: css, b, o, hk, h => fun j v hj => by
    have hc := hk c (by simp)
    rw [List.flatten_cons] at hj
    by_cases hlt : j < c.length
    · rw [List.getElem?_append_left hlt] at hj
      have := h 0 c rfl j v hj
      rwa [Nat.zero_mul, Nat.add_zero] at this
    · rw [List.getElem?_append_right (by omega)] at hj
      have := flat_at (b := b) (o := o + k) (css := css) (fun c' hc' => hk c' (by simp [hc'])) (fun i cs hi => by
        have := h (i + 1) cs (by simpa using hi)
        rwa [Nat.add_mul, Nat.one_mul, Nat.add_comm (i * k), ← Nat.add_assoc] at this) _ _ hj
      rwa [hc, show o + k + (j - k) = o + j by omega] at this
theorem flat_len {k : Nat} : ∀ {css : List (List Value)}, (∀ c ∈ css, c.length = k) → css.flatten.length = css.length * k
  | [], _ => by simp
  | c :: css, h => by rw [List.flatten_cons, List.length_append, h c (by simp), flat_len (css := css) fun c' hc' => h c' (by simp [hc']), List.length_cons, Nat.add_mul, Nat.one_mul, Nat.add_comm]
theorem Own.slice (h : Own L el B S w v xs) (S2 : Nat → Prop) (hS : ∀ b, S b → S2 b) (hv : ∀ g, v.ownBlock = some g → S2 g) : SliceOf L S2 w v xs := by
  obtain ⟨css, ho, hl, hi⟩ := h
  rcases ho.2 with ⟨rfl, h0⟩ | ⟨g, cap, cur, rfl, hb, hg, hc, hm, hr⟩
  · have : xs = [] := List.eq_nil_of_length_eq_zero h0
    subst this
    exact SliceOf.nil _ _ _
  · have hcell := ho.cells (g := g) rfl
    exact SliceOf.lit css xs (fun j u hj => by have := hcell j u hj; rwa [addr_add] at this) hl hc hm (hv g rfl) fun i cs x h1 h2 => L.mono (hi i cs x h1 h2) fun b hb => hS b hb.1
/-- what a slice holds, as cells -/
theorem SliceOf.flat {xv : Value} (h : SliceOf L S w xv xs) (hp : 0 < xs.length) : ∃ (b o c : Nat) (css : List (List Value)), xv = .slice (some ⟨b, o, none⟩) xs.length c ∧ css.length = xs.length ∧ At w b o css.flatten ∧ (∀ c ∈ css, c.length = L.k) ∧ ∀ (i : Nat) cs x, css[i]? = some cs → xs[i]? = some x → L.is S w cs x := by
  obtain ⟨a, c, rfl, h1, h2, h3⟩ := h
  obtain ⟨b, o, rfl, hb, he⟩ := h3 hp
  have hex : ∀ i : Nat, ∃ cs, ∀ x, xs[i]? = some x → At w b (o + i * L.k) cs ∧ L.is S w cs x := fun i => by
    cases hx : xs[i]? with
    | none => exact ⟨[], fun x h => by cases h⟩
    | some x =>
      obtain ⟨cs, hcs⟩ := he i x hx
      exact ⟨cs, fun y hy => by cases hy; exact hcs⟩
  obtain ⟨f, hf⟩ := Classical.axiomOfChoice hex
  have hget : ∀ (i : Nat) cs, ((List.range xs.length).map f)[i]? = some cs → ∃ x, xs[i]? = some x ∧ cs = f i := fun i cs hi => by
    simp only [List.getElem?_map, Option.map_eq_some_iff] at hi
    obtain ⟨j, hj, rfl⟩ := hi
    have hlt := (List.getElem?_eq_some_iff.1 hj).1
    simp at hlt
    simp [List.getElem?_range hlt] at hj
    subst hj
    exact ⟨xs[i], List.getElem?_eq_getElem hlt, rfl⟩
  have hk : ∀ c ∈ (List.range xs.length).map f, c.length = L.k := fun cs hcs => by
    obtain ⟨m, hm, rfl⟩ := List.getElem_of_mem hcs
    obtain ⟨x, hx, he⟩ := hget m _ (List.getElem?_eq_getElem hm)
    rw [he]
    exact L.len (hf m x hx).2
  refine ⟨b, o, c, (List.range xs.length).map f, rfl, by simp, flat_at hk fun i cs hi => ?_, hk, fun i cs x hi hx => ?_⟩
  · obtain ⟨x, hx, rfl⟩ := hget i cs hi
    exact (hf i x hx).1
  · obtain ⟨y, hy, rfl⟩ := hget i cs hi
    exact (hf i x hx).2
end
theorem run_append_none {P : Program} {w : World} {t ty el : TypeId} {k : Nat} [Sli P t el] [Siz P el k] (a : Option Addr) (n c c2 : Nat) (hc : n ≤ c) (a2 : Option Addr) :
    (Builtin.append_ #[t, t] ty #[.slice a n c, .slice a2 0 c2]).run P w = .ok (.slice a n c) w := by
  have h1 := run_underlying (Sli.h (P := P) (t := t) (el := el)) w
  have h2 := Siz.run P el (k := k) w
  cases a <;> cases a2 <;> simp [Builtin.append_, h1, h2, Builtin.lenOf, hc, Builtin.firstCells, loadCells, loadCellsFrom, storeCells]
theorem append_own {P : Program} {α : Type} {L : Lay α} [OneC L] {t el : TypeId} (ty : TypeId) {by_ : Nat} {z : Value} [h1 : Sli P t el] [h2 : Siz P el L.k] [h3 : Byt P el by_] [h4 : Zer P el z] (hz : z.cells.size = L.k) (hb0 : 0 < by_) {w : World} {B : Nat} {S : Nat → Prop} {v xv : Value} {xs ys : List α}
    (ho : Own L el B S w v xs) (hy : SliceOf L (fun b => S b ∧ some b ≠ v.ownBlock) w xv ys) (hsz : (xs.length + ys.length) * by_ ≤ 140737488355328) (hB : B ≤ w.heap.size) :
    ∃ v' w', (Builtin.append_ #[t, t] ty #[v, xv]).run P w = .ok v' w' ∧ Own L el B S w' v' (xs ++ ys) ∧ w.grownBy w' v.ownBlock := by
  by_cases hp : 0 < ys.length
  · obtain ⟨b, o, c, css2, rfl, hl2, hat, hk2, hi2⟩ := hy.flat hp
    obtain ⟨css, hown, hl, hi⟩ := ho
    obtain ⟨i, hinf, hsize⟩ := h2.h
    have hby : i.bytes = by_ := by
      obtain ⟨i', h, he⟩ := h3.h
      rw [hinf] at h
      cases h
      exact he
    have hzz : i.zero = some z := by
      obtain ⟨i', h, he⟩ := h4.h
      rw [hinf] at h
      cases h
      exact he
    have hpos : 0 < L.k := L.pos
    have hk1 : ∀ c ∈ css, c.length = L.k := fun cs hcs => by
      obtain ⟨m, hm', rfl⟩ := List.getElem_of_mem hcs
      exact L.len (hi m _ xs[m] (List.getElem?_eq_getElem hm') (List.getElem?_eq_getElem (by omega)))
    have hnl : css2.flatten.length = ys.length * L.k := by rw [flat_len hk2, hl2]
    have hnews : ∀ j u, css2.flatten[j]? = some u → w.cell? ((⟨b, o, none⟩ : Addr).add j) = some u := fun j u hj => by rw [addr_add]; exact hat j u hj
    have hone : ∀ u ∈ css2.flatten, u.oneCell' = true := fun u hu => by
      obtain ⟨cs, hcs, hu⟩ := List.mem_flatten.1 hu
      obtain ⟨m, hm', rfl⟩ := List.getElem_of_mem hcs
      exact OneC.h (hi2 m _ ys[m] (List.getElem?_eq_getElem hm') (List.getElem?_eq_getElem (by omega))) u hu
    have hnm : xs.length + ys.length ≤ 140737488355328 := Nat.le_trans (Nat.le_mul_of_pos_right _ hb0) hsz
    have h63 : xs.length + ys.length ≤ maxLen := by simp only [maxLen]; omega
    obtain ⟨v', w', hr, hown2, hg, _⟩ := run_append_own (P := P) w B t ty el i z L.k by_ h1.h hinf hzz hsize hby hz hpos v xs.length css.flatten hown ⟨b, o, none⟩ ys.length c css2.flatten hnl hnews hone h63 hsz hB
    have hwhere : v'.ownBlock = v.ownBlock ∨ v'.ownBlock = some w.heap.size := by
      rcases hown.2 with ⟨rfl, h0⟩ | ⟨g, cap, cur, rfl, hbg, hgg, hnc, hcm, hcs, htake⟩
      · have hx := run_append_nil (P := P) w t ty el i z h1.h hinf hzz ⟨b, o, none⟩ ys.length c css2.flatten (by rw [hsize]; exact hnl) hnews hp (by omega) (by rw [hby]; rw [h0] at hsz; simp only [Nat.zero_add] at hsz; omega)
        rw [hx] at hr
        simp only [Result.ok.injEq] at hr
        exact .inr (by rw [← hr.1]; rfl)
      · by_cases hroom : xs.length + ys.length ≤ cap
        · have hx := run_append_room (P := P) w t ty el i h1.h hinf g xs.length cap cur hgg ⟨b, o, none⟩ ys.length c css2.flatten (by rw [hsize]; exact hnl) hnews hone hroom (by rw [hsize, hnl, hcs, ← Nat.add_mul]; exact Nat.mul_le_mul_right _ hroom)
          rw [hx] at hr
          simp only [Result.ok.injEq] at hr
          exact .inl (by rw [← hr.1]; rfl)
        · have hx := run_append_grow (P := P) w t ty el i z h1.h hinf hzz ⟨g, 0, none⟩ xs.length cap css.flatten (by rw [hsize]; exact hown.1) (hown.cells (g := g) rfl) ⟨b, o, none⟩ ys.length c css2.flatten (by rw [hsize]; exact hnl) hnews (by omega) (by omega) (growslice_fits (by omega) (by rw [hby]; exact hsz))
          rw [hx] at hr
          simp only [Result.ok.injEq] at hr
          exact .inr (by rw [← hr.1]; rfl)
    have hmove : ∀ {cs : List Value} {x : α}, L.is (fun b => S b ∧ some b ≠ v.ownBlock) w cs x → L.is (fun b => S b ∧ some b ≠ v'.ownBlock) w' cs x := fun h =>
      L.mono (L.keep (L.old h) fun b hb _ => hg.block b hb.2 hb.1.2) fun b hb => ⟨hb.1.1, by
        rcases hwhere with h | h
        · rw [h]; exact hb.1.2
        · rw [h]; intro hh; simp only [Option.some.injEq] at hh; have := hb.2; omega⟩
    refine ⟨v', w', hr, ⟨css ++ css2, ?_, by simp [hl, hl2], fun i cs x hcs hx => ?_⟩, hg⟩
    · rw [List.length_append, List.flatten_append]
      exact hown2
    · by_cases hlt : i < css.length
      · rw [List.getElem?_append_left hlt] at hcs
        rw [List.getElem?_append_left (by omega)] at hx
        exact hmove (hi i cs x hcs hx)
      · rw [List.getElem?_append_right (by omega)] at hcs
        rw [List.getElem?_append_right (by omega), ← hl] at hx
        exact hmove (hi2 _ cs x hcs hx)
  · have : ys = [] := List.eq_nil_of_length_eq_zero (by omega)
    subst this
    obtain ⟨a2, c2, rfl, _⟩ := hy
    have hrun : (Builtin.append_ #[t, t] ty #[v, .slice a2 ([] : List α).length c2]).run P w = .ok v w := by
      obtain ⟨css, hown, _⟩ := ho
      rcases hown.2 with ⟨rfl, h0⟩ | ⟨g, cap, cur, rfl, hbg, hgg, hnc, hcm, hcs, htake⟩
      · exact run_append_none (el := el) (k := L.k) none 0 0 c2 (Nat.le_refl _) a2
      · exact run_append_none (el := el) (k := L.k) _ xs.length cap c2 hnc a2
    exact ⟨v, w, hrun, by simpa using ho, ⟨rfl, rfl, rfl, Nat.le_refl _, fun _ _ _ => rfl⟩⟩

section
variable {P : Program} {f : FuncId} {N : Nat} {k : List Item} {K : Act → World → Prop} {e : Env} {w w' : World} {R : Ending → World → Prop}
variable {ops : Array Oper} {rest : List Oper} {d : Nat} {ty : TypeId} {ps : String} {af : Array Edge} {g : Option (Nat × Bool)} {v : Value}
theorem e_append {t : TypeId} {x y : Operand} {xv v' : Value} (hx : e.ev x = some v) (hy : e.ev y = some xv) (hr : (Builtin.append_ #[t, t] ty #[v, xv]).run P w = .ok v' w') : Eff P (.call { callee := .builtin .append, args := #[x, y], argTypes := #[t, t] }) ty e w v' w' := Eff.mk fun ρ hρ => by
  simp [xop, execOp, hρ x _ hx, hρ y _ hy, resolve, invoke, builtin, hr]
/-- append: what stood stands, but for the row's own block -/
theorem RL.append {α : Type} {L : Lay α} [OneC L] {t el : TypeId} {by_ : Nat} {z : Value} [Sli P t el] [Siz P el L.k] [Byt P el by_] [Zer P el z] {x y : Operand} {B : Nat} {S : Nat → Prop} {xv : Value} {xs ys : List α} (hw : Wants ops e g) (hd : Nat.blt d N = true)
    (hx : e.ev x = some v) (hy : e.ev y = some xv) (hz : z.cells.size = L.k) (hb0 : 0 < by_) (ho : Own L el B S w v xs) (hs : SliceOf L (fun b => S b ∧ some b ≠ v.ownBlock) w xv ys) (hsz : (xs.length + ys.length) * by_ ≤ 140737488355328) (hB : B ≤ w.heap.size)
    (h : ∀ v' w1, Own L el B S w1 v' (xs ++ ys) → w.grownBy w1 v.ownBlock → RL P f N ops rest K ((d, v') :: e) w1 R) :
    RL P f N ops ({ dst := some d, op := .call { callee := .builtin .append, args := #[x, y], argTypes := #[t, t] }, type := ty, pos := ps, after := af, guard := g } :: rest) K e w R := by
  obtain ⟨v', w1, hr, h1, h2⟩ := append_own (P := P) (t := t) (el := el) ty hz hb0 ho hs hsz hB
  exact RL.eff hw hd (e_append hx hy hr) (h v' w1 h1 h2)
theorem Grown.below {B : Nat} {row : Option Nat} (h : w.grownBy w' row) (hB : B ≤ w.heap.size) (hr : ∀ k, row = some k → B ≤ k) : Below B w w' :=
  ⟨h.os, h.tape, h.output, h.size, fun i hi => h.block i (by omega) fun e => by have := hr i e.symm; omega⟩
theorem Grown.up {w0 : World} {row : Option Nat} (h : w.grownBy w' row) (hu : Up w0 w) (hr : ∀ k, row = some k → w0.heap.size ≤ k) : Up w0 w' := Below.trans (b := w) hu (Grown.below h hu.size hr)
theorem Grown.keep {row : Option Nat} (h : w.grownBy w' row) : Keep (fun b => some b ≠ row) w w' := fun b hb hlt => h.block b hlt hb
end
instance : OneC strLay := ⟨by rintro S w cs x rfl c hc; simp at hc; subst hc; rfl⟩
instance : OneC fldLay := ⟨by rintro S w cs x rfl c hc; simp at hc; rcases hc with rfl | rfl | rfl <;> rfl⟩
instance : OneC typLay := ⟨by rintro S w cs x ⟨v, rfl, a, n, rfl, _⟩ c hc; simp at hc; rcases hc with rfl | rfl <;> rfl⟩
instance : OneC valLay := ⟨by rintro S w cs x ⟨v, rfl, a, n, rfl, _⟩ c hc; simp at hc; rcases hc with rfl | rfl | rfl <;> rfl⟩
instance : OneC thgLay := ⟨by rintro S w cs x ⟨v, rfl, a, n, rfl, _⟩ c hc; simp at hc; rcases hc with rfl | rfl | rfl <;> rfl⟩
instance : OneC chgLay := ⟨by rintro S w cs x rfl c hc; simp at hc; rcases hc with rfl | rfl | rfl | rfl <;> rfl⟩
instance : OneC ownLay := ⟨by rintro S w cs x rfl c hc; simp at hc; rcases hc with rfl | rfl | rfl <;> rfl⟩
instance : OneC snLay := ⟨by rintro S w cs x ⟨v1, v2, rfl, ⟨a, n, rfl, _⟩, b, m, rfl, _⟩ c hc; simp at hc; rcases hc with rfl | rfl | rfl | rfl <;> rfl⟩
instance : OneC prtLay := ⟨by rintro S w cs x ⟨v1, v2, v3, rfl, ⟨a, n, rfl, _⟩, ⟨b, m, rfl, _⟩, c', m', rfl, _⟩ c hc; simp at hc; rcases hc with rfl | rfl | rfl | rfl <;> rfl⟩
end Go.Proofs.Ytgckpmcdlciibaa
