/- Literals: slices that a text writes out. -/
import Derived.Test.YtgckpmcdlciibaaEng6
namespace Go.Proofs.Ytgckpmcdlciibaa
open Go.RowKit
theorem flat_get {k : Nat} : ∀ {css : List (List Value)} {i j : Nat} {cs : List Value} {v : Value}, (∀ c ∈ css, c.length = k) → css[i]? = some cs → cs[j]? = some v → css.flatten[i * k + j]? = some v
  | [], i, j, cs, v, _, hi, _ => by simp at hi
  | c :: css, 0, j, cs, v, h, hi, hj => by
    simp at hi
    subst hi
    have hlt : j < c.length := (List.getElem?_eq_some_iff.1 hj).1
    rw [List.flatten_cons, Nat.zero_mul, Nat.zero_add, List.getElem?_append_left hlt]
    exact hj
  | c :: css, i + 1, j, cs, v, h, hi, hj => by
    have hc := h c (by simp)
    rw [List.flatten_cons, List.getElem?_append_right (by rw [hc, Nat.add_mul, Nat.one_mul]; omega), hc, show (i + 1) * k + j - k = i * k + j by rw [Nat.add_mul, Nat.one_mul]; omega]
    exact flat_get (fun c' hc' => h c' (by simp [hc'])) (by simpa using hi) hj
/-- a slice that lies from the head of a block on -/
theorem SliceOf.lit {α : Type} {L : Lay α} {S : Nat → Prop} {w : World} {b : Nat} (css : List (List Value)) (xs : List α) {c : Nat} (hb : At w b 0 css.flatten) (hl : css.length = xs.length) (hc : xs.length ≤ c) (hm : c ≤ maxLen) (hS : S b)
    (h : ∀ (i : Nat) cs x, css[i]? = some cs → xs[i]? = some x → L.is S w cs x) : SliceOf L S w (.slice (some ⟨b, 0, none⟩) xs.length c) xs := by
  refine ⟨_, c, rfl, hc, hm, fun _ => ⟨b, 0, rfl, hS, fun i x hx => ?_⟩⟩
  have hi : i < css.length := by have := (List.getElem?_eq_some_iff.1 hx).1; omega
  refine ⟨css[i], fun j v hj => ?_, h i _ x (List.getElem?_eq_getElem hi) hx⟩
  have hall : ∀ cs ∈ css, cs.length = L.k := fun cs hcs => by
    obtain ⟨m, hm', rfl⟩ := List.getElem_of_mem hcs
    exact L.len (h m _ xs[m] (List.getElem?_eq_getElem hm') (List.getElem?_eq_getElem (by omega)))
  have := hb _ _ (flat_get hall (List.getElem?_eq_getElem hi) hj)
  rwa [Nat.zero_add] at this ⊢
theorem SliceOf.lit1 {α : Type} {L : Lay α} {S : Nat → Prop} {w : World} {b : Nat} (cs : List Value) (x : α) (hb : At w b 0 cs) (hS : S b) (h : L.is S w cs x) : SliceOf L S w (.slice (some ⟨b, 0, none⟩) 1 1) [x] :=
  SliceOf.lit [cs] [x] (by simpa using hb) rfl (Nat.le_refl _) (by simp [maxLen]) hS fun i cs' y h1 h2 => by
    match i, h1, h2 with
    | 0, h1, h2 => simp at h1 h2; subst h1; subst h2; exact h
    | i + 1, h1, _ => simp at h1
theorem SliceOf.lit2 {α : Type} {L : Lay α} {S : Nat → Prop} {w : World} {b : Nat} (cs cs2 : List Value) (x x2 : α) (hb : At w b 0 (cs ++ cs2)) (hS : S b) (h : L.is S w cs x) (h2 : L.is S w cs2 x2) : SliceOf L S w (.slice (some ⟨b, 0, none⟩) 2 2) [x, x2] :=
  SliceOf.lit [cs, cs2] [x, x2] (by simpa using hb) rfl (Nat.le_refl _) (by simp [maxLen]) hS fun i cs' y h3 h4 => by
    match i, h3, h4 with
    | 0, h3, h4 => simp at h3 h4; subst h3; subst h4; exact h
    | 1, h3, h4 => simp at h3 h4; subst h3; subst h4; exact h2
    | i + 2, h3, _ => simp at h3
end Go.Proofs.Ytgckpmcdlciibaa
