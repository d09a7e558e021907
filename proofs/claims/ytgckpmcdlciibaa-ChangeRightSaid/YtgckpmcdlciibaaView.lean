/- What is seen, in memory: a row of headers, each with two rows of its own. -/
import Derived.Test.YtgckpmcdlciibaaEngM
import Derived.Test.YtgckpmcdlciibaaMod4
namespace Go.Proofs.Ytgckpmcdlciibaa
open Go.RowKit
structure Hd where
  name : Str
  fv : Value
  own : Str
  nv : Value
def hdLay : Lay Hd where
  k := 4
  pos := by decide
  is := fun _ _ cs h => cs = [.string h.name, h.fv, .string h.own, h.nv] ∧ h.fv.oneCell' = true ∧ h.nv.oneCell' = true
  len := by rintro S w cs x ⟨rfl, _⟩; rfl
  keep := fun h _ => h
  mono := fun h _ => h
  old := fun h => h
instance : Flat hdLay := ⟨fun h => h⟩
instance : OneC hdLay := ⟨by rintro S w cs x ⟨rfl, h1, h2⟩ c hc; simp only [List.mem_cons, List.not_mem_nil, or_false] at hc; rcases hc with rfl | rfl | rfl | rfl <;> first | rfl | assumption⟩
/-- the same cells read otherwise -/
theorem SliceOf.map {α β : Type} {L : Lay α} {M : Lay β} {S : Nat → Prop} {w : World} {v : Value} {xs : List α} {ys : List β} (h : SliceOf L S w v xs) (hk : L.k = M.k) (hl : ys.length = xs.length) (hm : ∀ (i : Nat) cs x y, xs[i]? = some x → ys[i]? = some y → L.is S w cs x → M.is S w cs y) : SliceOf M S w v ys := by
  obtain ⟨a, c, rfl, h1, h2, h3⟩ := h
  refine ⟨a, c, by rw [hl], by omega, h2, fun hp => ?_⟩
  obtain ⟨b, o, rfl, hb, he⟩ := h3 (by omega)
  refine ⟨b, o, rfl, hb, fun i y hy => ?_⟩
  have hlt := (List.getElem?_eq_some_iff.1 hy).1
  obtain ⟨cs, hc, hi⟩ := he i xs[i] (List.getElem?_eq_getElem (by omega))
  exact ⟨cs, by rw [← hk]; exact hc, hm i cs _ y (List.getElem?_eq_getElem (by omega)) hy hi⟩
structure ViewAt (B : Nat) (w : World) (v : Value) (hds : List Hd) (sns : List Sn) (lab : Nat → Nat) : Prop where
  row : Own hdLay 74 B Nn w v hds
  len : hds.length = sns.length
  own0 : ∀ g, v.ownBlock = some g → lab g = 0
  name : ∀ (i : Nat) h s, hds[i]? = some h → sns[i]? = some s → h.name = s.type.name ∧ h.own = s.own
  fs : ∀ (i : Nat) h s, hds[i]? = some h → sns[i]? = some s → Own fldLay 118 B Nn w h.fv s.type.fields ∧ ∀ g, h.fv.ownBlock = some g → lab g = 2 * i + 1
  ns : ∀ (i : Nat) h s, hds[i]? = some h → sns[i]? = some s → Own strLay 9 B Nn w h.nv s.fields ∧ ∀ g, h.nv.ownBlock = some g → lab g = 2 * i + 2
section
variable {B : Nat} {w w1 : World} {v : Value} {hds : List Hd} {sns : List Sn} {lab : Nat → Nat}
theorem ViewAt.up (h : ViewAt B w v hds sns lab) (hu : Up w w1) : ViewAt B w1 v hds sns lab :=
  ⟨h.row.up hu, h.len, h.own0, h.name, fun i a s h1 h2 => ⟨(h.fs i a s h1 h2).1.up hu, (h.fs i a s h1 h2).2⟩, fun i a s h1 h2 => ⟨(h.ns i a s h1 h2).1.up hu, (h.ns i a s h1 h2).2⟩⟩
theorem ViewAt.nil (B : Nat) (w : World) (lab : Nat → Nat) : ViewAt B w (.slice none 0 0) [] [] lab := ⟨Own.nil _ _ _ _ _, rfl, fun g h => (by cases h), fun i h s h1 _ => (by simp at h1), fun i h s h1 _ => (by simp at h1), fun i h s h1 _ => (by simp at h1)⟩
theorem ViewAt.hd (h : ViewAt B w v hds sns lab) {i : Nat} {s : Sn} (hs : sns[i]? = some s) : ∃ a, hds[i]? = some a := by
  have := (List.getElem?_eq_some_iff.1 hs).1
  exact ⟨_, List.getElem?_eq_getElem (by rw [h.len]; exact this)⟩
theorem ViewAt.sn (h : ViewAt B w v hds sns lab) {i : Nat} {a : Hd} (ha : hds[i]? = some a) : ∃ s, sns[i]? = some s := by
  have := (List.getElem?_eq_some_iff.1 ha).1
  exact ⟨_, List.getElem?_eq_getElem (by rw [← h.len]; exact this)⟩
/-- one element, and the rows it leads to, are written -/
theorem ViewAt.step {lab' : Nat → Nat} (h : ViewAt B w v hds sns lab) {k : Nat} {s : Sn} (hs : sns[k]? = some s) (hd' : Hd) (s' : Sn) (hrow : Own hdLay 74 B Nn w1 v (hds.set k hd')) (hn : hd'.name = s'.type.name ∧ hd'.own = s'.own)
    (hlab : ∀ b, b < w.heap.size → lab' b = lab b) (hkeep : ∀ b, b < w.heap.size → lab b ≠ 0 → lab b ≠ 2 * k + 1 → lab b ≠ 2 * k + 2 → w1.heap[b]? = w.heap[b]?)
    (hf : Own fldLay 118 B Nn w1 hd'.fv s'.type.fields ∧ ∀ g, hd'.fv.ownBlock = some g → lab' g = 2 * k + 1) (hns : Own strLay 9 B Nn w1 hd'.nv s'.fields ∧ ∀ g, hd'.nv.ownBlock = some g → lab' g = 2 * k + 2) :
    ViewAt B w1 v (hds.set k hd') (sns.set k s') lab' := by
  have hlt := (List.getElem?_eq_some_iff.1 hs).1
  have hlt' : k < hds.length := by rw [h.len]; exact hlt
  refine ⟨hrow, by simp [h.len], fun g hg => by rw [hlab g (h.row.lt g hg).2]; exact h.own0 g hg, fun i a t h1 h2 => ?_, fun i a t h1 h2 => ?_, fun i a t h1 h2 => ?_⟩
  · by_cases hik : i = k
    · subst hik
      rw [List.getElem?_set_self hlt'] at h1
      rw [List.getElem?_set_self hlt] at h2
      cases h1; cases h2
      exact hn
    · rw [List.getElem?_set_ne (by omega)] at h1 h2
      exact h.name i a t h1 h2
  · by_cases hik : i = k
    · subst hik
      rw [List.getElem?_set_self hlt'] at h1
      rw [List.getElem?_set_self hlt] at h2
      cases h1; cases h2
      exact hf
    · rw [List.getElem?_set_ne (by omega)] at h1 h2
      obtain ⟨h3, h4⟩ := h.fs i a t h1 h2
      exact ⟨h3.keep (S' := fun b => lab b = 2 * i + 1) (fun b hb hlt => hkeep b hlt (by omega) (by omega) (by omega)) (fun _ h => h.elim) h4, fun g hg => by rw [hlab g (h3.lt g hg).2]; exact h4 g hg⟩
  · by_cases hik : i = k
    · subst hik
      rw [List.getElem?_set_self hlt'] at h1
      rw [List.getElem?_set_self hlt] at h2
      cases h1; cases h2
      exact hns
    · rw [List.getElem?_set_ne (by omega)] at h1 h2
      obtain ⟨h3, h4⟩ := h.ns i a t h1 h2
      exact ⟨h3.keep (S' := fun b => lab b = 2 * i + 2) (fun b hb hlt => hkeep b hlt (by omega) (by omega) (by omega)) (fun _ h => h.elim) h4, fun g hg => by rw [hlab g (h3.lt g hg).2]; exact h4 g hg⟩
/-- as a slice of what is seen -/
theorem ViewAt.seen (h : ViewAt B w v hds sns lab) : SliceOf snLay (fun k => B ≤ k ∧ k < w.heap.size) w v sns := by
  have h1 := (h.row.no (S' := Nn)).sl (S' := fun k => B ≤ k ∧ k < w.heap.size) (fun _ h _ _ => h.elim) (fun g hg => h.row.lt g hg)
  refine h1.map (M := snLay) rfl h.len.symm fun i cs a s ha hs hc => ?_
  obtain ⟨rfl, _, _⟩ := hc
  obtain ⟨hn1, hn2⟩ := h.name i a s ha hs
  have h2 := (h.fs i a s ha hs).1
  have h3 := (h.ns i a s ha hs).1
  exact ⟨a.fv, a.nv, by rw [hn1, hn2], (h2.no (S' := Nn)).sl (fun _ h _ _ => h.elim) (fun g hg => h2.lt g hg), (h3.no (S' := Nn)).sl (fun _ h _ _ => h.elim) (fun g hg => h3.lt g hg)⟩
end
end Go.Proofs.Ytgckpmcdlciibaa
