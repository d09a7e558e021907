/- Contracts of chapter 2: what is seen behind changes. -/
import Derived.Test.YtgckpmcdlciibaaC33
namespace Go.Proofs.Ytgckpmcdlciibaa
open Go.RowKit
section
variable {B n1 : Nat} {w0 w w1 : World} {v v' : Value} {hds : List Hd} {sns : List Sn} {lab : Nat → Nat}
/-- one element more -/
theorem ViewAt.push (h : ViewAt B w0 v hds sns lab) (hu : Up w0 w) (a : Hd) (s : Sn) (hB : B ≤ w0.heap.size) (hF : Own fldLay 118 w0.heap.size Nn w a.fv s.type.fields) (hN : Own strLay 9 n1 Nn w a.nv s.fields) (h01 : w0.heap.size ≤ n1) (hFN : ∀ g, a.fv.ownBlock = some g → g < n1)
    (hrow : Own hdLay 74 B Nn w1 v' (hds ++ [a])) (hg : w.grownBy w1 v.ownBlock) (hv : ∀ g, v'.ownBlock = some g → v.ownBlock = some g ∨ g = w.heap.size) (hn : a.name = s.type.name ∧ a.own = s.own) : ∃ lab', ViewAt B w1 v' (hds ++ [a]) (sns ++ [s]) lab' := by
  have hs0 := hu.size
  have hvl := h.row.lt
  refine ⟨fun b => if b < w0.heap.size then lab b else if some b = a.fv.ownBlock then 2 * hds.length + 1 else if some b = a.nv.ownBlock then 2 * hds.length + 2 else 0, hrow, by simp [h.len], fun g hg' => ?_, fun i x t h1 h2 => ?_, fun i x t h1 h2 => ?_, fun i x t h1 h2 => ?_⟩
  · rcases hv g hg' with h1 | h1
    · simp only [if_pos (hvl g h1).2]
      exact h.own0 g h1
    · subst h1
      simp only [if_neg (show ¬ w.heap.size < w0.heap.size by omega)]
      rw [if_neg fun e => by have := (hF.lt _ e.symm).2; omega, if_neg fun e => by have := (hN.lt _ e.symm).2; omega]
  · by_cases hlt : i < hds.length
    · rw [List.getElem?_append_left hlt] at h1
      rw [List.getElem?_append_left (by rw [← h.len]; exact hlt)] at h2
      exact h.name i x t h1 h2
    · have hi : i = hds.length := by have := (List.getElem?_eq_some_iff.1 h1).1; simp at this; omega
      subst hi
      rw [h.len] at h2
      simp at h1 h2
      subst h1; subst h2
      exact hn
  · by_cases hlt : i < hds.length
    · rw [List.getElem?_append_left hlt] at h1
      rw [List.getElem?_append_left (by rw [← h.len]; exact hlt)] at h2
      obtain ⟨h3, h4⟩ := h.fs i x t h1 h2
      refine ⟨(h3.up hu).grown hg (fun _ h => h.elim) (fun g hg' e => ?_), fun g hg' => ?_⟩
      · have h5 := h4 g hg'
        have h6 := h.own0 g e.symm
        omega
      · simp only [if_pos (h3.lt g hg').2]
        exact h4 g hg'
    · have hi : i = hds.length := by have := (List.getElem?_eq_some_iff.1 h1).1; simp at this; omega
      subst hi
      rw [h.len] at h2
      simp at h1 h2
      subst h1; subst h2
      refine ⟨(hF.base hB).grown hg (fun _ h => h.elim) (fun g hg' e => ?_), fun g hg' => ?_⟩
      · have h5 := (hF.lt g hg').1
        have h6 := (hvl g e.symm).2
        omega
      · have h5 := (hF.lt g hg').1
        simp only [if_neg (show ¬ g < w0.heap.size by omega), hg', if_true]
  · by_cases hlt : i < hds.length
    · rw [List.getElem?_append_left hlt] at h1
      rw [List.getElem?_append_left (by rw [← h.len]; exact hlt)] at h2
      obtain ⟨h3, h4⟩ := h.ns i x t h1 h2
      refine ⟨(h3.up hu).grown hg (fun _ h => h.elim) (fun g hg' e => ?_), fun g hg' => ?_⟩
      · have h5 := h4 g hg'
        have h6 := h.own0 g e.symm
        omega
      · simp only [if_pos (h3.lt g hg').2]
        exact h4 g hg'
    · have hi : i = hds.length := by have := (List.getElem?_eq_some_iff.1 h1).1; simp at this; omega
      subst hi
      rw [h.len] at h2
      simp at h1 h2
      subst h1; subst h2
      refine ⟨(hN.base (by omega)).grown hg (fun _ h => h.elim) (fun g hg' e => ?_), fun g hg' => ?_⟩
      · have h5 := (hN.lt g hg').1
        have h6 := (hvl g e.symm).2
        omega
      · have h5 := (hN.lt g hg').1
        simp only [if_neg (show ¬ g < w0.heap.size by omega)]
        rw [if_neg fun e => by have := hFN g e.symm; omega, hg', if_pos rfl]
end
theorem seeInit_flat (l : List Typ) : ∀ s ∈ seeInit l, s.fields.length = s.type.fields.length := fun s hs => by
  obtain ⟨t, _, rfl⟩ := List.mem_map.1 hs
  simp
theorem doV_flat {v : List Sn} {c : Chg} (h : ∀ s ∈ v, s.fields.length = s.type.fields.length) : ∀ s ∈ (doV v c).2, s.fields.length = s.type.fields.length := by
  have hm : ∀ (k : Nat) (f : Sn → Sn), (∀ s, s.fields.length = s.type.fields.length → (f s).fields.length = (f s).type.fields.length) → ∀ s ∈ v.modify k f, s.fields.length = s.type.fields.length := fun k f hf s hs => by
    obtain ⟨i, hi⟩ := List.getElem?_of_mem hs
    rw [List.getElem?_modify] at hi
    cases hv : v[i]? with
    | none => rw [hv] at hi; simp at hi
    | some x =>
      rw [hv] at hi
      have hx := h x (List.mem_of_getElem? hv)
      simp only [Option.map_eq_map, Option.map_some, Option.some.injEq] at hi
      split at hi
      · rw [← hi]; exact hf x hx
      · rw [← hi]; exact hx
  unfold doV
  split
  · exact h
  split
  · exact h
  split
  · split
    · intro s hs
      simp only [callV] at hs
      split at hs
      · exact h s hs
      · rename_i s0 hs0
        obtain ⟨t, ht, rfl⟩ := List.mem_map.1 hs
        have ht2 : t.fields.length = t.type.fields.length := by
          obtain ⟨i, hi⟩ := List.getElem?_of_mem ht
          rw [List.getElem?_set] at hi
          split at hi
          · split at hi
            · simp only [Option.some.injEq] at hi
              rw [← hi]
              exact h s0 (List.mem_of_getElem? hs0)
            · cases hi
          · exact h t (List.mem_of_getElem? hi)
        simpa [reS] using ht2
    · exact h
  split
  · exact h
  rename_i s hs
  split
  · exact h
  split
  · refine hm _ _ fun t ht => ?_
    simp only [hideS, List.length_eraseIdx, ht]
  split
  · refine hm _ _ fun t ht => ?_
    simpa [fieldS] using ht
  · exact h
end Go.Proofs.Ytgckpmcdlciibaa
