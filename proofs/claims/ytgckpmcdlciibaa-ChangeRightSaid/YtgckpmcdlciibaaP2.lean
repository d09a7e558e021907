/- Plain laws of chapter 2: what is seen of a right schema is a right schema. -/
import Derived.Test.YtgckpmcdlciibaaP1
import Derived.Test.YtgckpmcdlciibaaMod4
namespace Go.Proofs.Ytgckpmcdlciibaa
structure RightF (ns : List Str) (fs : List Fld) : Prop where
  len : fs.length ≤ 10
  each : ∀ f ∈ fs, named f.name = true ∧ 1 ≤ f.kind ∧ f.kind ≤ 3 ∧ (f.kind = 1 → f.type = ⟨#[]⟩) ∧ (f.kind ≠ 1 → f.type ∈ ns)
  nodup : (fs.map (·.name)).Nodup
structure Right (ts : List Typ) : Prop where
  len : ts.length ≤ 8
  names : ∀ t ∈ ts, named t.name = true
  nodup : (ts.map (·.name)).Nodup
  fields : ∀ t ∈ ts, RightF (ts.map (·.name)) t.fields
theorem find_mem {α : Type} {l : List α} {g : α → Str} {n : Str} : 0 ≤ firstIdx l (fun x => decide (g x = n)) ↔ n ∈ l.map g := by
  rw [firstIdx_nonneg_iff, List.any_eq_true, List.mem_map]
  constructor
  · rintro ⟨x, hx, he⟩
    exact ⟨x, hx, of_decide_eq_true he⟩
  · rintro ⟨x, hx, he⟩
    exact ⟨x, hx, decide_eq_true he⟩
theorem nodup_take {α : Type} {l : List α} {g : α → Str} : (∀ (j : Nat) x, l[j]? = some x → ¬ g x ∈ (l.take j).map g) ↔ (l.map g).Nodup := by
  rw [List.nodup_iff_pairwise_ne, List.pairwise_iff_getElem]
  constructor
  · intro h i j hi hj hij he
    simp only [List.length_map] at hi hj
    refine h j l[j] (List.getElem?_eq_getElem hj) (List.mem_map.2 ⟨l[i], List.mem_of_getElem? (i := i) ?_, by simpa using he⟩)
    rw [List.getElem?_take, if_pos hij]
    exact List.getElem?_eq_getElem hi
  · intro h j x hx hm
    obtain ⟨y, hy, he⟩ := List.mem_map.1 hm
    obtain ⟨i, hi⟩ := List.getElem?_of_mem hy
    rw [List.getElem?_take] at hi
    split at hi
    · rename_i hij
      obtain ⟨h1, rfl⟩ := List.getElem?_eq_some_iff.1 hi
      obtain ⟨h2, rfl⟩ := List.getElem?_eq_some_iff.1 hx
      exact h i j (by simpa using h1) (by simpa using h2) hij (by simpa using he)
    · cases hi
theorem fieldErr_iff {l : List Typ} {fs : List Fld} {i : Nat} {f : Fld} : fieldErr l fs i f = 0 ↔ (named f.name = true ∧ ¬ f.name ∈ (fs.take i).map (·.name)) ∧ 1 ≤ f.kind ∧ f.kind ≤ 3 ∧ (f.kind = 1 → f.type = ⟨#[]⟩) ∧ (f.kind ≠ 1 → f.type ∈ l.map (·.name)) := by
  have e1 : 0 ≤ fieldF (fs.take i) f.name ↔ f.name ∈ (fs.take i).map (·.name) := find_mem
  have e2 : 0 ≤ findT l f.type ↔ f.type ∈ l.map (·.name) := find_mem
  unfold fieldErr
  rw [← e1, ← e2]
  by_cases h1 : named f.name = true ∧ ¬ 0 ≤ fieldF (fs.take i) f.name
  · rw [if_pos h1]
    by_cases h2 : f.kind < 1 ∨ 3 < f.kind
    · rw [if_pos h2]
      constructor
      · intro h; cases h
      · rintro ⟨_, h3, h4, _⟩; omega
    rw [if_neg h2]
    by_cases h3 : f.kind = 1
    · rw [if_pos h3]
      constructor
      · intro h
        split at h
        · exact ⟨h1, by omega, by omega, fun _ => by assumption, fun h => absurd h3 h⟩
        · cases h
      · rintro ⟨_, _, _, h4, _⟩
        rw [if_pos (h4 h3)]
    · rw [if_neg h3]
      constructor
      · intro h
        split at h
        · cases h
        · exact ⟨h1, by omega, by omega, fun h => absurd h h3, fun _ => by omega⟩
      · rintro ⟨_, _, _, _, h4⟩
        rw [if_neg (by have := h4 h3; omega)]
  · rw [if_neg h1]
    constructor
    · intro h; cases h
    · rintro ⟨h, _⟩; exact absurd h h1
theorem nameErr_iff {l : List Typ} {i : Nat} {t : Typ} : nameErr l i t = 0 ↔ named t.name = true ∧ ¬ t.name ∈ (l.take i).map (·.name) := by
  have e1 : 0 ≤ findT (l.take i) t.name ↔ t.name ∈ (l.take i).map (·.name) := find_mem
  unfold nameErr
  rw [← e1]
  split
  · rename_i h; simp [h]
  · rename_i h
    constructor
    · intro h; cases h
    · intro h2; exact absurd h2 h
theorem rightF_iff {l : List Typ} {t : Typ} : fieldsErr l t = 0 ↔ RightF (l.map (·.name)) t.fields := by
  rw [fieldsErr_ok]
  constructor
  · rintro ⟨h1, h2⟩
    refine ⟨by omega, fun f hf => ?_, nodup_take.1 fun j x hx => (fieldErr_iff.1 (h2 j x hx)).1.2⟩
    obtain ⟨j, hj⟩ := List.getElem?_of_mem hf
    have := fieldErr_iff.1 (h2 j f hj)
    exact ⟨this.1.1, this.2⟩
  · rintro ⟨h1, h2, h3⟩
    refine ⟨by omega, fun j y hy => fieldErr_iff.2 ⟨⟨(h2 y (List.mem_of_getElem? hy)).1, nodup_take.2 h3 j y hy⟩, (h2 y (List.mem_of_getElem? hy)).2⟩⟩
theorem right_iff {l : List Typ} : (wrongT l).err = 0 ↔ Right l := by
  rw [wrongT_ok]
  constructor
  · rintro ⟨h1, h2, h3⟩
    refine ⟨by omega, fun t ht => ?_, nodup_take.1 fun j x hx => (nameErr_iff.1 (h2 j x hx)).2, fun t ht => ?_⟩
    · obtain ⟨j, hj⟩ := List.getElem?_of_mem ht
      exact (nameErr_iff.1 (h2 j t hj)).1
    · obtain ⟨j, hj⟩ := List.getElem?_of_mem ht
      exact rightF_iff.1 (h3 j t hj)
  · rintro ⟨h1, h2, h3, h4⟩
    exact ⟨by omega, fun j t hj => nameErr_iff.2 ⟨h2 t (List.mem_of_getElem? hj), nodup_take.2 h3 j t hj⟩, fun j t hj => rightF_iff.2 (h4 t (List.mem_of_getElem? hj))⟩
theorem wrongT_at {l : List Typ} (h : (wrongT l).err = 0) : wrongT l = ⟨0, 0⟩ := by
  have hk := wrongT_ok.1 h
  unfold wrongT
  rw [if_neg hk.1, firstBad_none hk.2.1, firstBad_none hk.2.2]
end Go.Proofs.Ytgckpmcdlciibaa
