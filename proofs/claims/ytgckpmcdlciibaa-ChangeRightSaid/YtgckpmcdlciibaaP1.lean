/- Plain laws of chapter 1: what is right with a schema stays right when a type is added behind. -/
import Derived.Test.YtgckpmcdlciibaaL2
namespace Go.Proofs.Ytgckpmcdlciibaa
theorem firstIdx_app_old {α : Type} {l r : List α} {p : α → Bool} (h : 0 ≤ firstIdx l p) : firstIdx (l ++ r) p = firstIdx l p := by
  obtain ⟨i, x, h1, h2, h3, h4⟩ := firstIdx_lt h
  rw [h1]
  have hall : ∀ (j : Nat) y, j < i → l[j]? = some y → p y = false := by
    intro j y hj hy
    have h5 := h1
    unfold firstIdx at h5
    cases hf : l.findIdx? p with
    | none => rw [hf] at h5; simp at h5
    | some k =>
      rw [hf] at h5
      simp only [Int.natCast_inj] at h5
      subst h5
      rw [List.findIdx?_eq_some_iff_getElem] at hf
      obtain ⟨hlt, _, hno⟩ := hf
      obtain ⟨hj2, rfl⟩ := List.getElem?_eq_some_iff.1 hy
      simpa using hno j hj
  exact firstIdx_hit (by rw [List.getElem?_append_left h4]; exact h2) h3 fun j y hj hy => hall j y hj (by rwa [List.getElem?_append_left (by omega)] at hy)
theorem firstIdx_app_new {α : Type} {l : List α} {x : α} {p : α → Bool} (h : ¬ 0 ≤ firstIdx l p) (hx : p x = true) : firstIdx (l ++ [x]) p = l.length := by
  refine firstIdx_hit (x := x) (by simp) hx fun j y hj hy => ?_
  rw [List.getElem?_append_left hj] at hy
  cases hp : p y with
  | false => rfl
  | true =>
    refine absurd (firstIdx_nonneg_iff.2 ?_) h
    exact List.any_eq_true.2 ⟨y, List.mem_of_getElem? hy, hp⟩
theorem fieldErr_app {l r : List Typ} {fs : List Fld} {i : Nat} {f : Fld} (h : fieldErr l fs i f = 0) : fieldErr (l ++ r) fs i f = 0 := by
  unfold fieldErr at h ⊢
  repeat' split at h
  all_goals (first | omega | skip)
  · rename_i h1 h2 h3 h4
    rw [if_pos h1, if_neg h2, if_pos h3, if_pos h4]
  · rename_i h1 h2 h3 h4
    rw [if_pos h1, if_neg h2, if_neg h3, if_neg]
    rwa [show findT (l ++ r) f.type = findT l f.type from firstIdx_app_old (by unfold findT at h4; omega)]
theorem firstBad_zero {α : Type} {g : Nat → α → Int} {l : List α} (h : (match firstBad g 0 l with | some (_, e) => e | none => 0) = 0) : ∀ (j : Nat) y, l[j]? = some y → g j y = 0 := by
  cases hf : firstBad g 0 l with
  | none => exact fun j y hy => by have := firstBad_eq_none hf j y hy; rwa [Nat.zero_add] at this
  | some q =>
    obtain ⟨i, e⟩ := q
    rw [hf] at h
    obtain ⟨_, _, _, _, _, hne, _⟩ := firstBad_some hf
    exact absurd h hne
theorem fieldsErr_ok {l : List Typ} {t : Typ} : fieldsErr l t = 0 ↔ ¬ 10 < t.fields.length ∧ ∀ (j : Nat) y, t.fields[j]? = some y → fieldErr l t.fields j y = 0 := by
  unfold fieldsErr
  constructor
  · intro h
    split at h
    · cases h
    · rename_i hl
      exact ⟨hl, firstBad_zero h⟩
  · rintro ⟨h1, h2⟩
    rw [if_neg h1, firstBad_none h2]
theorem fieldsErr_app {l r : List Typ} {t : Typ} (h : fieldsErr l t = 0) : fieldsErr (l ++ r) t = 0 := by
  rw [fieldsErr_ok] at h ⊢
  exact ⟨h.1, fun j y hy => fieldErr_app (h.2 j y hy)⟩
theorem wrongT_ok {l : List Typ} : (wrongT l).err = 0 ↔ ¬ 8 < l.length ∧ (∀ (j : Nat) t, l[j]? = some t → nameErr l j t = 0) ∧ ∀ (j : Nat) t, l[j]? = some t → fieldsErr l t = 0 := by
  unfold wrongT
  constructor
  · intro h
    split at h
    · cases h
    rename_i hl
    cases hf : firstBad (nameErr l) 0 l with
    | some q =>
      rw [hf] at h
      obtain ⟨i, e⟩ := q
      obtain ⟨_, _, _, _, _, hne, _⟩ := firstBad_some hf
      exact absurd h hne
    | none =>
      rw [hf] at h
      cases hf2 : firstBad (fun _ t => fieldsErr l t) 0 l with
      | some q =>
        rw [hf2] at h
        obtain ⟨i, e⟩ := q
        obtain ⟨_, _, _, _, _, hne, _⟩ := firstBad_some hf2
        exact absurd h hne
      | none =>
        exact ⟨hl, fun j y hy => by have := firstBad_eq_none hf j y hy; rwa [Nat.zero_add] at this, fun j y hy => firstBad_eq_none hf2 j y hy⟩
  · rintro ⟨h1, h2, h3⟩
    rw [if_neg h1, firstBad_none h2, firstBad_none h3]
theorem wrongT_more {l : List Typ} {n : Str} (h : (wrongT l).err = 0) (hlen : l.length < 8) (hn : named n = true) (hf : ¬ 0 ≤ findT l n) : (wrongT (l ++ [⟨n, []⟩])).err = 0 := by
  rw [wrongT_ok] at h ⊢
  obtain ⟨_, h2, h3⟩ := h
  refine ⟨by simp; omega, fun j t hj => ?_, fun j t hj => ?_⟩
  · unfold nameErr
    by_cases hlt : j < l.length
    · rw [List.getElem?_append_left hlt] at hj
      rw [List.take_append_of_le_length (by omega)]
      exact h2 j t hj
    · have hj2 : j = l.length := by have := (List.getElem?_eq_some_iff.1 hj).1; simp at this; omega
      subst hj2
      simp at hj
      subst hj
      rw [List.take_left, if_pos ⟨hn, hf⟩]
  · by_cases hlt : j < l.length
    · rw [List.getElem?_append_left hlt] at hj
      exact fieldsErr_app (h3 j t hj)
    · have hj2 : j = l.length := by have := (List.getElem?_eq_some_iff.1 hj).1; simp at this; omega
      subst hj2
      simp at hj
      subst hj
      exact fieldsErr_ok.2 ⟨by simp, fun j y hy => by simp at hy⟩
theorem findT_more {l : List Typ} {n : Str} (hf : ¬ 0 ≤ findT l n) : findT (l ++ [⟨n, []⟩]) n = l.length := firstIdx_app_new hf (by simp)
theorem thgErr_app {l r : List Typ} {xs : List Thg} {i : Nat} {x : Thg} (h : thgErr l xs i x = 0) : thgErr (l ++ r) xs i x = 0 := by
  unfold thgErr at h ⊢
  split at h
  · cases h
  rename_i h1
  have he : findT (l ++ r) x.type = findT l x.type := firstIdx_app_old (by unfold findT at h1; omega)
  obtain ⟨j, t, hj, htj, _, hlt⟩ := findT_get h1
  rw [he, if_neg h1]
  split at h
  · rename_i h2
    rw [if_pos h2]
    rw [hj] at h ⊢
    rw [Int.toNat_natCast] at h ⊢
    rwa [List.getElem?_append_left hlt]
  · cases h
theorem thgsErr_ok {l : List Typ} {xs : List Thg} : (thgsErr l xs).err = 0 ↔ ¬ 60 < xs.length ∧ ∀ (j : Nat) x, xs[j]? = some x → thgErr l xs j x = 0 := by
  unfold thgsErr
  constructor
  · intro h
    split at h
    · cases h
    rename_i hl
    cases hf : firstBad (thgErr l xs) 0 xs with
    | some q =>
      rw [hf] at h
      obtain ⟨i, e⟩ := q
      obtain ⟨_, _, _, _, _, hne, _⟩ := firstBad_some hf
      exact absurd h hne
    | none => exact ⟨hl, fun j y hy => by have := firstBad_eq_none hf j y hy; rwa [Nat.zero_add] at this⟩
  · rintro ⟨h1, h2⟩
    rw [if_neg h1, firstBad_none h2]
theorem thgsErr_app {l r : List Typ} {xs : List Thg} (h : (thgsErr l xs).err = 0) : (thgsErr (l ++ r) xs).err = 0 := by
  rw [thgsErr_ok] at h ⊢
  exact ⟨h.1, fun j x hx => thgErr_app (h.2 j x hx)⟩
end Go.Proofs.Ytgckpmcdlciibaa
