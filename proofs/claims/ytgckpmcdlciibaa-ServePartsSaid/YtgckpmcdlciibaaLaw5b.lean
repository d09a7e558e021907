/- Plain laws of chapter 5: keys in two parts. -/
import Derived.Test.YtgckpmcdlciibaaLaw5
namespace Go.Proofs.Ytgckpmcdlciibaa
theorem strAt_sub {l l' : List Str} {s : Str} (h : ∀ x ∈ l, x ∈ l') (h0 : 0 ≤ strAt l s) : 0 ≤ strAt l' s := by
  obtain ⟨x, hx, he⟩ := List.any_eq_true.1 (firstIdx_nonneg_iff.1 h0)
  exact firstIdx_nonneg_iff.2 (List.any_eq_true.2 ⟨x, h x hx, he⟩)
theorem dup_take {kl : List Str} {n : Nat} (h : ∀ (j : Nat) y, kl[j]? = some y → dupErr kl j y = 0) : ∀ (j : Nat) y, (kl.take n)[j]? = some y → dupErr (kl.take n) j y = 0 := fun j y hj => by
  rw [List.getElem?_take] at hj
  split at hj
  · have := h j y hj
    unfold dupErr at this ⊢
    rw [List.take_take, Nat.min_eq_left (by omega)]
    exact this
  · cases hj
theorem dup_drop {kl : List Str} {n : Nat} (h : ∀ (j : Nat) y, kl[j]? = some y → dupErr kl j y = 0) : ∀ (j : Nat) y, (kl.drop n)[j]? = some y → dupErr (kl.drop n) j y = 0 := fun j y hj => by
  rw [List.getElem?_drop] at hj
  have := h (n + j) y hj
  unfold dupErr at this ⊢
  split at this
  · cases this
  · rename_i h1
    rw [if_neg fun h2 => h1 (strAt_sub (fun x hx => ?_) h2)]
    rw [List.take_drop] at hx
    exact List.mem_of_mem_drop hx
theorem rqTail_sub {fs : List Fld} {fl kl kl' : List Str} (h : rqTail fs fl kl = 0) (hk : ∀ (j : Nat) y, kl'[j]? = some y → dupErr kl' j y = 0) : rqTail fs fl kl' = 0 := by
  obtain ⟨h1, _⟩ := rqTail_zero h
  unfold rqTail
  rw [firstBad_none h1, firstBad_none hk]
theorem wrongRq_sub {l : List Svc} {q : Rq} {kl : List Str} (h : wrongRq l q = 0) (hk : ∀ (j : Nat) y, kl[j]? = some y → dupErr kl j y = 0) : wrongRq l ⟨q.service, q.type, kl, q.fields⟩ = 0 := by
  obtain ⟨s, t, h0, hs, h1, ht, htail⟩ := wrongRq_zero h
  rw [wrongRq_some (q := ⟨q.service, q.type, kl, q.fields⟩) (s := s) (Int.not_lt.2 h0) hs, if_neg (Int.not_lt.2 h1)]
  simp only [ht]
  exact rqTail_sub htail hk
theorem answerM_parts {l : List Svc} {q : Rq} (h : wrongRq l q = 0) (n : Nat) : (answerM l ⟨q.service, q.type, q.keys.take n, q.fields⟩).2 = 0 ∧ (answerM l ⟨q.service, q.type, q.keys.drop n, q.fields⟩).2 = 0 ∧
    (answerM l q).1 = ⟨(answerM l ⟨q.service, q.type, q.keys.take n, q.fields⟩).1.found ++ (answerM l ⟨q.service, q.type, q.keys.drop n, q.fields⟩).1.found, (answerM l ⟨q.service, q.type, q.keys.take n, q.fields⟩).1.vals ++ (answerM l ⟨q.service, q.type, q.keys.drop n, q.fields⟩).1.vals⟩ ∧ (answerM l q).2 = 0 := by
  obtain ⟨s, t, h0, hs, h1, ht, htail⟩ := wrongRq_zero h
  have hd := (rqTail_zero htail).2
  have h2 := wrongRq_sub h (dup_take (n := n) hd)
  have h3 := wrongRq_sub h (dup_drop (n := n) hd)
  unfold answerM
  rw [if_pos h, if_pos h2, if_pos h3]
  simp only [hs]
  refine ⟨trivial, trivial, ?_, trivial⟩
  have e1 : ∀ kl k, ansKey s ⟨q.service, q.type, kl, q.fields⟩ k = ansKey s q k := fun _ _ => rfl
  simp only [e1]
  rw [← List.map_append, ← List.map_append, List.take_append_drop]
theorem answerM_err {l : List Svc} {q : Rq} (h : ¬ (answerM l q).2 = 0) : (answerM l q).1 = ⟨[], []⟩ := by
  unfold answerM at h ⊢
  split
  · rename_i h1
    rw [if_pos h1] at h
    split
    · rfl
    · rename_i h2
      rw [h2] at h
      exact absurd rfl h
  · rfl
theorem answerM_count {l : List Svc} {q : Rq} (h : (answerM l q).2 = 0) : (answerM l q).1.found.length = q.keys.length ∧ (answerM l q).1.vals.length = q.keys.length := by
  unfold answerM at h ⊢
  split at h
  · rename_i h1
    rw [if_pos h1]
    split at h
    · cases h
    · rename_i s hs
      simp only [hs, List.length_map]
      exact ⟨trivial, trivial⟩
  · rename_i h1
    exact absurd h h1
theorem answerM_ok {l : List Svc} {q : Rq} (h : (answerM l q).2 = 0) : wrongRq l q = 0 := by
  unfold answerM at h
  split at h
  · assumption
  · rename_i h1
    exact absurd h h1
end Go.Proofs.Ytgckpmcdlciibaa
