/- Plain laws of chapter 5: how many values an answer has. -/
import Derived.Test.YtgckpmcdlciibaaMod3
namespace Go.Proofs.Ytgckpmcdlciibaa
theorem hits_le (x : VVal) : ∀ (fs : List Str), fs.Nodup → (fs.filter fun f => decide (x.field = f)).length ≤ 1
  | [], _ => by simp
  | f :: r, h => by
    obtain ⟨h1, h2⟩ := List.nodup_cons.1 h
    rw [List.filter_cons]
    by_cases hx : x.field = f
    · have : (r.filter fun f => decide (x.field = f)) = [] := List.filter_eq_nil_iff.2 fun g hg hd => h1 (by rw [← hx, of_decide_eq_true hd]; exact hg)
      simp [hx]
      subst hx
      simpa using this
    · simp only [decide_eq_true_eq, hx, if_false]
      exact hits_le x r h2
theorem flat_le (fs : List Str) (h : fs.Nodup) : ∀ l : List VVal, (fs.flatMap fun f => l.filter fun v => decide (v.field = f)).length ≤ l.length
  | [] => by
    have : (fs.flatMap fun f => ([] : List VVal).filter fun v => decide (v.field = f)) = [] := List.flatMap_eq_nil_iff.2 fun _ _ => rfl
    rw [this]
    exact Nat.le_refl _
  | x :: l => by
    have ih := flat_le fs h l
    have h1 : (fs.flatMap fun f => (x :: l).filter fun v => decide (v.field = f)).length = (fs.filter fun f => decide (x.field = f)).length + (fs.flatMap fun f => l.filter fun v => decide (v.field = f)).length := by
      clear h ih
      induction fs with
      | nil => simp
      | cons f fs ih =>
        rw [List.flatMap_cons, List.flatMap_cons, List.length_append, List.length_append, ih, List.filter_cons, List.filter_cons]
        by_cases hx : x.field = f
        · simp [hx]; omega
        · simp [hx]; omega
    rw [h1]
    have := hits_le x fs h
    simp only [List.length_cons]
    omega
theorem nodup_of_dup {l : List Str} (h : ∀ (j : Nat) y, l[j]? = some y → ¬ 0 ≤ strAt (l.take j) y) : l.Nodup := by
  rw [List.nodup_iff_pairwise_ne, List.pairwise_iff_getElem]
  intro i j hi hj hij he
  refine h j l[j] (List.getElem?_eq_getElem hj) (firstIdx_nonneg_iff.2 (List.any_eq_true.2 ⟨l[i], ?_, decide_eq_true he⟩))
  exact List.mem_of_getElem? (i := i) (by rw [List.getElem?_take, if_pos hij]; exact List.getElem?_eq_getElem hi)
theorem rqTail_nodup {fs : List Fld} {fl kl : List Str} (h : rqTail fs fl kl = 0) : fl.Nodup := nodup_of_dup fun j y hj hc => by
  have := (rqTail_zero h).1 j y hj
  unfold rqErr at this
  split at this
  · cases this
  · cases this
theorem part_le {fs : List Str} (h : fs.Nodup) {j : Nat} (hj : j < fs.length) (l : List VVal) (m : Nat) :
    ((fs.take j).flatMap (fun f => l.filter fun v => decide (v.field = f)) ++ (l.take m).filter fun v => decide (v.field = fs[j])).length ≤ l.length := by
  have h1 := flat_le (fs.take (j + 1)) (h.sublist (List.take_sublist _ _)) l
  rw [List.take_succ_eq_append_getElem hj, List.flatMap_append, List.length_append] at h1
  rw [List.length_append]
  have h2 : ((l.take m).filter fun v => decide (v.field = fs[j])).length ≤ (l.filter fun v => decide (v.field = fs[j])).length := List.Sublist.length_le ((List.take_sublist m l).filter _)
  simp only [List.flatMap_cons, List.flatMap_nil, List.append_nil] at h1
  omega
end Go.Proofs.Ytgckpmcdlciibaa
