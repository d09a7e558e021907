/- The walk of GateMeans. -/
import Derived.Test.YtgckpmcdlciibacZX
import Derived.Test.YtgckpmcdlciibacZ1
namespace Go.Proofs.Ytgckpmcdlciibac
open Go.RowKit
theorem run_means (m : Nat) (l : List Svc) (a : Ak) : (runM (m + 1) l a).2.2 = (meanM (m + 1) l a).2 ∧ (runM (m + 1) l a).1 = (meanM (m + 1) l a).1 ∧ ((runM (m + 1) l a).2.2 ≠ 0 → (runM (m + 1) l a).2.1 = []) := by
  unfold runM
  by_cases h0 : (meanM (m + 1) l a).2 = 0
  · rw [if_pos h0]
    obtain ⟨h1, hc, _⟩ := meanM_zero.1 h0
    obtain ⟨_, _, _, h4⟩ := checkM_zero.1 hc
    obtain ⟨k, t, hk, htk, htn, _⟩ := goes_ok h4
    have hp : partM (allM l).1 a.type = some t := by rw [← htn]; exact partM_at (wholeOk h1) htk
    rw [hp]
    exact ⟨h0.symm, rfl, fun h => absurd rfl h⟩
  · rw [if_neg h0]
    refine ⟨rfl, ?_, fun _ => rfl⟩
    unfold meanM at h0 ⊢
    by_cases h1 : (allM l).2.err = 0
    · rw [if_pos h1] at h0 ⊢
      by_cases h2 : checkM (m + 1) (allM l).1 a = 0
      · rw [if_pos h2] at h0 ⊢
        by_cases h3 : (semOf l (allM l).1).there a.type a.key = true
        · rw [if_pos h3] at h0
          exact absurd rfl h0
        · rw [if_neg h3]
      · rw [if_neg h2]
    · rw [if_neg h1]
end Go.Proofs.Ytgckpmcdlciibac
