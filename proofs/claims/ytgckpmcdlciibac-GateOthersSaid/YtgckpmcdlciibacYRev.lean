/- Services turned round, one by one. -/
import Derived.Test.YtgckpmcdlciibacZB
import Derived.Test.YtgckpmcdlciibacZP
namespace Go.Proofs.Ytgckpmcdlciibac
open Go.RowKit
instance : OneC svcLay := ⟨by rintro S w cs x ⟨v1, v2, v3, rfl, ⟨a, n, rfl, _⟩, ⟨b, m, rfl, _⟩, c', m', rfl, _⟩ c hc; simp at hc; rcases hc with rfl | rfl | rfl <;> rfl⟩
theorem rev_snoc {l : List Svc} {n : Nat} (h : n < l.length) : (l.drop (l.length - (n + 1))).reverse = (l.drop (l.length - n)).reverse ++ [l[l.length - 1 - n]'(by omega)] := by
  have e : l.length - n = l.length - (n + 1) + 1 := by omega
  rw [List.drop_eq_getElem_cons (i := l.length - (n + 1)) (by omega), ← e, List.reverse_cons]
  congr 2
  simp only [Nat.sub_sub, Nat.add_comm]
end Go.Proofs.Ytgckpmcdlciibac
