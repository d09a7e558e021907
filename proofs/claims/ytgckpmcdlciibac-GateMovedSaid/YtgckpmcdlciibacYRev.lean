/- Services turned round, one by one. -/
import Derived.Test.YtgckpmcdlciibacZB
import Derived.Test.YtgckpmcdlciibacZP
namespace Go.Proofs.Ytgckpmcdlciibac
open Go.RowKit
instance : OneC svcLay := ⟨by rintro S w cs x ⟨v1, v2, v3, rfl, ⟨a, n, rfl, _⟩, ⟨b, m, rfl, _⟩, c', m', rfl, _⟩ c hc; simp at hc; rcases hc with rfl | rfl | rfl <;> rfl⟩
end Go.Proofs.Ytgckpmcdlciibac
