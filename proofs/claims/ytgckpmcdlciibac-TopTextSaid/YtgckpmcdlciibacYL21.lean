/- The closed fact of chapter 6. -/
import Derived.Test.YtgckpmcdlciibacYL20
namespace Go.Proofs.Ytgckpmcdlciibac
open Go.RowKit
theorem pckLay_intro {n : Nat} {S : Nat → Prop} {w : World} {v : Value} {p : Pck} (h : SliceOf (pckLay n) S w v p.picks) : (pckLay (n + 1)).is S w [.string p.as, .string p.field, v] p := by
  obtain ⟨a, c, rfl, h1, h2, h3⟩ := h
  exact ⟨a, c, rfl, h1, h2, h3⟩
end Go.Proofs.Ytgckpmcdlciibac
