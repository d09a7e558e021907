/- Contracts of chapter 5: a service's thing; what is wrong with a request. -/
import Derived.Test.YtgckpmcdlciibabZK
import Derived.Test.YtgckpmcdlciibabZF
namespace Go.Proofs.Ytgckpmcdlciibab
open Go.RowKit
set_option maxHeartbeats 400000 in
theorem thingAt_neg' {l : List Thg} {t k : Str} (h : thingAt l t k < 0) : thingAt l t k = -1 := firstIdx_neg (l := l) (p := fun x => decide (x.type = t ∧ x.key = k)) (by unfold thingAt at h; omega)
end Go.Proofs.Ytgckpmcdlciibab
