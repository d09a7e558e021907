/- The smaller of two numbers. -/
import Derived.Test.YtgckpmcdlciibabZB
namespace Go.Proofs.Ytgckpmcdlciibab
open Go.RowKit
theorem y_mulU {P : Program} {e : Env} {w : World} {t u ty : TypeId} {x y : Operand} {a b d : Int} (hx : e.ev x = some (.int .i64 a)) (hy : e.ev y = some (.int .i64 b)) (hd : a * b = d) (h1 : -9223372036854775808 ≤ d) (h2 : d ≤ 9223372036854775807) : Yld P (.binOp .mul t x y u) ty e w (.int .i64 d) :=
  y_arith .mul _ d hx hy rfl hd (wrap_i64 h1 h2) (by simp)
end Go.Proofs.Ytgckpmcdlciibab
