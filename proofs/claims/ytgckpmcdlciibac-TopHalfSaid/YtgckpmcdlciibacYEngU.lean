/- The smaller of two numbers. -/
import Derived.Test.YtgckpmcdlciibacZB
namespace Go.Proofs.Ytgckpmcdlciibac
open Go.RowKit
theorem y_min {P : Program} {e : Env} {w : World} {t ty : TypeId} {x y : Operand} {a b d : Nat} (hx : e.ev x = some (.int .i64 (a : Int))) (hy : e.ev y = some (.int .i64 (b : Int))) (hd : d = if a ≤ b then a else b) : Yld P (.call { callee := .builtin .min, args := #[x, y], argTypes := #[t, t] }) ty e w (.int .i64 (d : Int)) := Yld.mk fun ρ hρ => by
  rcases Nat.lt_or_ge b a with h | h
  · rw [if_neg (by omega)] at hd
    subst hd
    have h' : (d : Int) < (a : Int) := by omega
    simp [xop, execOp, hρ x _ hx, hρ y _ hy, resolve, invoke, builtin, Builtin.min_, Builtin.min2, h]
  · rw [if_pos h] at hd
    subst hd
    simp [xop, execOp, hρ x _ hx, hρ y _ hy, resolve, invoke, builtin, Builtin.min_, Builtin.min2, Nat.not_lt.2 h]
end Go.Proofs.Ytgckpmcdlciibac
