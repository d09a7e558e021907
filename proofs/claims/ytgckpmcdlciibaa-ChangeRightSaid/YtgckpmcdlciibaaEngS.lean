/- Slices cut: x[i:], x[i:j]; what lies in them. -/
import Derived.Test.YtgckpmcdlciibaaEngD
namespace Go.Proofs.Ytgckpmcdlciibaa
open Go.RowKit
def dropV (a : Option Addr) (n c i k : Nat) : Value := .slice (if c = i then a else a.map fun x => x.add (i * k)) (n - i) (c - i)
section
variable {P : Program} {e : Env} {w : World} {ty : TypeId} {t el : TypeId} {x y z : Operand} {a : Option Addr} {n c : Nat}
/-- x[i:] -/
theorem y_sliceLo {i k : Nat} [Sli P t el] [Siz P el k] (hx : e.ev x = some (.slice a n c)) (hy : e.ev y = some (.int .i64 (i : Int))) (hi : i ≤ n) (hnc : n ≤ c) : Yld P (.slice t x (some y) none none) ty e w (dropV a n c i k) := Yld.mk fun ρ hρ => by
  have h1 := run_underlying (Sli.h (P := P) (t := t) (el := el)) w
  have h2 := Siz.run P el (k := k) w
  have h3 : (i : Int) ≤ c := by omega
  have h4 : (i : Int) ≤ n := by omega
  have h5 : (n : Int) ≤ c := by omega
  unfold dropV
  simp [xop, execOp, hρ x _ hx, hρ y _ hy, Instr.sliceAt, Instr.slice, h1, h2, Instr.sliceBounds, Instr.sliceBound, asIntOf]
  intro hh
  omega
/-- x[i:j] -/
theorem y_slice2 {i j k : Nat} [Sli P t el] [Siz P el k] (hx : e.ev x = some (.slice a n c)) (hy : e.ev y = some (.int .i64 (i : Int))) (hz : e.ev z = some (.int .i64 (j : Int))) (hi : i ≤ j) (hjc : j ≤ c) : Yld P (.slice t x (some y) (some z) none) ty e w (dropV a j c i k) := Yld.mk fun ρ hρ => by
  have h1 := run_underlying (Sli.h (P := P) (t := t) (el := el)) w
  have h2 := Siz.run P el (k := k) w
  unfold dropV
  simp [xop, execOp, hρ x _ hx, hρ y _ hy, hρ z _ hz, Instr.sliceAt, Instr.slice, h1, h2, Instr.sliceBounds, Instr.sliceBound, asIntOf]
  rw [if_pos hjc]
  try rw [if_pos hi]
  try (intro hh; omega)
end
theorem SliceOf.drop {α : Type} {L : Lay α} {S : Nat → Prop} {w : World} {a : Option Addr} {n c : Nat} {xs : List α} (h : SliceOf L S w (.slice a n c) xs) {i : Nat} (hi : i ≤ n) : SliceOf L S w (dropV a n c i L.k) (xs.drop i) := by
  obtain ⟨a', c', e, h1, h2, h3⟩ := h
  simp only [Value.slice.injEq] at e
  obtain ⟨rfl, rfl, rfl⟩ := e
  have hlen : (xs.drop i).length = xs.length - i := by simp
  refine ⟨_, c - i, by rw [hlen]; rfl, by omega, by omega, fun hp => ?_⟩
  obtain ⟨b, o, rfl, hb, he⟩ := h3 (by omega)
  refine ⟨b, o + i * L.k, by rw [if_neg (by omega)]; simp [addr_add], hb, fun j x hx => ?_⟩
  rw [List.getElem?_drop] at hx
  obtain ⟨cs, hc, hi'⟩ := he (i + j) x hx
  refine ⟨cs, ?_, hi'⟩
  rwa [Nat.add_mul, ← Nat.add_assoc] at hc
theorem SliceOf.bt {α : Type} {L : Lay α} {S : Nat → Prop} {w w' : World} {v : Value} {xs : List α} {b : Nat} (h : SliceOf L S w v xs) (hb : But b w w') (hS : ∀ k, S k → k ≠ b) : SliceOf L S w' v xs := h.keep fun k hk => hb.keep k (hS k hk)
end Go.Proofs.Ytgckpmcdlciibaa
