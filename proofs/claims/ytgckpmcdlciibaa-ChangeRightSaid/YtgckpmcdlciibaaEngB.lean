/- More on rows of one's own, and where ways meet. -/
import Derived.Test.YtgckpmcdlciibaaEngA
namespace Go.Proofs.Ytgckpmcdlciibaa
open Go.RowKit
/-- the ways through x meet behind it, each with a state of its own -/
theorem Sim.cutX {P : Program} {f : FuncId} {N : Nat} {k : List Item} {e : Env} {w : World} {R : Ending → World → Prop} {x : Code} {σ : Type} (E : σ → Env) (I : σ → World → Prop)
    (first : ∀ k', (∀ s w' e', I s w' → Env.Sub (E s) e' → Sim P f N k' e' w' R) → Sim P f N (.code x :: k') e w R) (rest : ∀ s w', I s w' → Sim P f N k (E s) w' R) : Sim P f N (.code x :: k) e w R :=
  first k fun s w' _ hI hs => Sim.weaken (rest s w' hI) hs
section
variable {α : Type} {L : Lay α} {el : TypeId} {B : Nat} {S S' : Nat → Prop} {w w1 : World} {v : Value} {xs : List α}
theorem Own.shift (h : Own L el B S w v xs) (hS : ∀ b, S b → b < w.heap.size → some b ≠ v.ownBlock → S' b) : Own L el B S' w v xs := by
  obtain ⟨css, ho, hl, hi⟩ := h
  exact ⟨css, ho, hl, fun i cs x h1 h2 => L.mono (L.old (hi i cs x h1 h2)) fun b hb => ⟨hS b hb.1.1 hb.2 hb.1.2, hb.1.2⟩⟩
theorem Own.sh (h : Own L el B S w v xs) : ∃ a n c, v = .slice a n c := by
  obtain ⟨a, c, rfl⟩ := h.shape
  exact ⟨a, _, c, rfl⟩
theorem Own.base {B' : Nat} (h : Own L el B S w v xs) (hB : B' ≤ B) : Own L el B' S w v xs := by
  obtain ⟨css, ho, hl, hi⟩ := h
  refine ⟨css, ⟨ho.1, ?_⟩, hl, hi⟩
  rcases ho.2 with hn | ⟨g, cap, cur, rfl, hb, r⟩
  · exact .inl hn
  · exact .inr ⟨g, cap, cur, rfl, by omega, r⟩
/-- another row has grown -/
theorem Own.grown {r : Option Nat} (h : Own L el B S w v xs) (hg : w.grownBy w1 r) (hS : ∀ b, S b → some b ≠ r) (hv : ∀ g, v.ownBlock = some g → some g ≠ r) : Own L el B S w1 v xs := h.keep (Grown.keep hg) hS hv
theorem Box.grown {b : Nat} {t : TypeId} {cs : List Value} {r : Option Nat} (h : Box w b t cs) (hg : w.grownBy w1 r) (hb : some b ≠ r) : Box w1 b t cs := h.keep (Grown.keep hg) hb
theorem SliceOf.grown {r : Option Nat} (h : SliceOf L S w v xs) (hg : w.grownBy w1 r) (hS : ∀ b, S b → some b ≠ r) : SliceOf L S w1 v xs := h.keep fun b hb hlt => (Grown.keep hg) b (hS b hb) hlt
/-- as a slice; all that it leads to lies in S' -/
theorem Own.sl (h : Own L el B S w v xs) (hS : ∀ b, S b → b < w.heap.size → some b ≠ v.ownBlock → S' b) (hv : ∀ g, v.ownBlock = some g → S' g) : SliceOf L S' w v xs := (h.shift hS).slice S' (fun _ h => h) hv
end
/-- values that lead nowhere -/
class Flat {α : Type} (L : Lay α) : Prop where
  h : ∀ {S S' : Nat → Prop} {w w' : World} {cs x}, L.is S w cs x → L.is S' w' cs x
instance : Flat strLay := ⟨fun h => h⟩
instance : Flat boolLay := ⟨fun h => h⟩
instance : Flat fldLay := ⟨fun h => h⟩
instance : Flat chgLay := ⟨fun h => h⟩
instance : Flat ownLay := ⟨fun h => h⟩
theorem Own.no {α : Type} {L : Lay α} [Flat L] {el : TypeId} {B : Nat} {S S' : Nat → Prop} {w : World} {v : Value} {xs : List α} (h : Own L el B S w v xs) : Own L el B S' w v xs := by
  obtain ⟨css, ho, hl, hi⟩ := h
  exact ⟨css, ho, hl, fun i cs x h1 h2 => Flat.h (hi i cs x h1 h2)⟩
theorem Own.ne {α : Type} {L : Lay α} {el : TypeId} {B : Nat} {S : Nat → Prop} {w : World} {v : Value} {xs : List α} (h : Own L el B S w v xs) {b : Nat} (hb : w.heap.size ≤ b) : some b ≠ v.ownBlock := fun he => by
  have := (h.lt b he.symm).2
  omega
theorem Own.ne' {α : Type} {L : Lay α} {el : TypeId} {B : Nat} {S : Nat → Prop} {w : World} {v : Value} {xs : List α} (h : Own L el B S w v xs) {b : Nat} (hb : b < B) : some b ≠ v.ownBlock := fun he => by
  have := (h.lt b he.symm).1
  omega
theorem SliceOf.one {α : Type} {L : Lay α} {S : Nat → Prop} {w : World} {b : Nat} {t : TypeId} {cs : List Value} {x : α} (hb : Box w b t cs) (hS : S b) (h : L.is S w cs x) : SliceOf L S w (.slice (some ⟨b, 0, none⟩) 1 1) [x] := SliceOf.lit1 cs x hb.at hS h
instance : OneC boolLay := ⟨by rintro S w cs x rfl c hc; simp at hc; subst hc; rfl⟩
instance {α : Type} (L : Lay α) : OneC L.slice := ⟨by rintro S w cs x ⟨v, rfl, a, c, rfl, _⟩ c' hc; simp at hc; subst hc; rfl⟩
end Go.Proofs.Ytgckpmcdlciibaa
