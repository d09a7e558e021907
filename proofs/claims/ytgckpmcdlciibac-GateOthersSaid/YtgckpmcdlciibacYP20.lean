/- Plain laws of chapter 7: services that aren't asked, emptied. -/
import Derived.Test.YtgckpmcdlciibacZY
namespace Go.Proofs.Ytgckpmcdlciibac
def emptyS (s : Svc) : Svc := ⟨s.types, s.changes, []⟩
def othersL (ask : Int → Bool) : Nat → List Svc → List Svc
  | _, [] => []
  | i, s :: r => (if ask (i : Int) = true then s else emptyS s) :: othersL ask (i + 1) r
theorem others_get (ask : Int → Bool) : ∀ (l : List Svc) (i k : Nat), (othersL ask i l)[k]? = (l[k]?).map fun s => if ask ((i + k : Nat) : Int) = true then s else emptyS s
  | [], _, _ => by simp [othersL]
  | s :: r, i, 0 => by simp [othersL]
  | s :: r, i, k + 1 => by
    simp only [othersL, List.getElem?_cons_succ]
    rw [others_get ask r (i + 1) k, show i + 1 + k = i + (k + 1) by omega]
theorem others_len (ask : Int → Bool) : ∀ (l : List Svc) (i : Nat), (othersL ask i l).length = l.length
  | [], _ => rfl
  | s :: r, i => by simp [othersL, others_len ask r (i + 1)]
theorem others_types (ask : Int → Bool) : ∀ (l : List Svc) (i : Nat), SameTypes l (othersL ask i l)
  | [], _ => rfl
  | s :: r, i => by
    have := others_types ask r (i + 1)
    simp only [SameTypes, othersL, List.map_cons, List.cons.injEq] at this ⊢
    refine ⟨?_, this⟩
    split <;> rfl
theorem others_mem {ask : Int → Bool} {l : List Svc} {i : Nat} {x : Svc} (h : x ∈ othersL ask i l) : ∃ s ∈ l, x = s ∨ x = emptyS s := by
  obtain ⟨k, hk⟩ := List.mem_iff_getElem?.1 h
  rw [others_get] at hk
  cases hs : l[k]? with
  | none => rw [hs] at hk; cases hk
  | some s =>
    rw [hs] at hk
    simp only [Option.map_some, Option.some.injEq] at hk
    refine ⟨s, List.mem_of_getElem? hs, ?_⟩
    subst hk
    split
    · exact .inl rfl
    · exact .inr rfl
theorem right_empty {s : Svc} (h : RightS s) : RightS (emptyS s) := ⟨h.types, h.see, Nat.zero_le _, fun x hx => (by cases hx), fun i x hx => (by cases hx)⟩
theorem others_same {ask : Int → Bool} {l : List Svc} {i : Int} (h : ask i = true) (h0 : 0 ≤ i) : SameAt l (othersL ask 0 l) i := by
  intro o k ho
  subst ho
  unfold findW
  obtain ⟨n, hn⟩ := Int.eq_ofNat_of_zero_le h0
  rw [hn] at h
  rw [others_get, Nat.zero_add, hn, Int.toNat_natCast]
  cases l[n]? with
  | none => rfl
  | some s => simp only [Option.map_some, h, if_true]
end Go.Proofs.Ytgckpmcdlciibac
