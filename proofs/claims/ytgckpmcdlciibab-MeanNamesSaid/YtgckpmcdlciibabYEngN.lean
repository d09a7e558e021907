/- Rows that are written, whose elements lead elsewhere. -/
import Derived.Test.YtgckpmcdlciibabZB
namespace Go.Proofs.Ytgckpmcdlciibab
open Go.RowKit
section
variable {α : Type} {L : Lay α} {el : TypeId} {B : Nat} {S : Nat → Prop} {w w1 : World} {v : Value} {xs : List α}
theorem Own.put {g n c i j : Nat} {x x' : α} {u : Value} (h : Own L el B S w (.slice (some ⟨g, 0, none⟩) n c) xs) (hx : xs[i]? = some x) (hj : j < L.k) (hupd : ∀ cs, L.is (fun b => S b ∧ some b ≠ Value.ownBlock (.slice (some ⟨g, 0, none⟩) n c)) w cs x → L.is (fun b => S b ∧ some b ≠ Value.ownBlock (.slice (some ⟨g, 0, none⟩) n c)) w (cs.set j u) x') :
    ∃ cur : List Value, Box w g el cur ∧ i * L.k + j < cur.length ∧ ∀ w1, But g w w1 → Box w1 g el (cur.set (i * L.k + j) u) → Own L el B S w1 (.slice (some ⟨g, 0, none⟩) n c) (xs.set i x') := by
  obtain ⟨css, ho, hl, hi⟩ := h
  have hlt := (List.getElem?_eq_some_iff.1 hx).1
  rcases ho.2 with ⟨hn, h0⟩ | ⟨g', cap, cur, he, hb, hg, hnc, hm, hcs, htake⟩
  · cases hn
  simp only [Value.slice.injEq, Option.some.injEq, Addr.mk.injEq, and_true] at he
  obtain ⟨rfl, rfl, rfl⟩ := he
  have hall : ∀ c ∈ css, c.length = L.k := fun cs hcs => by
    obtain ⟨m, hm', rfl⟩ := List.getElem_of_mem hcs
    exact L.len (hi m _ xs[m] (List.getElem?_eq_getElem hm') (List.getElem?_eq_getElem (by omega)))
  have hci : css[i]? = some css[i] := List.getElem?_eq_getElem (by omega)
  have hfl := flat_len hall
  have hil : i * L.k + j < xs.length * L.k := by
    have : (i + 1) * L.k ≤ xs.length * L.k := Nat.mul_le_mul_right _ hlt
    rw [Nat.add_mul, Nat.one_mul] at this
    omega
  have hcl : xs.length * L.k ≤ cur.size := by
    rw [hcs]
    exact Nat.mul_le_mul_right _ hnc
  refine ⟨cur.toList, by simpa [Box] using hg, by simp; omega, fun w1 hbt hw1 => ⟨css.set i (css[i].set j u), ⟨?_, .inr ⟨g, c, (cur.toList.set (i * L.k + j) u).toArray, by simp, hb, by simpa [Box] using hw1, by simpa using hnc, hm, by simpa using hcs, ?_⟩⟩, by simp [hl], fun m cs y h1 h2 => ?_⟩⟩
  · rw [← flat_set u hall hci hj, List.length_set, hfl, hl]
    simp
  · rw [← flat_set u hall hci hj]
    simp only [List.length_set] at htake ⊢
    rw [List.take_set, htake]
  · have hk : ∀ {cs : List Value} {y : α}, L.is (fun b => S b ∧ some b ≠ Value.ownBlock (.slice (some ⟨g, 0, none⟩) xs.length c)) w cs y → L.is (fun b => S b ∧ some b ≠ Value.ownBlock (.slice (some ⟨g, 0, none⟩) xs.length c)) w1 cs y := fun h => L.keep h fun b hb hlt => hbt.block b hlt fun e => hb.2 (by rw [e]; rfl)
    by_cases hmi : m = i
    · subst hmi
      rw [List.getElem?_set_self (by omega)] at h1
      rw [List.getElem?_set_self (by omega)] at h2
      simp only [Option.some.injEq] at h1 h2
      subst h1; subst h2
      exact hk (hupd _ (hi m _ x hci hx))
    · rw [List.getElem?_set_ne (by omega)] at h1 h2
      exact hk (hi m cs y h1 h2)
end
section
variable {P : Program} {f : FuncId} {N : Nat} {K : Act → World → Prop} {e : Env} {w w0 : World} {R : Ending → World → Prop}
variable {ops : Array Oper} {rest : List Oper} {ty : TypeId} {ps : String} {af : Array Edge} {gd : Option (Nat × Bool)} {v : Value}
theorem RL.put {α : Type} {L : Lay α} {el t : TypeId} [Siz P t 1] {B : Nat} {S : Nat → Prop} {xs : List α} {g n c i j k o : Nat} {x x' : α} {u : Value} {p q : Operand} (hu : Up w0 w) (ho : Own L el B S w (.slice (some ⟨g, 0, none⟩) n c) xs) (hB : w0.heap.size ≤ B) (hx : xs[i]? = some x)
    (h : ∀ w1, Up w0 w1 → But g w w1 → Own L el B S w1 (.slice (some ⟨g, 0, none⟩) n c) (xs.set i x') → RL P f N ops rest K e w1 R)
    (hupd : ∀ cs, L.is (fun b => S b ∧ some b ≠ Value.ownBlock (.slice (some ⟨g, 0, none⟩) n c)) w cs x → L.is (fun b => S b ∧ some b ≠ Value.ownBlock (.slice (some ⟨g, 0, none⟩) n c)) w (cs.set j u) x') (hu1 : u.oneCell' = true := by rfl) (huc : u.cells = [u].toArray := by rfl)
    (hw : Wants ops e gd := by first | exact trivial | exact ⟨_, _, rfl, rfl, rfl⟩) (hp : e.ev p = some (.pointer (some ⟨g, o, none⟩)) := by rfl) (hq : e.ev q = some u := by rfl) (hk : L.k = k := by rfl) (hj : j < k := by decide) (hoff : o = i * k + j := by omega) :
    RL P f N ops ({ dst := none, op := .store t p q, type := ty, pos := ps, after := af, guard := gd } :: rest) K e w R := by
  subst hk
  subst hoff
  obtain ⟨cur, hbox, hlt, hnew⟩ := ho.put hx hj hupd
  have hgB := (ho.lt g rfl).1
  refine RL.store (news := [u]) hw hp hq hbox huc rfl (by simpa using hu1) (by simp; omega) (cs' := cur.set (i * L.k + j) u) ?_ fun w1 h1 h2 => h w1 (Up.but hu h1 (Nat.le_trans hB hgB)) h1 (hnew w1 h1 h2)
  rw [List.set_eq_take_append_cons_drop, if_pos hlt]
  simp
end
end Go.Proofs.Ytgckpmcdlciibab
