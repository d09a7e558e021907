/- Rows that are written: a whole element at once. -/
import Derived.Test.YtgckpmcdlciibacZB
namespace Go.Proofs.Ytgckpmcdlciibac
open Go.RowKit
theorem flat_setE {k : Nat} : ∀ {css : List (List Value)} {i : Nat} (news : List Value), (∀ c ∈ css, c.length = k) → i < css.length → (css.set i news).flatten = css.flatten.take (i * k) ++ news ++ css.flatten.drop (i * k + k)
  | [], i, news, _, hi => by simp at hi
  | c :: css, 0, news, h, hi => by
    have hc := h c (by simp)
    rw [List.set_cons_zero, List.flatten_cons, List.flatten_cons, Nat.zero_mul, List.take_zero, List.nil_append, Nat.zero_add, List.drop_left' hc]
  | c :: css, i + 1, news, h, hi => by
    have hc := h c (by simp)
    rw [List.set_cons_succ, List.flatten_cons, List.flatten_cons, flat_setE news (fun c' hc' => h c' (by simp [hc'])) (by simpa using hi), List.take_append, List.drop_append, hc, List.take_of_length_le (l := c) (by rw [hc, Nat.add_mul, Nat.one_mul]; omega), (List.drop_eq_nil_of_le (by rw [hc, Nat.add_mul, Nat.one_mul]; omega) : c.drop ((i + 1) * k + k) = [])]
    have e1 : (i + 1) * k - k = i * k := by rw [Nat.add_mul, Nat.one_mul]; omega
    have e2 : (i + 1) * k + k - k = i * k + k := by rw [Nat.add_mul, Nat.one_mul]; omega
    rw [e1, e2]
    simp only [List.nil_append, List.append_assoc]
section
variable {α : Type} {L : Lay α} {el : TypeId} {B : Nat} {S : Nat → Prop} {w w1 : World} {v : Value} {xs : List α}
theorem Own.putE {g n c i : Nat} {x' : α} {news : List Value} (h : Own L el B S w (.slice (some ⟨g, 0, none⟩) n c) xs) (hi0 : i < xs.length) (hk : news.length = L.k) (hnew : L.is (fun b => S b ∧ some b ≠ Value.ownBlock (.slice (some ⟨g, 0, none⟩) n c)) w news x') :
    ∃ cur : List Value, Box w g el cur ∧ i * L.k + L.k ≤ cur.length ∧ ∀ w1, But g w w1 → Box w1 g el (cur.take (i * L.k) ++ news ++ cur.drop (i * L.k + L.k)) → Own L el B S w1 (.slice (some ⟨g, 0, none⟩) n c) (xs.set i x') := by
  obtain ⟨css, ho, hl, hi⟩ := h
  rcases ho.2 with ⟨hn, h0⟩ | ⟨g', cap, cur, he, hb, hg, hnc, hm, hcs, htake⟩
  · cases hn
  simp only [Value.slice.injEq, Option.some.injEq, Addr.mk.injEq, and_true] at he
  obtain ⟨rfl, rfl, rfl⟩ := he
  have hall : ∀ c ∈ css, c.length = L.k := fun cs hcs => by
    obtain ⟨m, hm', rfl⟩ := List.getElem_of_mem hcs
    exact L.len (hi m _ xs[m] (List.getElem?_eq_getElem hm') (List.getElem?_eq_getElem (by omega)))
  have hfl := flat_len hall
  have hil : i * L.k + L.k ≤ xs.length * L.k := by
    have : (i + 1) * L.k ≤ xs.length * L.k := Nat.mul_le_mul_right _ hi0
    rwa [Nat.add_mul, Nat.one_mul] at this
  have hcl : xs.length * L.k ≤ cur.size := by
    rw [hcs]
    exact Nat.mul_le_mul_right _ hnc
  have hfle : css.flatten.length = xs.length * L.k := by rw [hfl, hl]
  have hci : i < css.length := by omega
  have hcur : cur.toList.length = cur.size := by simp
  have hset := flat_setE news hall hci
  have hlen : (cur.toList.take (i * L.k) ++ news ++ cur.toList.drop (i * L.k + L.k)).length = cur.size := by
    simp only [List.length_append, List.length_take, List.length_drop, hcur, hk]
    omega
  refine ⟨cur.toList, by simpa [Box] using hg, by rw [hcur]; omega, fun w1 hbt hw1 => ⟨css.set i news, ⟨?_, .inr ⟨g, c, (cur.toList.take (i * L.k) ++ news ++ cur.toList.drop (i * L.k + L.k)).toArray, by simp, hb, hw1, by simpa using hnc, hm, ?_, ?_⟩⟩, by simp [hl], fun m cs y h1 h2 => ?_⟩⟩
  · rw [hset, List.length_set]
    simp only [List.length_append, List.length_take, List.length_drop, hfle, hk]
    omega
  · rw [← hcs]
    simpa using hlen
  · have e1 : css.flatten.take (i * L.k) = cur.toList.take (i * L.k) := by rw [← htake, List.take_take, Nat.min_eq_left (by omega)]
    have e2 : css.flatten.drop (i * L.k + L.k) = (cur.toList.drop (i * L.k + L.k)).take (xs.length * L.k - (i * L.k + L.k)) := by rw [← htake, List.drop_take]
    rw [hset, e1, e2, List.length_set]
    simp only [List.append_assoc]
    rw [List.take_append, List.take_append]
    rw [List.take_of_length_le (l := cur.toList.take (i * L.k)) (by rw [List.length_take]; omega), List.length_take, Nat.min_eq_left (by omega), List.take_of_length_le (l := news) (by omega), hk]
    congr 3
    omega
  · have hkp : ∀ {cs : List Value} {y : α}, L.is (fun b => S b ∧ some b ≠ Value.ownBlock (.slice (some ⟨g, 0, none⟩) xs.length c)) w cs y → L.is (fun b => S b ∧ some b ≠ Value.ownBlock (.slice (some ⟨g, 0, none⟩) xs.length c)) w1 cs y := fun h => L.keep h fun b hb hlt => hbt.block b hlt fun e => hb.2 (by rw [e]; rfl)
    by_cases hmi : m = i
    · subst hmi
      rw [List.getElem?_set_self (by omega)] at h1
      rw [List.getElem?_set_self (by omega)] at h2
      simp only [Option.some.injEq] at h1 h2
      subst h1; subst h2
      exact hkp hnew
    · rw [List.getElem?_set_ne (by omega)] at h1 h2
      exact hkp (hi m cs y h1 h2)
end
section
variable {P : Program} {f : FuncId} {N : Nat} {K : Act → World → Prop} {e : Env} {w w0 : World} {R : Ending → World → Prop}
variable {ops : Array Oper} {rest : List Oper} {ty : TypeId} {ps : String} {af : Array Edge} {gd : Option (Nat × Bool)} {v : Value}
theorem RL.putE {α : Type} {L : Lay α} [OneC L] {el t : TypeId} {k : Nat} [Siz P t k] {B : Nat} {S : Nat → Prop} {xs : List α} {g n c i o : Nat} {x' : α} {news : List Value} {p q : Operand} (hu : Up w0 w) (ho : Own L el B S w (.slice (some ⟨g, 0, none⟩) n c) xs) (hB : w0.heap.size ≤ B) (hi : i < xs.length)
    (hnew : L.is (fun b => S b ∧ some b ≠ Value.ownBlock (.slice (some ⟨g, 0, none⟩) n c)) w news x')
    (h : ∀ w1, Up w0 w1 → But g w w1 → Own L el B S w1 (.slice (some ⟨g, 0, none⟩) n c) (xs.set i x') → RL P f N ops rest K e w1 R)
    (hw : Wants ops e gd := by first | exact trivial | exact ⟨_, _, rfl, rfl, rfl⟩) (hp : e.ev p = some (.pointer (some ⟨g, o, none⟩)) := by rfl) (hq : e.ev q = some v := by rfl) (hv : v.cells = news.toArray := by rfl) (hk : L.k = k := by rfl) (hoff : o = i * k := by omega) :
    RL P f N ops ({ dst := none, op := .store t p q, type := ty, pos := ps, after := af, guard := gd } :: rest) K e w R := by
  subst hk
  subst hoff
  have hlen := L.len hnew
  obtain ⟨cur, hbox, hlt, hcont⟩ := ho.putE hi hlen hnew
  have hgB := (ho.lt g rfl).1
  refine RL.store (news := news) hw hp hq hbox hv hlen (OneC.h hnew) (by rw [hlen]; exact hlt) (cs' := cur.take (i * L.k) ++ news ++ cur.drop (i * L.k + L.k)) (by rw [hlen]) fun w1 h1 h2 => h w1 (Up.but hu h1 (Nat.le_trans hB hgB)) h1 (hcont w1 h1 h2)
end
end Go.Proofs.Ytgckpmcdlciibac
