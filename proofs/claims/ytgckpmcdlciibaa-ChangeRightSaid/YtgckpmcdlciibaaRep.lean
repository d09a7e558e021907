/- How the program's data lie in memory. S: the blocks that they may lie in. -/
import Derived.Test.YtgckpmcdlciibaaEng3
import Derived.Test.YtgckpmcdlciibaaData
namespace Go.Proofs.Ytgckpmcdlciibaa
open Go.RowKit

/-- w' is as w was in the blocks of S -/
def Keep (S : Nat → Prop) (w w' : World) : Prop := ∀ b, S b → b < w.heap.size → w'.heap[b]? = w.heap[b]?
theorem Keep.of_up {S : Nat → Prop} {w w' : World} (h : Up w w') : Keep S w w' := fun _ _ hb => h.block hb
theorem At.keep {S : Nat → Prop} {w w' : World} {b o : Nat} {cs : List Value} (h : At w b o cs) (hk : Keep S w w') (hb : S b) : At w' b o cs := fun j v hj => by
  have h1 := h j v hj
  rw [World.cell?_of_block (w := w) (hk b hb (World.block_lt_of_cell? w _ h1))]
  exact h1

/-- how a type's values lie: k cells -/
structure Lay (α : Type) where
  k : Nat
  pos : 0 < k
  is : (Nat → Prop) → World → List Value → α → Prop
  len : ∀ {S w cs x}, is S w cs x → cs.length = k
  keep : ∀ {S w w' cs x}, is S w cs x → Keep S w w' → is S w' cs x
  mono : ∀ {S S' : Nat → Prop} {w cs x}, is S w cs x → (∀ b, S b → S' b) → is S' w cs x
  old : ∀ {S w cs x}, is S w cs x → is (fun b => S b ∧ b < w.heap.size) w cs x

/-- a slice value that holds xs -/
def SliceOf {α : Type} (L : Lay α) (S : Nat → Prop) (w : World) (v : Value) (xs : List α) : Prop :=
  ∃ a c, v = .slice a xs.length c ∧ xs.length ≤ c ∧ c ≤ maxLen ∧ (0 < xs.length → ∃ b o, a = some ⟨b, o, none⟩ ∧ S b ∧ ∀ (i : Nat) x, xs[i]? = some x → ∃ cs, At w b (o + i * L.k) cs ∧ L.is S w cs x)
theorem SliceOf.keep {α : Type} {L : Lay α} {S : Nat → Prop} {w w' : World} {v : Value} {xs : List α} (h : SliceOf L S w v xs) (hk : Keep S w w') : SliceOf L S w' v xs := by
  obtain ⟨a, c, rfl, h1, h2, h3⟩ := h
  refine ⟨a, c, rfl, h1, h2, fun hp => ?_⟩
  obtain ⟨b, o, rfl, hb, he⟩ := h3 hp
  refine ⟨b, o, rfl, hb, fun i x hx => ?_⟩
  obtain ⟨cs, hc, hi⟩ := he i x hx
  exact ⟨cs, hc.keep hk hb, L.keep hi hk⟩
theorem SliceOf.mono {α : Type} {L : Lay α} {S S' : Nat → Prop} {w : World} {v : Value} {xs : List α} (h : SliceOf L S w v xs) (hS : ∀ b, S b → S' b) : SliceOf L S' w v xs := by
  obtain ⟨a, c, rfl, h1, h2, h3⟩ := h
  refine ⟨a, c, rfl, h1, h2, fun hp => ?_⟩
  obtain ⟨b, o, rfl, hb, he⟩ := h3 hp
  refine ⟨b, o, rfl, hS b hb, fun i x hx => ?_⟩
  obtain ⟨cs, hc, hi⟩ := he i x hx
  exact ⟨cs, hc, L.mono hi hS⟩
theorem SliceOf.old {α : Type} {L : Lay α} {S : Nat → Prop} {w : World} {v : Value} {xs : List α} (h : SliceOf L S w v xs) : SliceOf L (fun b => S b ∧ b < w.heap.size) w v xs := by
  obtain ⟨a, c, rfl, h1, h2, h3⟩ := h
  refine ⟨a, c, rfl, h1, h2, fun hp => ?_⟩
  obtain ⟨b, o, rfl, hb, he⟩ := h3 hp
  obtain ⟨cs, hc, hi⟩ := he 0 xs[0] (List.getElem?_eq_getElem hp)
  have hlt : b < w.heap.size := by
    have hl := L.len hi
    have := L.pos
    obtain ⟨c0, cs', rfl⟩ : ∃ c0 cs', cs = c0 :: cs' := by
      cases cs with
      | nil => simp at hl; omega
      | cons c0 cs' => exact ⟨c0, cs', rfl⟩
    exact hc.lt
  refine ⟨b, o, rfl, ⟨hb, hlt⟩, fun i x hx => ?_⟩
  obtain ⟨cs, hc, hi⟩ := he i x hx
  exact ⟨cs, hc, L.old hi⟩
theorem SliceOf.up {α : Type} {L : Lay α} {S : Nat → Prop} {w w' : World} {v : Value} {xs : List α} (h : SliceOf L S w v xs) (hu : Up w w') : SliceOf L S w' v xs := h.keep (.of_up hu)
theorem SliceOf.nil {α : Type} (L : Lay α) (S : Nat → Prop) (w : World) : SliceOf L S w (.slice none 0 0) [] := ⟨none, 0, rfl, Nat.le_refl _, Nat.zero_le _, fun h => absurd h (Nat.lt_irrefl _)⟩
/-- an element of it: where it lies -/
theorem SliceOf.at {α : Type} {L : Lay α} {S : Nat → Prop} {w : World} {a : Option Addr} {n c : Nat} {xs : List α} (h : SliceOf L S w (.slice a n c) xs) {i : Nat} {x : α} (hx : xs[i]? = some x) :
    ∃ b o cs, a = some ⟨b, o, none⟩ ∧ S b ∧ At w b (o + i * L.k) cs ∧ L.is S w cs x ∧ i < n := by
  obtain ⟨a', c', e, h1, h2, h3⟩ := h
  simp only [Value.slice.injEq] at e
  obtain ⟨rfl, rfl, rfl⟩ := e
  have hlt := (List.getElem?_eq_some_iff.1 hx).1
  obtain ⟨b, o, rfl, hb, he⟩ := h3 (by omega)
  obtain ⟨cs, hc, hi⟩ := he i x hx
  exact ⟨b, o, cs, rfl, hb, hc, hi, hlt⟩
theorem SliceOf.elems {α : Type} {L : Lay α} {S : Nat → Prop} {w : World} {v : Value} {xs : List α} (h : SliceOf L S w v xs) :
    ∃ cells : Nat → List Value, Elems L.k w v xs.length cells ∧ ∀ (i : Nat) x, xs[i]? = some x → L.is S w (cells i) x := by
  obtain ⟨a, c, rfl, h1, h2, h3⟩ := h
  by_cases hp : 0 < xs.length
  · obtain ⟨b, o, rfl, hb, he⟩ := h3 hp
    have hex : ∀ i, ∃ cs, i < xs.length → At w b (o + i * L.k) cs ∧ (∀ x, xs[i]? = some x → L.is S w cs x) := fun i => by
      by_cases hi : i < xs.length
      · obtain ⟨cs, hc, hx⟩ := he i xs[i] (List.getElem?_eq_getElem hi)
        exact ⟨cs, fun _ => ⟨hc, fun x hx' => by rw [List.getElem?_eq_getElem hi] at hx'; cases hx'; exact hx⟩⟩
      · exact ⟨[], fun h => absurd h hi⟩
    obtain ⟨cells, hcells⟩ := Classical.axiomOfChoice hex
    refine ⟨cells, ⟨_, c, rfl, h1, h2, fun _ => ⟨b, o, rfl, fun i hi => ⟨L.len ((hcells i hi).2 xs[i] (List.getElem?_eq_getElem hi)), (hcells i hi).1⟩⟩⟩, fun i x hx => ?_⟩
    exact (hcells i (List.getElem?_eq_some_iff.1 hx).1).2 x hx
  · have : xs = [] := List.eq_nil_of_length_eq_zero (by omega)
    subst this
    exact ⟨fun _ => [], ⟨a, c, rfl, h1, h2, fun h => absurd h hp⟩, fun i x hx => by simp at hx⟩

/-- x[:i] -/
theorem SliceOf.take {α : Type} {L : Lay α} {S : Nat → Prop} {w : World} {a : Option Addr} {n c : Nat} {xs : List α} (h : SliceOf L S w (.slice a n c) xs) {i : Nat} (hi : i ≤ n) : SliceOf L S w (.slice a i c) (xs.take i) := by
  obtain ⟨a', c', e, h1, h2, h3⟩ := h
  simp only [Value.slice.injEq] at e
  obtain ⟨rfl, rfl, rfl⟩ := e
  have hlen : (xs.take i).length = i := by simp; omega
  refine ⟨a, c, by rw [hlen], by omega, h2, fun hp => ?_⟩
  obtain ⟨b, o, rfl, hb, he⟩ := h3 (by omega)
  refine ⟨b, o, rfl, hb, fun j x hx => he j x ?_⟩
  rw [List.getElem?_take] at hx
  split at hx
  · exact hx
  · cases hx

def strLay : Lay Str where
  k := 1
  pos := by decide
  is := fun _ _ cs s => cs = [.string s]
  len := by rintro S w cs x rfl; rfl
  keep := fun h _ => h
  mono := fun h _ => h
  old := fun h => h
def boolLay : Lay Bool where
  k := 1
  pos := by decide
  is := fun _ _ cs s => cs = [.bool s]
  len := by rintro S w cs x rfl; rfl
  keep := fun h _ => h
  mono := fun h _ => h
  old := fun h => h
/-- a slice in a cell -/
def Lay.slice {α : Type} (L : Lay α) : Lay (List α) where
  k := 1
  pos := by decide
  is := fun S w cs xs => ∃ v, cs = [v] ∧ SliceOf L S w v xs
  len := by rintro S w cs x ⟨v, rfl, _⟩; rfl
  keep := fun ⟨v, h, hs⟩ hk => ⟨v, h, hs.keep hk⟩
  mono := fun ⟨v, h, hs⟩ hk => ⟨v, h, hs.mono hk⟩
  old := fun ⟨v, h, hs⟩ => ⟨v, h, hs.old⟩
def fldLay : Lay Fld where
  k := 3
  pos := by decide
  is := fun _ _ cs f => cs = [.string f.name, .int .i64 f.kind, .string f.type]
  len := by rintro S w cs x rfl; rfl
  keep := fun h _ => h
  mono := fun h _ => h
  old := fun h => h
def typLay : Lay Typ where
  k := 2
  pos := by decide
  is := fun S w cs t => ∃ v, cs = [.string t.name, v] ∧ SliceOf fldLay S w v t.fields
  len := by rintro S w cs x ⟨v, rfl, _⟩; rfl
  keep := fun ⟨v, h, hs⟩ hk => ⟨v, h, hs.keep hk⟩
  mono := fun ⟨v, h, hs⟩ hk => ⟨v, h, hs.mono hk⟩
  old := fun ⟨v, h, hs⟩ => ⟨v, h, hs.old⟩
def valLay : Lay VVal where
  k := 3
  pos := by decide
  is := fun S w cs t => ∃ v, cs = [.string t.field, .string t.text, v] ∧ SliceOf strLay S w v t.keys
  len := by rintro S w cs x ⟨v, rfl, _⟩; rfl
  keep := fun ⟨v, h, hs⟩ hk => ⟨v, h, hs.keep hk⟩
  mono := fun ⟨v, h, hs⟩ hk => ⟨v, h, hs.mono hk⟩
  old := fun ⟨v, h, hs⟩ => ⟨v, h, hs.old⟩
def thgLay : Lay Thg where
  k := 3
  pos := by decide
  is := fun S w cs t => ∃ v, cs = [.string t.type, .string t.key, v] ∧ SliceOf valLay S w v t.vals
  len := by rintro S w cs x ⟨v, rfl, _⟩; rfl
  keep := fun ⟨v, h, hs⟩ hk => ⟨v, h, hs.keep hk⟩
  mono := fun ⟨v, h, hs⟩ hk => ⟨v, h, hs.mono hk⟩
  old := fun ⟨v, h, hs⟩ => ⟨v, h, hs.old⟩
def chgLay : Lay Chg where
  k := 4
  pos := by decide
  is := fun _ _ cs f => cs = [.int .i64 f.kind, .string f.type, .string f.field, .string f.to]
  len := by rintro S w cs x rfl; rfl
  keep := fun h _ => h
  mono := fun h _ => h
  old := fun h => h
def ownLay : Lay Ownr where
  k := 3
  pos := by decide
  is := fun _ _ cs f => cs = [.int .i64 f.service, .string f.type, .string f.field]
  len := by rintro S w cs x rfl; rfl
  keep := fun h _ => h
  mono := fun h _ => h
  old := fun h => h
def svcLay : Lay Svc where
  k := 3
  pos := by decide
  is := fun S w cs t => ∃ v1 v2 v3, cs = [v1, v2, v3] ∧ SliceOf typLay S w v1 t.types ∧ SliceOf chgLay S w v2 t.changes ∧ SliceOf thgLay S w v3 t.things
  len := by rintro S w cs x ⟨v1, v2, v3, rfl, _⟩; rfl
  keep := fun ⟨v1, v2, v3, h, h1, h2, h3⟩ hk => ⟨v1, v2, v3, h, h1.keep hk, h2.keep hk, h3.keep hk⟩
  mono := fun ⟨v1, v2, v3, h, h1, h2, h3⟩ hk => ⟨v1, v2, v3, h, h1.mono hk, h2.mono hk, h3.mono hk⟩
  old := fun ⟨v1, v2, v3, h, h1, h2, h3⟩ => ⟨v1, v2, v3, h, h1.old, h2.old, h3.old⟩
def snLay : Lay Sn where
  k := 4
  pos := by decide
  is := fun S w cs t => ∃ v1 v2, cs = [.string t.type.name, v1, .string t.own, v2] ∧ SliceOf fldLay S w v1 t.type.fields ∧ SliceOf strLay S w v2 t.fields
  len := by rintro S w cs x ⟨v1, v2, rfl, _⟩; rfl
  keep := fun ⟨v1, v2, h, h1, h2⟩ hk => ⟨v1, v2, h, h1.keep hk, h2.keep hk⟩
  mono := fun ⟨v1, v2, h, h1, h2⟩ hk => ⟨v1, v2, h, h1.mono hk, h2.mono hk⟩
  old := fun ⟨v1, v2, h, h1, h2⟩ => ⟨v1, v2, h, h1.old, h2.old⟩
def prtLay : Lay Prt where
  k := 4
  pos := by decide
  is := fun S w cs t => ∃ v1 v2 v3, cs = [.string t.type.name, v1, v2, v3] ∧ SliceOf fldLay S w v1 t.type.fields ∧ SliceOf ownLay S w v2 t.owners ∧ SliceOf ownLay S w v3 t.homes
  len := by rintro S w cs x ⟨v1, v2, v3, rfl, _⟩; rfl
  keep := fun ⟨v1, v2, v3, h, h1, h2, h3⟩ hk => ⟨v1, v2, v3, h, h1.keep hk, h2.keep hk, h3.keep hk⟩
  mono := fun ⟨v1, v2, v3, h, h1, h2, h3⟩ hk => ⟨v1, v2, v3, h, h1.mono hk, h2.mono hk, h3.mono hk⟩
  old := fun ⟨v1, v2, v3, h, h1, h2, h3⟩ => ⟨v1, v2, v3, h, h1.old, h2.old, h3.old⟩
/-- picks of picks: n levels -/
def pckIs : Nat → (Nat → Prop) → World → List Value → Pck → Prop
  | 0, _, _, _, _ => False
  | n + 1, S, w, cs, p => ∃ a c, cs = [.string p.as, .string p.field, .slice a p.picks.length c] ∧ p.picks.length ≤ c ∧ c ≤ maxLen ∧
      (0 < p.picks.length → ∃ b o, a = some ⟨b, o, none⟩ ∧ S b ∧ ∀ (i : Nat) x, p.picks[i]? = some x → ∃ cs, At w b (o + i * 3) cs ∧ pckIs n S w cs x)
theorem pckIs_len {n : Nat} {S : Nat → Prop} {w : World} {cs : List Value} {p : Pck} (h : pckIs n S w cs p) : cs.length = 3 := by
  cases n with
  | zero => exact h.elim
  | succ n => obtain ⟨a, c, rfl, _⟩ := h; rfl
theorem pckIs_keep : ∀ {n : Nat} {S : Nat → Prop} {w w' : World} {cs : List Value} {p : Pck}, pckIs n S w cs p → Keep S w w' → pckIs n S w' cs p
  | 0, _, _, _, _, _, h, _ => h.elim
  | n + 1, S, w, w', cs, p, h, hk => by
    obtain ⟨a, c, rfl, h1, h2, h3⟩ := h
    refine ⟨a, c, rfl, h1, h2, fun hp => ?_⟩
    obtain ⟨b, o, rfl, hb, he⟩ := h3 hp
    refine ⟨b, o, rfl, hb, fun i x hx => ?_⟩
    obtain ⟨cs, hc, hi⟩ := he i x hx
    exact ⟨cs, hc.keep hk hb, pckIs_keep hi hk⟩
theorem pckIs_mono : ∀ {n : Nat} {S S' : Nat → Prop} {w : World} {cs : List Value} {p : Pck}, pckIs n S w cs p → (∀ b, S b → S' b) → pckIs n S' w cs p
  | 0, _, _, _, _, _, h, _ => h.elim
  | n + 1, S, S', w, cs, p, h, hk => by
    obtain ⟨a, c, rfl, h1, h2, h3⟩ := h
    refine ⟨a, c, rfl, h1, h2, fun hp => ?_⟩
    obtain ⟨b, o, rfl, hb, he⟩ := h3 hp
    refine ⟨b, o, rfl, hk b hb, fun i x hx => ?_⟩
    obtain ⟨cs, hc, hi⟩ := he i x hx
    exact ⟨cs, hc, pckIs_mono hi hk⟩
theorem pckIs_old : ∀ {n : Nat} {S : Nat → Prop} {w : World} {cs : List Value} {p : Pck}, pckIs n S w cs p → pckIs n (fun b => S b ∧ b < w.heap.size) w cs p
  | 0, _, _, _, _, h => h.elim
  | n + 1, S, w, cs, p, h => by
    obtain ⟨a, c, rfl, h1, h2, h3⟩ := h
    refine ⟨a, c, rfl, h1, h2, fun hp => ?_⟩
    obtain ⟨b, o, rfl, hb, he⟩ := h3 hp
    obtain ⟨cs, hc, hi⟩ := he 0 p.picks[0] (List.getElem?_eq_getElem hp)
    have hlt : b < w.heap.size := by
      have hl := pckIs_len hi
      match cs, hl with
      | c0 :: _, _ => exact hc.lt
    refine ⟨b, o, rfl, ⟨hb, hlt⟩, fun i x hx => ?_⟩
    obtain ⟨cs, hc, hi⟩ := he i x hx
    exact ⟨cs, hc, pckIs_old hi⟩
def pckLay (n : Nat) : Lay Pck where
  k := 3
  pos := by decide
  is := pckIs n
  len := pckIs_len
  keep := pckIs_keep
  mono := pckIs_mono
  old := pckIs_old
theorem pckLay_succ {n : Nat} {S : Nat → Prop} {w : World} {cs : List Value} {p : Pck} (h : (pckLay (n + 1)).is S w cs p) : ∃ v, cs = [.string p.as, .string p.field, v] ∧ SliceOf (pckLay n) S w v p.picks := by
  obtain ⟨a, c, rfl, h1, h2, h3⟩ := h
  exact ⟨_, rfl, a, c, rfl, h1, h2, h3⟩
end Go.Proofs.Ytgckpmcdlciibaa
