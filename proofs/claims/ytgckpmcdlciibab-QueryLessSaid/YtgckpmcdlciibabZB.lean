/- Several texts in one: Worlds that go on: what stood stays. How the program's data lie in memory. S: the blocks that they may lie in. More rules: memory that is made and written. The rules with the new world behind a name; results that lie in cells. Comparing structs and bools; fields of a struct's value. Literals: slices that a text writes out. Append: a row of elements in a block that is ours alone. More rules: calls, memory and rows with the worlds led along; an append's finer bound. More on rows of one's own, and where ways meet. Regions that draw their order and store: until one of the operations D has come up, S1 holds; S2 always. Slices cut: x[i:], x[i:j]; what lies in them. Rows that are written: an element's cell stored into; rows whose elements are headers of other rows. -/
import Derived.Test.YtgckpmcdlciibabZN
import Derived.Test.YtgckpmcdlciibabZP
import Derived.Laws.AppendOwn
import Derived.Test.YtgckpmcdlciibabZA
import Derived.Deep.DeepAppendWide
namespace Go.Proofs.Ytgckpmcdlciibab
open Go.RowKit

/-- all that stood in w stands in w' -/
def Up (w w' : World) : Prop := Below w.heap.size w w'
theorem Up.refl (w : World) : Up w w := Below.refl _ _
theorem Up.below {w w' : World} (h : Up w w') : Below w.heap.size w w' := h
theorem Up.size {w w' : World} (h : Up w w') : w.heap.size ≤ w'.heap.size := Below.size h
theorem Up.trans {a b c : World} (h : Up a b) (k : Up b c) : Up a c := Below.trans (b := b) h (Below.mono k h.size)
theorem Up.drew (w : World) : Up w w.drew := Below.drew (Below.refl _ _)
theorem Up.alloc (w : World) (o : Obj) : Up w (w.alloc o) := Below.alloc (Below.refl _ _) (Nat.le_refl _) o
theorem Up.block {w w' : World} (h : Up w w') {b : Nat} (hb : b < w.heap.size) : w'.heap[b]? = w.heap[b]? := Below.block h b hb
theorem Up.cell {w w' : World} (h : Up w w') {a : Addr} {v : Value} (hc : w.cell? a = some v) : w'.cell? a = some v :=
  (World.cell?_of_block (h.block (World.block_lt_of_cell? w a hc))).trans hc
theorem At.up {w w' : World} {b o : Nat} {cs : List Value} (h : At w b o cs) (hu : Up w w') : At w' b o cs := fun j v hj => hu.cell (h j v hj)
theorem At.lt {w : World} {b o : Nat} {c : Value} {cs : List Value} (h : At w b o (c :: cs)) : b < w.heap.size := World.block_lt_of_cell? w _ (h 0 c rfl)
theorem At.new (w : World) (cs : List Value) (t : TypeId) : At (w.alloc (.cells cs.toArray t)) w.heap.size 0 cs := fun j v hj => by
  rw [cell_of_row _ _ _ cs.toArray t (0, 0) (heap_alloc_new w _)]
  simpa using hj
/-- what a value's cells are, as a list -/
theorem At.box (w : World) (v : Value) (t : TypeId) : At (w.alloc (.cells v.cells t)) w.heap.size 0 v.cells.toList := by
  have := At.new w v.cells.toList t
  simpa using this
/-- the first index below n of which p holds; -1: there is none -/
def idx (p : Nat → Bool) (n : Nat) : Int := match (List.range n).find? p with
  | some i => (i : Int)
  | none => -1
theorem idx_hit {p : Nat → Bool} {n i : Nat} (hi : i < n) (hp : p i = true) (h : ∀ j, j < i → p j = false) : idx p n = i := by
  have : (List.range n).find? p = some i := by
    rw [List.find?_range_eq_some]
    exact ⟨hp, by simpa using hi, fun j hj => by simp [h j hj]⟩
  simp [idx, this]
theorem idx_miss {p : Nat → Bool} {n : Nat} (h : ∀ j, j < n → p j = false) : idx p n = -1 := by
  have : (List.range n).find? p = none := by
    rw [List.find?_range_eq_none]
    intro j hj
    simp [h j hj]
  simp [idx, this]

/-- the slice value's elements, by index: k cells each -/
def Elems (k : Nat) (w : World) (sv : Value) (n : Nat) (cells : Nat → List Value) : Prop :=
  ∃ a c, sv = .slice a n c ∧ n ≤ c ∧ c ≤ maxLen ∧ (0 < n → ∃ b o, a = some ⟨b, o, none⟩ ∧ ∀ i, i < n → (cells i).length = k ∧ At w b (o + i * k) (cells i))

end Go.Proofs.Ytgckpmcdlciibab

namespace Go.Proofs.Ytgckpmcdlciibab
open Go.RowKit

/-- w' is as w was in the blocks of S -/
def Keep (S : Nat → Prop) (w w' : World) : Prop := ∀ b, S b → b < w.heap.size → w'.heap[b]? = w.heap[b]?
theorem Keep.of_up {S : Nat → Prop} {w w' : World} (h : Up w w') : Keep S w w' := fun _ _ hb => h.block hb
theorem At.keep {S : Nat → Prop} {w w' : World} {b o : Nat} {cs : List Value} (h : At w b o cs) (hk : Keep S w w') (hb : S b) : At w' b o cs := fun j v hj => by
  have h1 := h j v hj
  rw [World.cell?_of_block (w := w) (hk b hb (World.block_lt_of_cell? w _ h1))]
  exact h1

/-- how a type's values lie: k cells -/
structure Lay (α : Type) where
  k : Nat
  pos : 0 < k
  is : (Nat → Prop) → World → List Value → α → Prop
  len : ∀ {S w cs x}, is S w cs x → cs.length = k
  keep : ∀ {S w w' cs x}, is S w cs x → Keep S w w' → is S w' cs x
  mono : ∀ {S S' : Nat → Prop} {w cs x}, is S w cs x → (∀ b, S b → S' b) → is S' w cs x
  old : ∀ {S w cs x}, is S w cs x → is (fun b => S b ∧ b < w.heap.size) w cs x

/-- a slice value that holds xs -/
def SliceOf {α : Type} (L : Lay α) (S : Nat → Prop) (w : World) (v : Value) (xs : List α) : Prop :=
  ∃ a c, v = .slice a xs.length c ∧ xs.length ≤ c ∧ c ≤ maxLen ∧ (0 < xs.length → ∃ b o, a = some ⟨b, o, none⟩ ∧ S b ∧ ∀ (i : Nat) x, xs[i]? = some x → ∃ cs, At w b (o + i * L.k) cs ∧ L.is S w cs x)
theorem SliceOf.keep {α : Type} {L : Lay α} {S : Nat → Prop} {w w' : World} {v : Value} {xs : List α} (h : SliceOf L S w v xs) (hk : Keep S w w') : SliceOf L S w' v xs := by
  obtain ⟨a, c, rfl, h1, h2, h3⟩ := h
  refine ⟨a, c, rfl, h1, h2, fun hp => ?_⟩
  obtain ⟨b, o, rfl, hb, he⟩ := h3 hp
  refine ⟨b, o, rfl, hb, fun i x hx => ?_⟩
  obtain ⟨cs, hc, hi⟩ := he i x hx
  exact ⟨cs, hc.keep hk hb, L.keep hi hk⟩
theorem SliceOf.mono {α : Type} {L : Lay α} {S S' : Nat → Prop} {w : World} {v : Value} {xs : List α} (h : SliceOf L S w v xs) (hS : ∀ b, S b → S' b) : SliceOf L S' w v xs := by
  obtain ⟨a, c, rfl, h1, h2, h3⟩ := h
  refine ⟨a, c, rfl, h1, h2, fun hp => ?_⟩
  obtain ⟨b, o, rfl, hb, he⟩ := h3 hp
  refine ⟨b, o, rfl, hS b hb, fun i x hx => ?_⟩
  obtain ⟨cs, hc, hi⟩ := he i x hx
  exact ⟨cs, hc, L.mono hi hS⟩
theorem SliceOf.old {α : Type} {L : Lay α} {S : Nat → Prop} {w : World} {v : Value} {xs : List α} (h : SliceOf L S w v xs) : SliceOf L (fun b => S b ∧ b < w.heap.size) w v xs := by
  obtain ⟨a, c, rfl, h1, h2, h3⟩ := h
  refine ⟨a, c, rfl, h1, h2, fun hp => ?_⟩
  obtain ⟨b, o, rfl, hb, he⟩ := h3 hp
  obtain ⟨cs, hc, hi⟩ := he 0 xs[0] (List.getElem?_eq_getElem hp)
  have hlt : b < w.heap.size := by
    have hl := L.len hi
    have := L.pos
    obtain ⟨c0, cs', rfl⟩ : ∃ c0 cs', cs = c0 :: cs' := by
      cases cs with
      | nil => simp at hl; omega
      | cons c0 cs' => exact ⟨c0, cs', rfl⟩
    exact hc.lt
  refine ⟨b, o, rfl, ⟨hb, hlt⟩, fun i x hx => ?_⟩
  obtain ⟨cs, hc, hi⟩ := he i x hx
  exact ⟨cs, hc, L.old hi⟩
theorem SliceOf.up {α : Type} {L : Lay α} {S : Nat → Prop} {w w' : World} {v : Value} {xs : List α} (h : SliceOf L S w v xs) (hu : Up w w') : SliceOf L S w' v xs := h.keep (.of_up hu)
theorem SliceOf.nil {α : Type} (L : Lay α) (S : Nat → Prop) (w : World) : SliceOf L S w (.slice none 0 0) [] := ⟨none, 0, rfl, Nat.le_refl _, Nat.zero_le _, fun h => absurd h (Nat.lt_irrefl _)⟩
/-- an element of it: where it lies -/
theorem SliceOf.at {α : Type} {L : Lay α} {S : Nat → Prop} {w : World} {a : Option Addr} {n c : Nat} {xs : List α} (h : SliceOf L S w (.slice a n c) xs) {i : Nat} {x : α} (hx : xs[i]? = some x) :
    ∃ b o cs, a = some ⟨b, o, none⟩ ∧ S b ∧ At w b (o + i * L.k) cs ∧ L.is S w cs x ∧ i < n := by
  obtain ⟨a', c', e, h1, h2, h3⟩ := h
  simp only [Value.slice.injEq] at e
  obtain ⟨rfl, rfl, rfl⟩ := e
  have hlt := (List.getElem?_eq_some_iff.1 hx).1
  obtain ⟨b, o, rfl, hb, he⟩ := h3 (by omega)
  obtain ⟨cs, hc, hi⟩ := he i x hx
  exact ⟨b, o, cs, rfl, hb, hc, hi, hlt⟩
theorem SliceOf.elems {α : Type} {L : Lay α} {S : Nat → Prop} {w : World} {v : Value} {xs : List α} (h : SliceOf L S w v xs) :
    ∃ cells : Nat → List Value, Elems L.k w v xs.length cells ∧ ∀ (i : Nat) x, xs[i]? = some x → L.is S w (cells i) x := by
  obtain ⟨a, c, rfl, h1, h2, h3⟩ := h
  by_cases hp : 0 < xs.length
  · obtain ⟨b, o, rfl, hb, he⟩ := h3 hp
    have hex : ∀ i, ∃ cs, i < xs.length → At w b (o + i * L.k) cs ∧ (∀ x, xs[i]? = some x → L.is S w cs x) := fun i => by
      by_cases hi : i < xs.length
      · obtain ⟨cs, hc, hx⟩ := he i xs[i] (List.getElem?_eq_getElem hi)
        exact ⟨cs, fun _ => ⟨hc, fun x hx' => by rw [List.getElem?_eq_getElem hi] at hx'; cases hx'; exact hx⟩⟩
      · exact ⟨[], fun h => absurd h hi⟩
    obtain ⟨cells, hcells⟩ := Classical.axiomOfChoice hex
    refine ⟨cells, ⟨_, c, rfl, h1, h2, fun _ => ⟨b, o, rfl, fun i hi => ⟨L.len ((hcells i hi).2 xs[i] (List.getElem?_eq_getElem hi)), (hcells i hi).1⟩⟩⟩, fun i x hx => ?_⟩
    exact (hcells i (List.getElem?_eq_some_iff.1 hx).1).2 x hx
  · have : xs = [] := List.eq_nil_of_length_eq_zero (by omega)
    subst this
    exact ⟨fun _ => [], ⟨a, c, rfl, h1, h2, fun h => absurd h hp⟩, fun i x hx => by simp at hx⟩

/-- x[:i] -/
theorem SliceOf.take {α : Type} {L : Lay α} {S : Nat → Prop} {w : World} {a : Option Addr} {n c : Nat} {xs : List α} (h : SliceOf L S w (.slice a n c) xs) {i : Nat} (hi : i ≤ n) : SliceOf L S w (.slice a i c) (xs.take i) := by
  obtain ⟨a', c', e, h1, h2, h3⟩ := h
  simp only [Value.slice.injEq] at e
  obtain ⟨rfl, rfl, rfl⟩ := e
  have hlen : (xs.take i).length = i := by simp; omega
  refine ⟨a, c, by rw [hlen], by omega, h2, fun hp => ?_⟩
  obtain ⟨b, o, rfl, hb, he⟩ := h3 (by omega)
  refine ⟨b, o, rfl, hb, fun j x hx => he j x ?_⟩
  rw [List.getElem?_take] at hx
  split at hx
  · exact hx
  · cases hx

/-- a slice in a cell -/
def Lay.slice {α : Type} (L : Lay α) : Lay (List α) where
  k := 1
  pos := by decide
  is := fun S w cs xs => ∃ v, cs = [v] ∧ SliceOf L S w v xs
  len := by rintro S w cs x ⟨v, rfl, _⟩; rfl
  keep := fun ⟨v, h, hs⟩ hk => ⟨v, h, hs.keep hk⟩
  mono := fun ⟨v, h, hs⟩ hk => ⟨v, h, hs.mono hk⟩
  old := fun ⟨v, h, hs⟩ => ⟨v, h, hs.old⟩
def fldLay : Lay Fld where
  k := 3
  pos := by decide
  is := fun _ _ cs f => cs = [.string f.name, .int .i64 f.kind, .string f.type]
  len := by rintro S w cs x rfl; rfl
  keep := fun h _ => h
  mono := fun h _ => h
  old := fun h => h
def typLay : Lay Typ where
  k := 2
  pos := by decide
  is := fun S w cs t => ∃ v, cs = [.string t.name, v] ∧ SliceOf fldLay S w v t.fields
  len := by rintro S w cs x ⟨v, rfl, _⟩; rfl
  keep := fun ⟨v, h, hs⟩ hk => ⟨v, h, hs.keep hk⟩
  mono := fun ⟨v, h, hs⟩ hk => ⟨v, h, hs.mono hk⟩
  old := fun ⟨v, h, hs⟩ => ⟨v, h, hs.old⟩
def chgLay : Lay Chg where
  k := 4
  pos := by decide
  is := fun _ _ cs f => cs = [.int .i64 f.kind, .string f.type, .string f.field, .string f.to]
  len := by rintro S w cs x rfl; rfl
  keep := fun h _ => h
  mono := fun h _ => h
  old := fun h => h
def ownLay : Lay Ownr where
  k := 3
  pos := by decide
  is := fun _ _ cs f => cs = [.int .i64 f.service, .string f.type, .string f.field]
  len := by rintro S w cs x rfl; rfl
  keep := fun h _ => h
  mono := fun h _ => h
  old := fun h => h
def prtLay : Lay Prt where
  k := 4
  pos := by decide
  is := fun S w cs t => ∃ v1 v2 v3, cs = [.string t.type.name, v1, v2, v3] ∧ SliceOf fldLay S w v1 t.type.fields ∧ SliceOf ownLay S w v2 t.owners ∧ SliceOf ownLay S w v3 t.homes
  len := by rintro S w cs x ⟨v1, v2, v3, rfl, _⟩; rfl
  keep := fun ⟨v1, v2, v3, h, h1, h2, h3⟩ hk => ⟨v1, v2, v3, h, h1.keep hk, h2.keep hk, h3.keep hk⟩
  mono := fun ⟨v1, v2, v3, h, h1, h2, h3⟩ hk => ⟨v1, v2, v3, h, h1.mono hk, h2.mono hk, h3.mono hk⟩
  old := fun ⟨v1, v2, v3, h, h1, h2, h3⟩ => ⟨v1, v2, v3, h, h1.old, h2.old, h3.old⟩
/-- picks of picks: n levels -/
def pckIs : Nat → (Nat → Prop) → World → List Value → Pck → Prop
  | 0, _, _, _, _ => False
  | n + 1, S, w, cs, p => ∃ a c, cs = [.string p.as, .string p.field, .slice a p.picks.length c] ∧ p.picks.length ≤ c ∧ c ≤ maxLen ∧
      (0 < p.picks.length → ∃ b o, a = some ⟨b, o, none⟩ ∧ S b ∧ ∀ (i : Nat) x, p.picks[i]? = some x → ∃ cs, At w b (o + i * 3) cs ∧ pckIs n S w cs x)
theorem pckIs_len {n : Nat} {S : Nat → Prop} {w : World} {cs : List Value} {p : Pck} (h : pckIs n S w cs p) : cs.length = 3 := by
  cases n with
  | zero => exact h.elim
  | succ n => obtain ⟨a, c, rfl, _⟩ := h; rfl
theorem pckIs_keep : ∀ {n : Nat} {S : Nat → Prop} {w w' : World} {cs : List Value} {p : Pck}, pckIs n S w cs p → Keep S w w' → pckIs n S w' cs p
  | 0, _, _, _, _, _, h, _ => h.elim
  | n + 1, S, w, w', cs, p, h, hk => by
    obtain ⟨a, c, rfl, h1, h2, h3⟩ := h
    refine ⟨a, c, rfl, h1, h2, fun hp => ?_⟩
    obtain ⟨b, o, rfl, hb, he⟩ := h3 hp
    refine ⟨b, o, rfl, hb, fun i x hx => ?_⟩
    obtain ⟨cs, hc, hi⟩ := he i x hx
    exact ⟨cs, hc.keep hk hb, pckIs_keep hi hk⟩
theorem pckIs_mono : ∀ {n : Nat} {S S' : Nat → Prop} {w : World} {cs : List Value} {p : Pck}, pckIs n S w cs p → (∀ b, S b → S' b) → pckIs n S' w cs p
  | 0, _, _, _, _, _, h, _ => h.elim
  | n + 1, S, S', w, cs, p, h, hk => by
    obtain ⟨a, c, rfl, h1, h2, h3⟩ := h
    refine ⟨a, c, rfl, h1, h2, fun hp => ?_⟩
    obtain ⟨b, o, rfl, hb, he⟩ := h3 hp
    refine ⟨b, o, rfl, hk b hb, fun i x hx => ?_⟩
    obtain ⟨cs, hc, hi⟩ := he i x hx
    exact ⟨cs, hc, pckIs_mono hi hk⟩
theorem pckIs_old : ∀ {n : Nat} {S : Nat → Prop} {w : World} {cs : List Value} {p : Pck}, pckIs n S w cs p → pckIs n (fun b => S b ∧ b < w.heap.size) w cs p
  | 0, _, _, _, _, h => h.elim
  | n + 1, S, w, cs, p, h => by
    obtain ⟨a, c, rfl, h1, h2, h3⟩ := h
    refine ⟨a, c, rfl, h1, h2, fun hp => ?_⟩
    obtain ⟨b, o, rfl, hb, he⟩ := h3 hp
    obtain ⟨cs, hc, hi⟩ := he 0 p.picks[0] (List.getElem?_eq_getElem hp)
    have hlt : b < w.heap.size := by
      have hl := pckIs_len hi
      match cs, hl with
      | c0 :: _, _ => exact hc.lt
    refine ⟨b, o, rfl, ⟨hb, hlt⟩, fun i x hx => ?_⟩
    obtain ⟨cs, hc, hi⟩ := he i x hx
    exact ⟨cs, hc, pckIs_old hi⟩
def pckLay (n : Nat) : Lay Pck where
  k := 3
  pos := by decide
  is := pckIs n
  len := pckIs_len
  keep := pckIs_keep
  mono := pckIs_mono
  old := pckIs_old
theorem pckLay_succ {n : Nat} {S : Nat → Prop} {w : World} {cs : List Value} {p : Pck} (h : (pckLay (n + 1)).is S w cs p) : ∃ v, cs = [.string p.as, .string p.field, v] ∧ SliceOf (pckLay n) S w v p.picks := by
  obtain ⟨a, c, rfl, h1, h2, h3⟩ := h
  exact ⟨_, rfl, a, c, rfl, h1, h2, h3⟩
end Go.Proofs.Ytgckpmcdlciibab

namespace Go.Proofs.Ytgckpmcdlciibab
open Go.RowKit
section
variable {P : Program} {e : Env} {w : World} {ty : TypeId} {v : Value}

/-- a block of cells, whole -/
def Box (w : World) (b : Nat) (t : TypeId) (cs : List Value) : Prop := w.heap[b]? = some (.cells cs.toArray t)
theorem Box.at {b : Nat} {t : TypeId} {cs : List Value} (h : Box w b t cs) : At w b 0 cs := fun j v hj => by
  rw [cell_of_row _ _ _ cs.toArray t (0, 0) h]
  simpa using hj
theorem Box.lt {b : Nat} {t : TypeId} {cs : List Value} (h : Box w b t cs) : b < w.heap.size := (Array.getElem?_eq_some_iff.1 h).1
theorem Box.up {w' : World} {b : Nat} {t : TypeId} {cs : List Value} (h : Box w b t cs) (hu : Up w w') : Box w' b t cs := (hu.block h.lt).trans h
theorem Box.new (w : World) (cs : List Value) (t : TypeId) : Box (w.alloc (.cells cs.toArray t)) w.heap.size t cs := heap_alloc_new w _
theorem Box.box (w : World) (v : Value) (t : TypeId) : Box (w.alloc (.cells v.cells t)) w.heap.size t v.cells.toList := by
  have := Box.new w v.cells.toList t
  simpa using this
theorem Box.keep {S : Nat → Prop} {w' : World} {b : Nat} {t : TypeId} {cs : List Value} (h : Box w b t cs) (hk : Keep S w w') (hb : S b) : Box w' b t cs := (hk b hb h.lt).trans h

/-- w' is w but for block b -/
structure But (b : Nat) (w w' : World) : Prop where
  os : w'.os = w.os
  tape : w'.tape = w.tape
  output : w'.output = w.output
  size : w.heap.size ≤ w'.heap.size
  block : ∀ k, k < w.heap.size → k ≠ b → w'.heap[k]? = w.heap[k]?
theorem But.keep {b : Nat} {w w' : World} (h : But b w w') : Keep (fun k => k ≠ b) w w' := fun k hk hlt => h.block k hlt hk
theorem But.below {B b : Nat} {w w' : World} (h : But b w w') (hB : B ≤ w.heap.size) (hb : B ≤ b) : Below B w w' := ⟨h.os, h.tape, h.output, h.size, fun k hk => h.block k (by omega) (by omega)⟩
/-- what was new since w0 is written: w0 stands -/
theorem Up.but {b : Nat} {w0 w w' : World} (h : Up w0 w) (hb : But b w w') (hlt : w0.heap.size ≤ b) : Up w0 w' := Below.trans (b := w) h (hb.below h.size hlt)
theorem But.of_up {b : Nat} {w w' : World} (h : Up w w') : But b w w' := ⟨Below.os h, Below.tape h, Below.output h, h.size, fun _ hk _ => h.block hk⟩
theorem But.trans {b : Nat} {x y z : World} (h : But b x y) (k : But b y z) : But b x z := ⟨k.os.trans h.os, k.tape.trans h.tape, k.output.trans h.output, Nat.le_trans h.size k.size, fun i hi hne => (k.block i (Nat.lt_of_lt_of_le hi h.size) hne).trans (h.block i hi hne)⟩

def Env.parts (e : Env) : List (Nat × Operand) → Option (List (Nat × Value))
  | [] => some []
  | (i, x) :: r => match e.ev x with
    | some v => match Env.parts e r with
      | some vs => some ((i, v) :: vs)
      | none => none
    | none => none
theorem Env.Sees.parts {ρ : Operand → Value} (h : e.Sees ρ) : ∀ {l : List (Nat × Operand)} {vs : List (Nat × Value)}, e.parts l = some vs → l.map (fun x => (x.1, ρ x.2)) = vs
  | [], vs, hv => by simpa [Env.parts] using hv
  | (i, x) :: r, vs, hv => by
    simp only [Env.parts] at hv
    split at hv
    · rename_i v hx
      split at hv
      · rename_i us hr
        simp at hv
        subst hv
        simp [h x v hx, Env.Sees.parts h hr]
      · cases hv
    · cases hv
/-- a struct's literal -/
theorem y_build {t : TypeId} {parts : Array (Nat × Operand)} {ps : List (Nat × Value)} (hp : e.parts parts.toList = some ps) (hb : ∀ w, (Instr.build t ps.toArray).run P w = .ok v w) : Yld P (.build t parts) ty e w v := Yld.mk fun ρ hρ => by
  have h1 : parts.map (fun x => (x.1, ρ x.2)) = ps.toArray := Array.toList_inj.1 (by simpa using hρ.parts hp)
  simp [xop, execOp, h1, hb w]
/-- a slice's literal -/
theorem e_buildSlice {t el : TypeId} {n : Nat} {parts : Array (Nat × Operand)} {ps : List (Nat × Value)} {cs : List Value} (hp : e.parts parts.toList = some ps) (hb : ∀ w, (Instr.buildSlice t n ps.toArray).run P w = .ok (.slice (some ⟨w.heap.size, 0, none⟩) n n) (w.alloc (.cells cs.toArray el))) :
    Eff P (.buildSlice t n parts) ty e w (.slice (some ⟨w.heap.size, 0, none⟩) n n) (w.alloc (.cells cs.toArray el)) := Eff.mk fun ρ hρ => by
  have h1 : parts.map (fun x => (x.1, ρ x.2)) = ps.toArray := Array.toList_inj.1 (by simpa using hρ.parts hp)
  simp [xop, execOp, h1, hb w]

theorem But.setRow (w : World) (b : Nat) (cs : Array Value) : But b w (w.setRow b cs) := ⟨rfl, rfl, rfl, by simp [World.setRow], fun k _ hne => setRow_other w b k cs hne⟩
/-- a store into a block that is known whole -/
theorem s_store {t u : TypeId} {x y : Operand} {b o : Nat} {cs cs' news : List Value} {k : Nat} [Siz P t k] (hx : e.ev x = some (.pointer (some ⟨b, o, none⟩))) (hy : e.ev y = some v) (hb : Box w b u cs) (hv : v.cells = news.toArray) (hk : news.length = k)
    (h1 : ∀ c ∈ news, c.oneCell' = true) (hfit : o + news.length ≤ cs.length) (hcs : cs.take o ++ news ++ cs.drop (o + news.length) = cs') :
    ∃ w', Sto P (.store t x y) ty e w w' ∧ But b w w' ∧ Box w' b u cs' := by
  have h2 := Siz.run P t (k := k) w
  have h3 := run_storeCells_at P b o u news 0 cs.toArray w hb (by simpa using hfit) h1
  refine ⟨w.setRow b cs'.toArray, Sto.mk fun ρ hρ => ?_, But.setRow w b _, ?_⟩
  · subst hk
    subst hcs
    simp at h3
    simp [xop, execOp, hρ x _ hx, hρ y _ hy, Instr.storeAt, Instr.sureAddr, storeVar, hv, h2, h3]
  · have := setRow_heap w b cs.toArray cs'.toArray u (0, 0) hb
    exact this
end
end Go.Proofs.Ytgckpmcdlciibab

namespace Go.Proofs.Ytgckpmcdlciibab
open Go.RowKit
section
variable {P : Program} {f : FuncId} {N : Nat} {k : List Item} {K : Act → World → Prop} {e : Env} {w : World} {R : Ending → World → Prop}
variable {ops : Array Oper} {rest : List Oper} {d : Nat} {op : Op} {ty : TypeId} {ps : String} {af : Array Edge} {g : Option (Nat × Bool)} {v : Value}

theorem RL.alloc {t : TypeId} {z : Value} [Zer P t z] (hw : Wants ops e g) (hd : Nat.blt d N = true) (h : ∀ w1, Up w w1 → Box w1 w.heap.size t z.cells.toList → w1.heap.size = w.heap.size + 1 → RL P f N ops rest K ((d, .pointer (some ⟨w.heap.size, 0, none⟩)) :: e) w1 R) :
    RL P f N ops ({ dst := some d, op := .alloc t, type := ty, pos := ps, after := af, guard := g } :: rest) K e w R :=
  RL.eff hw hd e_alloc (h _ (Up.alloc w _) (Box.box w z t) (by simp))
theorem RL.box {t : TypeId} {x : Operand} (hw : Wants ops e g) (hd : Nat.blt d N = true) (hx : e.ev x = some v) (h : ∀ w1, Up w w1 → Box w1 w.heap.size t v.cells.toList → w1.heap.size = w.heap.size + 1 → RL P f N ops rest K ((d, .pointer (some ⟨w.heap.size, 0, none⟩)) :: e) w1 R) :
    RL P f N ops ({ dst := some d, op := .box t x, type := ty, pos := ps, after := af, guard := g } :: rest) K e w R :=
  RL.eff hw hd (e_box hx) (h _ (Up.alloc w _) (Box.box w v t) (by simp))
theorem RL.store {t u : TypeId} {x y : Operand} {b o : Nat} {cs cs' news : List Value} {n : Nat} [Siz P t n] (hw : Wants ops e g) (hx : e.ev x = some (.pointer (some ⟨b, o, none⟩))) (hy : e.ev y = some v) (hb : Box w b u cs) (hv : v.cells = news.toArray) (hk : news.length = n)
    (h1 : ∀ c ∈ news, c.oneCell' = true) (hfit : o + news.length ≤ cs.length) (hcs : cs.take o ++ news ++ cs.drop (o + news.length) = cs') (h : ∀ w1, But b w w1 → Box w1 b u cs' → RL P f N ops rest K e w1 R) :
    RL P f N ops ({ dst := none, op := .store t x y, type := ty, pos := ps, after := af, guard := g } :: rest) K e w R := by
  obtain ⟨w1, hs, hb1, hb2⟩ := s_store (P := P) (ty := ty) (t := t) (k := n) hx hy hb hv hk h1 hfit hcs
  exact RL.sto hw hs (h w1 hb1 hb2)
theorem RL.build {n : Nat} {t el : TypeId} {parts : Array (Nat × Operand)} {qs : List (Nat × Value)} (cs : List Value) (hw : Wants ops e g) (hd : Nat.blt d N = true) (hp : e.parts parts.toList = some qs) (hb : ∀ w, (Instr.buildSlice t n qs.toArray).run P w = .ok (.slice (some ⟨w.heap.size, 0, none⟩) n n) (w.alloc (.cells cs.toArray el)))
    (h : ∀ w1, Up w w1 → Box w1 w.heap.size el cs → w1.heap.size = w.heap.size + 1 → RL P f N ops rest K ((d, .slice (some ⟨w.heap.size, 0, none⟩) n n) :: e) w1 R) :
    RL P f N ops ({ dst := some d, op := .buildSlice t n parts, type := ty, pos := ps, after := af, guard := g } :: rest) K e w R :=
  RL.eff hw hd (e_buildSlice hp hb) (h _ (Up.alloc w _) (Box.new w cs el) (by simp))

theorem run_loadVar_cells {t : TypeId} {b o n : Nat} {cs : List Value} [Stc P t] [Siz P t n] (hc : At w b o cs) (hk : cs.length = n) : (loadVar t ⟨b, o, none⟩).run P w = .ok (.agg cs.toArray) w := by
  have h1 := Stc.isAgg P t w
  have h2 := Siz.run P t (k := n) w
  have h3 := run_loadCellsFrom (P := P) (w := w) (b := b) (o := o) cs 0 #[] (by simpa [At] using hc)
  subst hk
  simp [loadVar, h1, h2, loadCells, h3]
variable {fn : Func}
theorem Sim.retC {a b n : Nat} {t : TypeId} {cs : List Value} [Stc P t] [Siz P t n] (hf : P.funcs[f]? = some fn) (hr : fn.results = #[.cell a t]) (ha : e.get a = some (.pointer (some ⟨b, 0, none⟩))) (hc : At w b 0 cs) (hk : cs.length = n) (hR : R (.returned (.agg cs.toArray)) w) :
    Sim P f N (.code .ret :: k) e w R := Sim.ret hf (fun tm hok => by simp [results, hr, hok.get _ _ ha, asAddr, run_loadVar_cells hc hk]) hR
theorem Sim.retCC {a b n a' b' n' : Nat} {t t' : TypeId} {cs cs' : List Value} [Stc P t] [Siz P t n] [Stc P t'] [Siz P t' n'] (hf : P.funcs[f]? = some fn) (hr : fn.results = #[.cell a t, .cell a' t']) (ha : e.get a = some (.pointer (some ⟨b, 0, none⟩))) (hc : At w b 0 cs) (hk : cs.length = n)
    (ha' : e.get a' = some (.pointer (some ⟨b', 0, none⟩))) (hc' : At w b' 0 cs') (hk' : cs'.length = n') (hR : R (.returned (.tuple #[.agg cs.toArray, .agg cs'.toArray])) w) :
    Sim P f N (.code .ret :: k) e w R := Sim.ret hf (fun tm hok => by simp [results, hr, hok.get _ _ ha, hok.get _ _ ha', asAddr, run_loadVar_cells hc hk, run_loadVar_cells hc' hk']) hR
end
/-- the ways through x meet behind it -/
theorem Sim.cut {P : Program} {f : FuncId} {N : Nat} {k : List Item} {e : Env} {w : World} {R : Ending → World → Prop} {x : Code} (E : Env) (I : World → Prop)
    (first : ∀ k', (∀ w' e', I w' → Env.Sub E e' → Sim P f N k' e' w' R) → Sim P f N (.code x :: k') e w R) (rest : ∀ w', I w' → Sim P f N k E w' R) : Sim P f N (.code x :: k) e w R :=
  first k fun w' _ hI hs => Sim.weaken (rest w' hI) hs
theorem q_call {P : Program} {c : FuncId} {args : Array Value} {w0 wq : World} {v : Value} (h : Calls P c args wq fun en w' => en = .returned v ∧ Up wq w') (hq : Up w0 wq) : Calls P c args wq fun en w' => en = .returned v ∧ Up w0 w' :=
  h.mono fun _ _ ⟨he, hu⟩ => ⟨he, hq.trans hu⟩
/-- a result known otherwise -/
theorem c_val {P : Program} {c : FuncId} {args : Array Value} {w : World} {v v' : Value} {K : World → Prop} (h : Calls P c args w fun en w' => en = .returned v ∧ K w') (hv : v = v') : Calls P c args w fun en w' => en = .returned v' ∧ K w' := hv ▸ h
/-- comparison of a pointer with nil -/
theorem run_equalIn_nil {P : Program} {t el : TypeId} [IsPtr P t el] (d : Nat) (a : Option Addr) (w : World) : (Op.equalIn (d + 1) t (.pointer a) (.pointer none)).run P w = .ok a.isNone w := by
  have h1 := run_underlying (IsPtr.h (P := P) (t := t) (el := el)) w
  cases a <;> simp [Op.equalIn, h1]
theorem run_equal_nil {P : Program} {t el : TypeId} [IsPtr P t el] (a : Option Addr) (w : World) : (Op.equal t (.pointer a) (.pointer none)).run P w = .ok a.isNone w := run_equalIn_nil (el := el) 9999 a w
theorem run_eqGuard_ptr {P : Program} (op : BinOp) (t : TypeId) (x y : Operand) (a b : Option Addr) (w : World) : (eqGuard op t x y (.pointer a) (.pointer b)).run P w = .ok () w := by
  unfold eqGuard
  split <;> simp
theorem y_neqNil {P : Program} {e : Env} {w : World} {ty t u el : TypeId} {x : Operand} {a : Option Addr} [IsPtr P t el] (hx : e.ev x = some (.pointer a)) : Yld P (.binOp .neq t x (.const (.pointer none)) u) ty e w (.bool a.isSome) := Yld.mk fun ρ hρ => by
  have h1 := run_equal_nil (P := P) (t := t) (el := el) a w
  have h2 := hρ (.const (.pointer none)) _ rfl
  have h3 := run_eqGuard_ptr (P := P) .neq t x (.const (.pointer none)) a none w
  have h4 : binOp .neq t (.pointer a) (.pointer none) = (Op.equal t (.pointer a) (.pointer none) >>= fun b => pure (.bool (!b))) := rfl
  simp only [xop, execOp, hρ x _ hx, h2, Sem.run_bind, h3, Result.andThen_ok, h4, h1, Sem.run_pure]
  cases a <;> rfl
theorem y_eqlNil {P : Program} {e : Env} {w : World} {ty t u el : TypeId} {x : Operand} {a : Option Addr} [IsPtr P t el] (hx : e.ev x = some (.pointer a)) : Yld P (.binOp .eql t x (.const (.pointer none)) u) ty e w (.bool a.isNone) := Yld.mk fun ρ hρ => by
  have h1 := run_equal_nil (P := P) (t := t) (el := el) a w
  have h2 := hρ (.const (.pointer none)) _ rfl
  have h3 := run_eqGuard_ptr (P := P) .eql t x (.const (.pointer none)) a none w
  have h4 : binOp .eql t (.pointer a) (.pointer none) = (Op.equal t (.pointer a) (.pointer none) >>= fun b => pure (.bool b)) := rfl
  simp only [xop, execOp, hρ x _ hx, h2, Sem.run_bind, h3, Result.andThen_ok, h4, h1, Sem.run_pure]
theorem y_neqNilF {P : Program} {e : Env} {w : World} {ty t u el : TypeId} {x : Operand} [IsPtr P t el] (hx : e.ev x = some (.pointer none)) : Yld P (.binOp .neq t x (.const (.pointer none)) u) ty e w (.bool false) := y_neqNil (el := el) hx
theorem y_neqNilT {P : Program} {e : Env} {w : World} {ty t u el : TypeId} {x : Operand} {a : Addr} [IsPtr P t el] (hx : e.ev x = some (.pointer (some a))) : Yld P (.binOp .neq t x (.const (.pointer none)) u) ty e w (.bool true) := y_neqNil (el := el) hx
theorem y_eqlNilT {P : Program} {e : Env} {w : World} {ty t u el : TypeId} {x : Operand} [IsPtr P t el] (hx : e.ev x = some (.pointer none)) : Yld P (.binOp .eql t x (.const (.pointer none)) u) ty e w (.bool true) := y_eqlNil (el := el) hx
theorem y_eqlNilF {P : Program} {e : Env} {w : World} {ty t u el : TypeId} {x : Operand} {a : Addr} [IsPtr P t el] (hx : e.ev x = some (.pointer (some a))) : Yld P (.binOp .eql t x (.const (.pointer none)) u) ty e w (.bool false) := y_eqlNil (el := el) hx
theorem y_neqSF {P : Program} {e : Env} {w : World} {ty t u : TypeId} {x y : Operand} {a b : ByteArray} (h : a = b) (hx : e.ev x = some (.string a)) (hy : e.ev y = some (.string b)) : Yld P (.binOp .neq t x y u) ty e w (.bool false) := dF (fun hn => hn h) (y_neqS hx hy)
end Go.Proofs.Ytgckpmcdlciibab

namespace Go.Proofs.Ytgckpmcdlciibab
open Go.RowKit
section
variable {P : Program} {e : Env} {w : World} {ty : TypeId} {v : Value}
class IsBool (P : Program) (t : TypeId) : Prop where
  h : P.underlying t = some .bool
theorem run_eqGuard_bool (op : BinOp) (t : TypeId) (x y : Operand) (a b : Bool) (w : World) : (eqGuard op t x y (.bool a) (.bool b)).run P w = .ok () w := by
  unfold eqGuard
  split <;> simp
theorem y_neqB {t u : TypeId} {x y : Operand} {a b : Bool} [IsBool P t] (hx : e.ev x = some (.bool a)) (hy : e.ev y = some (.bool b)) : Yld P (.binOp .neq t x y u) ty e w (.bool (a != b)) := Yld.mk fun ρ hρ => by
  have h1 := run_equalIn_bool' (P := P) w 9999 t a b IsBool.h
  have h3 := run_eqGuard_bool (P := P) .neq t x y a b w
  have h4 : binOp .neq t (.bool a) (.bool b) = (Op.equal t (.bool a) (.bool b) >>= fun b => pure (.bool (!b))) := rfl
  have h5 : (Op.equal t (.bool a) (.bool b)).run P w = .ok (a == b) w := h1
  simp only [xop, execOp, hρ x _ hx, hρ y _ hy, Sem.run_bind, h3, Result.andThen_ok, h4, h5, Sem.run_pure]
  rfl
theorem y_neqBF {t u : TypeId} {x y : Operand} {a : Bool} [IsBool P t] (hx : e.ev x = some (.bool a)) (hy : e.ev y = some (.bool a)) : Yld P (.binOp .neq t x y u) ty e w (.bool false) := by
  have := y_neqB (P := P) (w := w) (ty := ty) (t := t) (u := u) hx hy
  simpa using this
end
instance : IsBool Try.prog 4 := ⟨Try.underlying4⟩
section
variable {P : Program} {f : FuncId} {N : Nat} {k : List Item} {K : Act → World → Prop} {e : Env} {w : World} {R : Ending → World → Prop} {C : World → Prop}
variable {ops : Array Oper} {rest : List Oper} {d : Nat} {op : Op} {ty : TypeId} {ps : String} {af : Array Edge} {g : Option (Nat × Bool)} {v : Value}
theorem sb {e' e : Env} (h : Env.Sub e' e := by repeat (first | exact Env.Sub.nil _ | refine Env.Sub.cons rfl ?_)) : Env.Sub e' e := h
/-- one operation that yields a value: the rule is looked for -/
theorem RL.vv (h : RL P f N ops rest K ((d, v) :: e) w R) (hw : Wants ops e g := by first | exact trivial | exact ⟨_, _, rfl, rfl, rfl⟩) (hd : Nat.blt d N = true := by rfl) (hy : Yld P op ty e w v := by (first | exact y_move rfl | exact y_assign rfl | exact y_pickT rfl rfl | exact y_pickF rfl rfl | exact y_nilCheck rfl | exact y_notT rfl | exact y_notF rfl | exact y_not rfl | exact y_len rfl | exact y_lenS rfl | exact y_fieldAddr rfl | exact y_makeFunc rfl | exact y_neqNilF rfl | exact y_neqBF rfl rfl | exact y_neqNilT rfl | exact y_eqlNilF rfl | exact y_eqlNilT rfl | exact y_loadF rfl (by assumption) rfl | exact y_loadF rfl (Box.at (by assumption)) rfl | exact y_loadF rfl (At.up (by assumption) hq) rfl | exact y_loadF rfl (Box.at (Box.up (by assumption) hq)) rfl | exact y_loadF rfl (At.up (w := w) (by assumption) hu) rfl | exact y_loadF rfl (At.up (w := w) (by assumption) (hu.trans hq)) rfl | exact y_load0 rfl (by assumption) rfl | exact y_load0 rfl (Box.at (by assumption)) rfl | exact y_load0 rfl (At.up (by assumption) hq) rfl | exact y_load0 rfl (Box.at (Box.up (by assumption) hq)) rfl | exact y_load0 rfl (At.up (w := w) (by assumption) hu) rfl | exact y_load0 rfl (At.up (w := w) (by assumption) (hu.trans hq)) rfl | exact y_load1 rfl (by assumption) | exact y_loadA rfl (by assumption) (by first | rfl | assumption) | exact y_loadA rfl (Box.at (by assumption)) rfl | exact y_loadA rfl (At.up (by assumption) hq) (by first | rfl | assumption) | exact y_loadA rfl (At.up (w := w) (by assumption) hu) (by first | rfl | assumption) | exact y_loadA rfl (At.up (w := w) (by assumption) (hu.trans hq)) (by first | rfl | assumption) | exact y_extract rfl rfl | exact dT (by (first | assumption | omega)) (y_lss rfl rfl) | exact dF (by (first | assumption | omega)) (y_lss rfl rfl) | exact dT (by (first | assumption | omega)) (y_gtr rfl rfl) | exact dF (by (first | assumption | omega)) (y_gtr rfl rfl) | exact dT (by (first | assumption | omega)) (y_geq rfl rfl) | exact dF (by (first | assumption | omega)) (y_geq rfl rfl) | exact dT (by (first | assumption | omega)) (y_leq rfl rfl) | exact dF (by (first | assumption | omega)) (y_leq rfl rfl) | exact dT (by (first | assumption | omega)) (y_eql rfl rfl) | exact dF (by (first | assumption | omega)) (y_eql rfl rfl) | exact dT (by (first | assumption | omega)) (y_neq rfl rfl) | exact dF (by (first | assumption | omega)) (y_neq rfl rfl) | exact y_lss rfl rfl | exact y_gtr rfl rfl | exact y_geq rfl rfl | exact y_leq rfl rfl | exact y_eql rfl rfl | exact y_neq rfl rfl | exact y_indexAddr rfl rfl (by omega) | exact y_inc rfl rfl (by omega) | exact dT (by assumption) (y_eqlS rfl rfl) | exact dF (by assumption) (y_eqlS rfl rfl) | exact dT (by assumption) (y_neqS rfl rfl) | exact y_neqSF (by assumption) rfl rfl | exact y_eqlS rfl rfl | exact y_neqS rfl rfl | exact y_indexS rfl rfl (by assumption) | exact y_sliceHi rfl rfl (by omega))) :
    RL P f N ops ({ dst := some d, op := op, type := ty, pos := ps, after := af, guard := g } :: rest) K e w R := RL.val hw hd hy h
theorem RL.p (h : RL P f N ops rest K ((d, undef) :: e) w R) (hw : Spurns ops e g := by first | exact ⟨_, _, rfl, rfl, .inl rfl⟩ | exact ⟨_, _, rfl, rfl, .inr rfl⟩) (hd : Nat.blt d N = true := by rfl) :
    RL P f N ops ({ dst := some d, op := op, type := ty, pos := ps, after := af, guard := g } :: rest) K e w R := RL.pass hw hd h
theorem RQ.vv (h : RQ P f N ops C rest k ((d, v) :: e) R) (hw : Wants ops e g := by first | exact trivial | exact ⟨_, _, rfl, rfl, rfl⟩) (hd : Nat.blt d N = true := by rfl) (hy : ∀ w, C w → Yld P op ty e w v := by (intro wq hq; (first | exact y_move rfl | exact y_assign rfl | exact y_pickT rfl rfl | exact y_pickF rfl rfl | exact y_nilCheck rfl | exact y_notT rfl | exact y_notF rfl | exact y_not rfl | exact y_len rfl | exact y_lenS rfl | exact y_fieldAddr rfl | exact y_makeFunc rfl | exact y_neqNilF rfl | exact y_neqBF rfl rfl | exact y_neqNilT rfl | exact y_eqlNilF rfl | exact y_eqlNilT rfl | exact y_loadF rfl (by assumption) rfl | exact y_loadF rfl (Box.at (by assumption)) rfl | exact y_loadF rfl (At.up (by assumption) hq) rfl | exact y_loadF rfl (Box.at (Box.up (by assumption) hq)) rfl | exact y_loadF rfl (At.up (w := w) (by assumption) hu) rfl | exact y_loadF rfl (At.up (w := w) (by assumption) (hu.trans hq)) rfl | exact y_load0 rfl (by assumption) rfl | exact y_load0 rfl (Box.at (by assumption)) rfl | exact y_load0 rfl (At.up (by assumption) hq) rfl | exact y_load0 rfl (Box.at (Box.up (by assumption) hq)) rfl | exact y_load0 rfl (At.up (w := w) (by assumption) hu) rfl | exact y_load0 rfl (At.up (w := w) (by assumption) (hu.trans hq)) rfl | exact y_load1 rfl (by assumption) | exact y_loadA rfl (by assumption) (by first | rfl | assumption) | exact y_loadA rfl (Box.at (by assumption)) rfl | exact y_loadA rfl (At.up (by assumption) hq) (by first | rfl | assumption) | exact y_loadA rfl (At.up (w := w) (by assumption) hu) (by first | rfl | assumption) | exact y_loadA rfl (At.up (w := w) (by assumption) (hu.trans hq)) (by first | rfl | assumption) | exact y_extract rfl rfl | exact dT (by (first | assumption | omega)) (y_lss rfl rfl) | exact dF (by (first | assumption | omega)) (y_lss rfl rfl) | exact dT (by (first | assumption | omega)) (y_gtr rfl rfl) | exact dF (by (first | assumption | omega)) (y_gtr rfl rfl) | exact dT (by (first | assumption | omega)) (y_geq rfl rfl) | exact dF (by (first | assumption | omega)) (y_geq rfl rfl) | exact dT (by (first | assumption | omega)) (y_leq rfl rfl) | exact dF (by (first | assumption | omega)) (y_leq rfl rfl) | exact dT (by (first | assumption | omega)) (y_eql rfl rfl) | exact dF (by (first | assumption | omega)) (y_eql rfl rfl) | exact dT (by (first | assumption | omega)) (y_neq rfl rfl) | exact dF (by (first | assumption | omega)) (y_neq rfl rfl) | exact y_lss rfl rfl | exact y_gtr rfl rfl | exact y_geq rfl rfl | exact y_leq rfl rfl | exact y_eql rfl rfl | exact y_neq rfl rfl | exact y_indexAddr rfl rfl (by omega) | exact y_inc rfl rfl (by omega) | exact dT (by assumption) (y_eqlS rfl rfl) | exact dF (by assumption) (y_eqlS rfl rfl) | exact dT (by assumption) (y_neqS rfl rfl) | exact y_neqSF (by assumption) rfl rfl | exact y_eqlS rfl rfl | exact y_neqS rfl rfl | exact y_indexS rfl rfl (by assumption) | exact y_sliceHi rfl rfl (by omega)))) :
    RQ P f N ops C ({ dst := some d, op := op, type := ty, pos := ps, after := af, guard := g } :: rest) k e R := RQ.val hw hd hy h
theorem RQ.p (h : RQ P f N ops C rest k ((d, undef) :: e) R) (hw : Spurns ops e g := by first | exact ⟨_, _, rfl, rfl, .inl rfl⟩ | exact ⟨_, _, rfl, rfl, .inr rfl⟩) (hd : Nat.blt d N = true := by rfl) :
    RQ P f N ops C ({ dst := some d, op := op, type := ty, pos := ps, after := af, guard := g } :: rest) k e R := RQ.pass hw hd h
end
end Go.Proofs.Ytgckpmcdlciibab

namespace Go.Proofs.Ytgckpmcdlciibab
open Go.RowKit
theorem flat_get {k : Nat} : ∀ {css : List (List Value)} {i j : Nat} {cs : List Value} {v : Value}, (∀ c ∈ css, c.length = k) → css[i]? = some cs → cs[j]? = some v → css.flatten[i * k + j]? = some v
  | [], i, j, cs, v, _, hi, _ => by simp at hi
  | c :: css, 0, j, cs, v, h, hi, hj => by
    simp at hi
    subst hi
    have hlt : j < c.length := (List.getElem?_eq_some_iff.1 hj).1
    rw [List.flatten_cons, Nat.zero_mul, Nat.zero_add, List.getElem?_append_left hlt]
    exact hj
  | c :: css, i + 1, j, cs, v, h, hi, hj => by
    have hc := h c (by simp)
    rw [List.flatten_cons, List.getElem?_append_right (by rw [hc, Nat.add_mul, Nat.one_mul]; omega), hc, show (i + 1) * k + j - k = i * k + j by rw [Nat.add_mul, Nat.one_mul]; omega]
    exact flat_get (fun c' hc' => h c' (by simp [hc'])) (by simpa using hi) hj
/-- a slice that lies from the head of a block on -/
theorem SliceOf.lit {α : Type} {L : Lay α} {S : Nat → Prop} {w : World} {b : Nat} (css : List (List Value)) (xs : List α) {c : Nat} (hb : At w b 0 css.flatten) (hl : css.length = xs.length) (hc : xs.length ≤ c) (hm : c ≤ maxLen) (hS : S b)
    (h : ∀ (i : Nat) cs x, css[i]? = some cs → xs[i]? = some x → L.is S w cs x) : SliceOf L S w (.slice (some ⟨b, 0, none⟩) xs.length c) xs := by
  refine ⟨_, c, rfl, hc, hm, fun _ => ⟨b, 0, rfl, hS, fun i x hx => ?_⟩⟩
  have hi : i < css.length := by have := (List.getElem?_eq_some_iff.1 hx).1; omega
  refine ⟨css[i], fun j v hj => ?_, h i _ x (List.getElem?_eq_getElem hi) hx⟩
  have hall : ∀ cs ∈ css, cs.length = L.k := fun cs hcs => by
    obtain ⟨m, hm', rfl⟩ := List.getElem_of_mem hcs
    exact L.len (h m _ xs[m] (List.getElem?_eq_getElem hm') (List.getElem?_eq_getElem (by omega)))
  have := hb _ _ (flat_get hall (List.getElem?_eq_getElem hi) hj)
  rwa [Nat.zero_add] at this ⊢
theorem SliceOf.lit1 {α : Type} {L : Lay α} {S : Nat → Prop} {w : World} {b : Nat} (cs : List Value) (x : α) (hb : At w b 0 cs) (hS : S b) (h : L.is S w cs x) : SliceOf L S w (.slice (some ⟨b, 0, none⟩) 1 1) [x] :=
  SliceOf.lit [cs] [x] (by simpa using hb) rfl (Nat.le_refl _) (by simp [maxLen]) hS fun i cs' y h1 h2 => by
    match i, h1, h2 with
    | 0, h1, h2 => simp at h1 h2; subst h1; subst h2; exact h
    | i + 1, h1, _ => simp at h1
end Go.Proofs.Ytgckpmcdlciibab

namespace Go.Proofs.Ytgckpmcdlciibab
open Go.RowKit

/-- elements' cells are such as a store takes -/
class OneC {α : Type} (L : Lay α) : Prop where
  h : ∀ {S w cs x}, L.is S w cs x → ∀ c ∈ cs, c.oneCell' = true

/-- a row of elements in a block (B or later) that is ours alone; what they lead to lies in S and elsewhere -/
def Own {α : Type} (L : Lay α) (el : TypeId) (B : Nat) (S : Nat → Prop) (w : World) (v : Value) (xs : List α) : Prop :=
  ∃ css : List (List Value), w.ownsRow B el L.k v xs.length css.flatten ∧ css.length = xs.length ∧ ∀ (i : Nat) cs x, css[i]? = some cs → xs[i]? = some x → L.is (fun b => S b ∧ some b ≠ v.ownBlock) w cs x

section
variable {α : Type} {L : Lay α} {el : TypeId} {B : Nat} {S : Nat → Prop} {w w' : World} {v : Value} {xs : List α}
theorem Own.shape (h : Own L el B S w v xs) : ∃ a c, v = .slice a xs.length c := by
  obtain ⟨css, ho, _, _⟩ := h
  rcases ho.2 with ⟨rfl, h0⟩ | ⟨g, cap, cur, rfl, _⟩
  · exact ⟨none, 0, by rw [h0]⟩
  · exact ⟨_, cap, rfl⟩
theorem Own.nil (L : Lay α) (el : TypeId) (B : Nat) (S : Nat → Prop) (w : World) : Own L el B S w (.slice none 0 0) [] := ⟨[], World.ownsRow_nil w B el L.k, rfl, fun i cs x h => by simp at h⟩
theorem Own.keep {S' : Nat → Prop} (h : Own L el B S w v xs) (hk : Keep S' w w') (hS : ∀ b, S b → S' b) (hv : ∀ g, v.ownBlock = some g → S' g) : Own L el B S w' v xs := by
  obtain ⟨css, ho, hl, hi⟩ := h
  refine ⟨css, ⟨ho.1, ?_⟩, hl, fun i cs x h1 h2 => L.keep (hi i cs x h1 h2) fun b hb => hk b (hS b hb.1)⟩
  rcases ho.2 with hn | ⟨g, cap, cur, rfl, hb, hg, hr⟩
  · exact .inl hn
  · exact .inr ⟨g, cap, cur, rfl, hb, (hk g (hv g rfl) (Array.getElem?_eq_some_iff.1 hg).1).trans hg, hr⟩
theorem Own.up (h : Own L el B S w v xs) (hu : Up w w') : Own L el B S w' v xs := h.keep (S' := fun _ => True) (.of_up hu) (fun _ _ => trivial) fun _ _ => trivial
theorem Own.lt (h : Own L el B S w v xs) : ∀ k, v.ownBlock = some k → B ≤ k ∧ k < w.heap.size := by
  obtain ⟨css, ho, _, _⟩ := h
  exact ho.lt
theorem flat_at {w : World} {k : Nat} : ∀ {css : List (List Value)} {b o : Nat}, (∀ c ∈ css, c.length = k) → (∀ (i : Nat) cs, css[i]? = some cs → At w b (o + i * k) cs) → At w b o css.flatten
  | [], b, o, _, _ => fun j v hj => by simp at hj
  | c :: css, b, o, hk, h => fun j v hj => by
    have hc := hk c (by simp)
    rw [List.flatten_cons] at hj
    by_cases hlt : j < c.length
    · rw [List.getElem?_append_left hlt] at hj
      have := h 0 c rfl j v hj
      rwa [Nat.zero_mul, Nat.add_zero] at this
    · rw [List.getElem?_append_right (by omega)] at hj
      have := flat_at (b := b) (o := o + k) (css := css) (fun c' hc' => hk c' (by simp [hc'])) (fun i cs hi => by
        have := h (i + 1) cs (by simpa using hi)
        rwa [Nat.add_mul, Nat.one_mul, Nat.add_comm (i * k), ← Nat.add_assoc] at this) _ _ hj
      rwa [hc, show o + k + (j - k) = o + j by omega] at this
theorem flat_len {k : Nat} : ∀ {css : List (List Value)}, (∀ c ∈ css, c.length = k) → css.flatten.length = css.length * k
  | [], _ => by simp
  | c :: css, h => by rw [List.flatten_cons, List.length_append, h c (by simp), flat_len (css := css) fun c' hc' => h c' (by simp [hc']), List.length_cons, Nat.add_mul, Nat.one_mul, Nat.add_comm]
theorem Own.slice (h : Own L el B S w v xs) (S2 : Nat → Prop) (hS : ∀ b, S b → S2 b) (hv : ∀ g, v.ownBlock = some g → S2 g) : SliceOf L S2 w v xs := by
  obtain ⟨css, ho, hl, hi⟩ := h
  rcases ho.2 with ⟨rfl, h0⟩ | ⟨g, cap, cur, rfl, hb, hg, hc, hm, hr⟩
  · have : xs = [] := List.eq_nil_of_length_eq_zero h0
    subst this
    exact SliceOf.nil _ _ _
  · have hcell := ho.cells (g := g) rfl
    exact SliceOf.lit css xs (fun j u hj => by have := hcell j u hj; rwa [addr_add] at this) hl hc hm (hv g rfl) fun i cs x h1 h2 => L.mono (hi i cs x h1 h2) fun b hb => hS b hb.1
/-- what a slice holds, as cells -/
theorem SliceOf.flat {xv : Value} (h : SliceOf L S w xv xs) (hp : 0 < xs.length) : ∃ (b o c : Nat) (css : List (List Value)), xv = .slice (some ⟨b, o, none⟩) xs.length c ∧ css.length = xs.length ∧ At w b o css.flatten ∧ (∀ c ∈ css, c.length = L.k) ∧ ∀ (i : Nat) cs x, css[i]? = some cs → xs[i]? = some x → L.is S w cs x := by
  obtain ⟨a, c, rfl, h1, h2, h3⟩ := h
  obtain ⟨b, o, rfl, hb, he⟩ := h3 hp
  have hex : ∀ i : Nat, ∃ cs, ∀ x, xs[i]? = some x → At w b (o + i * L.k) cs ∧ L.is S w cs x := fun i => by
    cases hx : xs[i]? with
    | none => exact ⟨[], fun x h => by cases h⟩
    | some x =>
      obtain ⟨cs, hcs⟩ := he i x hx
      exact ⟨cs, fun y hy => by cases hy; exact hcs⟩
  obtain ⟨f, hf⟩ := Classical.axiomOfChoice hex
  have hget : ∀ (i : Nat) cs, ((List.range xs.length).map f)[i]? = some cs → ∃ x, xs[i]? = some x ∧ cs = f i := fun i cs hi => by
    simp only [List.getElem?_map, Option.map_eq_some_iff] at hi
    obtain ⟨j, hj, rfl⟩ := hi
    have hlt := (List.getElem?_eq_some_iff.1 hj).1
    simp at hlt
    simp [List.getElem?_range hlt] at hj
    subst hj
    exact ⟨xs[i], List.getElem?_eq_getElem hlt, rfl⟩
  have hk : ∀ c ∈ (List.range xs.length).map f, c.length = L.k := fun cs hcs => by
    obtain ⟨m, hm, rfl⟩ := List.getElem_of_mem hcs
    obtain ⟨x, hx, he⟩ := hget m _ (List.getElem?_eq_getElem hm)
    rw [he]
    exact L.len (hf m x hx).2
  refine ⟨b, o, c, (List.range xs.length).map f, rfl, by simp, flat_at hk fun i cs hi => ?_, hk, fun i cs x hi hx => ?_⟩
  · obtain ⟨x, hx, rfl⟩ := hget i cs hi
    exact (hf i x hx).1
  · obtain ⟨y, hy, rfl⟩ := hget i cs hi
    exact (hf i x hx).2
end
theorem run_append_none {P : Program} {w : World} {t ty el : TypeId} {k : Nat} [Sli P t el] [Siz P el k] (a : Option Addr) (n c c2 : Nat) (hc : n ≤ c) (a2 : Option Addr) :
    (Builtin.append_ #[t, t] ty #[.slice a n c, .slice a2 0 c2]).run P w = .ok (.slice a n c) w := by
  have h1 := run_underlying (Sli.h (P := P) (t := t) (el := el)) w
  have h2 := Siz.run P el (k := k) w
  cases a <;> cases a2 <;> simp [Builtin.append_, h1, h2, Builtin.lenOf, hc, Builtin.firstCells, loadCells, loadCellsFrom, storeCells]
section
variable {P : Program} {f : FuncId} {N : Nat} {k : List Item} {K : Act → World → Prop} {e : Env} {w w' : World} {R : Ending → World → Prop}
variable {ops : Array Oper} {rest : List Oper} {d : Nat} {ty : TypeId} {ps : String} {af : Array Edge} {g : Option (Nat × Bool)} {v : Value}
theorem e_append {t : TypeId} {x y : Operand} {xv v' : Value} (hx : e.ev x = some v) (hy : e.ev y = some xv) (hr : (Builtin.append_ #[t, t] ty #[v, xv]).run P w = .ok v' w') : Eff P (.call { callee := .builtin .append, args := #[x, y], argTypes := #[t, t] }) ty e w v' w' := Eff.mk fun ρ hρ => by
  simp [xop, execOp, hρ x _ hx, hρ y _ hy, resolve, invoke, builtin, hr]
theorem Grown.below {B : Nat} {row : Option Nat} (h : w.grownBy w' row) (hB : B ≤ w.heap.size) (hr : ∀ k, row = some k → B ≤ k) : Below B w w' :=
  ⟨h.os, h.tape, h.output, h.size, fun i hi => h.block i (by omega) fun e => by have := hr i e.symm; omega⟩
theorem Grown.up {w0 : World} {row : Option Nat} (h : w.grownBy w' row) (hu : Up w0 w) (hr : ∀ k, row = some k → w0.heap.size ≤ k) : Up w0 w' := Below.trans (b := w) hu (Grown.below h hu.size hr)
theorem Grown.keep {row : Option Nat} (h : w.grownBy w' row) : Keep (fun b => some b ≠ row) w w' := fun b hb hlt => h.block b hlt hb
end
end Go.Proofs.Ytgckpmcdlciibab

namespace Go.Proofs.Ytgckpmcdlciibab
open Go.RowKit
theorem append_wide {P : Program} {α : Type} {L : Lay α} [OneC L] {t el : TypeId} (ty : TypeId) {by_ : Nat} {z : Value} [h1 : Sli P t el] [h2 : Siz P el L.k] [h3 : Byt P el by_] [h4 : Zer P el z] (hz : z.cells.size = L.k) (hb0 : 0 < by_) {w : World} {B : Nat} {S : Nat → Prop} {v xv : Value} {xs ys : List α}
    (ho : Own L el B S w v xs) (hy : SliceOf L (fun b => S b ∧ some b ≠ v.ownBlock) w xv ys) (hsz : ((xs.length + ys.length) + (xs.length + ys.length) / 4 + 192) * by_ ≤ 281474976710656) (hB : B ≤ w.heap.size) :
    ∃ v' w', (Builtin.append_ #[t, t] ty #[v, xv]).run P w = .ok v' w' ∧ Own L el B S w' v' (xs ++ ys) ∧ w.grownBy w' v.ownBlock ∧ (∀ g, v'.ownBlock = some g → v.ownBlock = some g ∨ g = w.heap.size) := by
  by_cases hp : 0 < ys.length
  · obtain ⟨b, o, c, css2, rfl, hl2, hat, hk2, hi2⟩ := hy.flat hp
    obtain ⟨css, hown, hl, hi⟩ := ho
    obtain ⟨i, hinf, hsize⟩ := h2.h
    have hby : i.bytes = by_ := by
      obtain ⟨i', h, he⟩ := h3.h
      rw [hinf] at h
      cases h
      exact he
    have hzz : i.zero = some z := by
      obtain ⟨i', h, he⟩ := h4.h
      rw [hinf] at h
      cases h
      exact he
    have hpos : 0 < L.k := L.pos
    have hk1 : ∀ c ∈ css, c.length = L.k := fun cs hcs => by
      obtain ⟨m, hm', rfl⟩ := List.getElem_of_mem hcs
      exact L.len (hi m _ xs[m] (List.getElem?_eq_getElem hm') (List.getElem?_eq_getElem (by omega)))
    have hnl : css2.flatten.length = ys.length * L.k := by rw [flat_len hk2, hl2]
    have hnews : ∀ j u, css2.flatten[j]? = some u → w.cell? ((⟨b, o, none⟩ : Addr).add j) = some u := fun j u hj => by rw [addr_add]; exact hat j u hj
    have hone : ∀ u ∈ css2.flatten, u.oneCell' = true := fun u hu => by
      obtain ⟨cs, hcs, hu⟩ := List.mem_flatten.1 hu
      obtain ⟨m, hm', rfl⟩ := List.getElem_of_mem hcs
      exact OneC.h (hi2 m _ ys[m] (List.getElem?_eq_getElem hm') (List.getElem?_eq_getElem (by omega))) u hu
    have hnm : xs.length + ys.length ≤ 281474976710656 := by
      have h1 : xs.length + ys.length + (xs.length + ys.length) / 4 + 192 ≤ 281474976710656 := Nat.le_trans (Nat.le_mul_of_pos_right _ hb0) hsz
      omega
    have h63 : xs.length + ys.length ≤ maxLen := by simp only [maxLen]; omega
    obtain ⟨v', w', hr, hown2, hg, _⟩ := run_append_own_wide (P := P) w B t ty el i z L.k by_ h1.h hinf hzz hsize hby hz hpos v xs.length css.flatten hown ⟨b, o, none⟩ ys.length c css2.flatten hnl hnews hone h63 hsz hB
    have hwhere : v'.ownBlock = v.ownBlock ∨ v'.ownBlock = some w.heap.size := by
      rcases hown.2 with ⟨rfl, h0⟩ | ⟨g, cap, cur, rfl, hbg, hgg, hnc, hcm, hcs, htake⟩
      · have hx := run_append_nil (P := P) w t ty el i z h1.h hinf hzz ⟨b, o, none⟩ ys.length c css2.flatten (by rw [hsize]; exact hnl) hnews hp (by omega) (by rw [hby]; rw [h0] at hsz; simp only [Nat.zero_add] at hsz; exact Nat.le_trans (Nat.mul_le_mul_right _ (by omega)) hsz)
        rw [hx] at hr
        simp only [Result.ok.injEq] at hr
        exact .inr (by rw [← hr.1]; rfl)
      · by_cases hroom : xs.length + ys.length ≤ cap
        · have hx := run_append_room (P := P) w t ty el i h1.h hinf g xs.length cap cur hgg ⟨b, o, none⟩ ys.length c css2.flatten (by rw [hsize]; exact hnl) hnews hone hroom (by rw [hsize, hnl, hcs, ← Nat.add_mul]; exact Nat.mul_le_mul_right _ hroom)
          rw [hx] at hr
          simp only [Result.ok.injEq] at hr
          exact .inl (by rw [← hr.1]; rfl)
        · have hx := run_append_grow (P := P) w t ty el i z h1.h hinf hzz ⟨g, 0, none⟩ xs.length cap css.flatten (by rw [hsize]; exact hown.1) (hown.cells (g := g) rfl) ⟨b, o, none⟩ ys.length c css2.flatten (by rw [hsize]; exact hnl) hnews (by omega) (by omega) (growslice_fits_wide (by omega) (by rw [hby]; exact hsz))
          rw [hx] at hr
          simp only [Result.ok.injEq] at hr
          exact .inr (by rw [← hr.1]; rfl)
    have hmove : ∀ {cs : List Value} {x : α}, L.is (fun b => S b ∧ some b ≠ v.ownBlock) w cs x → L.is (fun b => S b ∧ some b ≠ v'.ownBlock) w' cs x := fun h =>
      L.mono (L.keep (L.old h) fun b hb _ => hg.block b hb.2 hb.1.2) fun b hb => ⟨hb.1.1, by
        rcases hwhere with h | h
        · rw [h]; exact hb.1.2
        · rw [h]; intro hh; simp only [Option.some.injEq] at hh; have := hb.2; omega⟩
    refine ⟨v', w', hr, ⟨css ++ css2, ?_, by simp [hl, hl2], fun i cs x hcs hx => ?_⟩, hg, fun g hh => ?_⟩
    · rw [List.length_append, List.flatten_append]
      exact hown2
    · by_cases hlt : i < css.length
      · rw [List.getElem?_append_left hlt] at hcs
        rw [List.getElem?_append_left (by omega)] at hx
        exact hmove (hi i cs x hcs hx)
      · rw [List.getElem?_append_right (by omega)] at hcs
        rw [List.getElem?_append_right (by omega), ← hl] at hx
        exact hmove (hi2 _ cs x hcs hx)
    · rcases hwhere with h | h
      · rw [h] at hh; exact .inl hh
      · rw [h] at hh; simp only [Option.some.injEq] at hh; exact .inr hh.symm
  · have : ys = [] := List.eq_nil_of_length_eq_zero (by omega)
    subst this
    obtain ⟨a2, c2, rfl, _⟩ := hy
    have hrun : (Builtin.append_ #[t, t] ty #[v, .slice a2 ([] : List α).length c2]).run P w = .ok v w := by
      obtain ⟨css, hown, _⟩ := ho
      rcases hown.2 with ⟨rfl, h0⟩ | ⟨g, cap, cur, rfl, hbg, hgg, hnc, hcm, hcs, htake⟩
      · exact run_append_none (el := el) (k := L.k) none 0 0 c2 (Nat.le_refl _) a2
      · exact run_append_none (el := el) (k := L.k) _ xs.length cap c2 hnc a2
    exact ⟨v, w, hrun, by simpa using ho, ⟨rfl, rfl, rfl, Nat.le_refl _, fun _ _ _ => rfl⟩, fun g hh => .inl hh⟩


section
variable {P : Program} {f : FuncId} {N : Nat} {k : List Item} {K : Act → World → Prop} {e : Env} {w w0 : World} {R : Ending → World → Prop}
variable {ops : Array Oper} {rest : List Oper} {d : Nat} {op : Op} {ty : TypeId} {ps : String} {af : Array Edge} {g : Option (Nat × Bool)} {v : Value}
/-- append to a row of one's own; the worlds led along -/
theorem RL.app {α : Type} {L : Lay α} [OneC L] {t el : TypeId} {by_ : Nat} {z : Value} [Sli P t el] [Siz P el L.k] [Byt P el by_] [Zer P el z] {x y : Operand} {B : Nat} {S : Nat → Prop} {xv : Value} {xs ys : List α} (hu : Up w0 w)
    (ho : Own L el B S w v xs) (hs : SliceOf L (fun b => S b ∧ some b ≠ v.ownBlock) w xv ys) (hsz : ((xs.length + ys.length) + (xs.length + ys.length) / 4 + 192) * by_ ≤ 281474976710656) (hB : w0.heap.size ≤ B) (hBw : B ≤ w.heap.size)
    (h : ∀ v' w1, Up w0 w1 → Own L el B S w1 v' (xs ++ ys) → w.grownBy w1 v.ownBlock → (∀ g, v'.ownBlock = some g → v.ownBlock = some g ∨ g = w.heap.size) → RL P f N ops rest K ((d, v') :: e) w1 R)
    (hw : Wants ops e g := by first | exact trivial | exact ⟨_, _, rfl, rfl, rfl⟩) (hd : Nat.blt d N = true := by rfl) (hx : e.ev x = some v := by rfl) (hy : e.ev y = some xv := by rfl) (hz : z.cells.size = L.k := by rfl) (hb0 : 0 < by_ := by decide) :
    RL P f N ops ({ dst := some d, op := .call { callee := .builtin .append, args := #[x, y], argTypes := #[t, t] }, type := ty, pos := ps, after := af, guard := g } :: rest) K e w R := by
  obtain ⟨v', w1, hr, h1, h2, h3⟩ := append_wide (P := P) (t := t) (el := el) ty hz hb0 ho hs hsz hBw
  exact RL.eff hw hd (e_append hx hy hr) (h v' w1 (Grown.up h2 hu fun k hk => Nat.le_trans hB (ho.lt k hk).1) h1 h2 h3)
/-- a call that reads only, or makes memory -/
theorem RL.cu {c : FuncId} {args : Array Value} (hu : Up w0 w) (hc : Calls P c args w fun en w' => en = .returned v ∧ Up w w') (h : ∀ w1, Up w0 w1 → Up w w1 → RL P f N ops rest K ((d, v) :: e) w1 R)
    (hw : Wants ops e g := by first | exact trivial | exact ⟨_, _, rfl, rfl, rfl⟩) (hd : Nat.blt d N = true := by rfl) (hy : Ent P op ty e w c args := by first | exact c_static rfl | exact c_closure rfl rfl) :
    RL P f N ops ({ dst := some d, op := op, type := ty, pos := ps, after := af, guard := g } :: rest) K e w R :=
  RL.call hw hd hy hc fun _ w' ⟨he, hu'⟩ => ⟨v, he, h w' (hu.trans hu') hu'⟩
/-- a call that leaves the world as it is -/
theorem RL.cs {c : FuncId} {args : Array Value} (hc : Calls P c args w fun en w' => en = .returned v ∧ w' = w) (h : RL P f N ops rest K ((d, v) :: e) w R)
    (hw : Wants ops e g := by first | exact trivial | exact ⟨_, _, rfl, rfl, rfl⟩) (hd : Nat.blt d N = true := by rfl) (hy : Ent P op ty e w c args := by first | exact c_static rfl | exact c_closure rfl rfl) :
    RL P f N ops ({ dst := some d, op := op, type := ty, pos := ps, after := af, guard := g } :: rest) K e w R :=
  RL.call hw hd hy hc fun _ _ ⟨he, hw'⟩ => ⟨v, he, hw' ▸ h⟩
/-- a call of which more is known -/
theorem RL.cx {c : FuncId} {args : Array Value} {R' : Ending → World → Prop} (hc : Calls P c args w R') (h : ∀ en w', R' en w' → ∃ v, en = .returned v ∧ RL P f N ops rest K ((d, v) :: e) w' R)
    (hw : Wants ops e g := by first | exact trivial | exact ⟨_, _, rfl, rfl, rfl⟩) (hd : Nat.blt d N = true := by rfl) (hy : Ent P op ty e w c args := by first | exact c_static rfl | exact c_closure rfl rfl) :
    RL P f N ops ({ dst := some d, op := op, type := ty, pos := ps, after := af, guard := g } :: rest) K e w R := RL.call hw hd hy hc h
theorem RL.al {t : TypeId} {z : Value} [Zer P t z] (hu : Up w0 w) (h : ∀ b w1, b = w.heap.size → w0.heap.size ≤ b → Up w0 w1 → Up w w1 → Box w1 b t z.cells.toList → RL P f N ops rest K ((d, .pointer (some ⟨b, 0, none⟩)) :: e) w1 R)
    (hw : Wants ops e g := by first | exact trivial | exact ⟨_, _, rfl, rfl, rfl⟩) (hd : Nat.blt d N = true := by rfl) :
    RL P f N ops ({ dst := some d, op := .alloc t, type := ty, pos := ps, after := af, guard := g } :: rest) K e w R :=
  RL.alloc hw hd fun w1 h1 h2 _ => h _ w1 rfl hu.size (hu.trans h1) h1 h2
theorem RL.bx {t : TypeId} {x : Operand} (hu : Up w0 w) (h : ∀ b w1, b = w.heap.size → w0.heap.size ≤ b → Up w0 w1 → Up w w1 → Box w1 b t v.cells.toList → RL P f N ops rest K ((d, .pointer (some ⟨b, 0, none⟩)) :: e) w1 R)
    (hw : Wants ops e g := by first | exact trivial | exact ⟨_, _, rfl, rfl, rfl⟩) (hd : Nat.blt d N = true := by rfl) (hx : e.ev x = some v := by rfl) :
    RL P f N ops ({ dst := some d, op := .box t x, type := ty, pos := ps, after := af, guard := g } :: rest) K e w R :=
  RL.box hw hd hx fun w1 h1 h2 _ => h _ w1 rfl hu.size (hu.trans h1) h1 h2
theorem RL.st {t u : TypeId} {x y : Operand} {b o : Nat} {cs cs' news : List Value} {n : Nat} [Siz P t n] (hu : Up w0 w) (hb : Box w b u cs) (hB : w0.heap.size ≤ b) (h : ∀ w1, Up w0 w1 → But b w w1 → Box w1 b u cs' → RL P f N ops rest K e w1 R)
    (hw : Wants ops e g := by first | exact trivial | exact ⟨_, _, rfl, rfl, rfl⟩) (hx : e.ev x = some (.pointer (some ⟨b, o, none⟩)) := by rfl) (hy : e.ev y = some v := by rfl) (hv : v.cells = news.toArray := by rfl) (hk : news.length = n := by rfl)
    (h1 : ∀ c ∈ news, c.oneCell' = true := by (simp [Value.oneCell'])) (hfit : o + news.length ≤ cs.length := by exact Nat.le_of_ble_eq_true rfl) (hcs : cs.take o ++ news ++ cs.drop (o + news.length) = cs' := by rfl) :
    RL P f N ops ({ dst := none, op := .store t x y, type := ty, pos := ps, after := af, guard := g } :: rest) K e w R :=
  RL.store hw hx hy hb hv hk h1 hfit hcs fun w1 h1 h2 => h w1 (Up.but hu h1 hB) h1 h2
theorem RL.bu {n : Nat} {t el : TypeId} {parts : Array (Nat × Operand)} {qs : List (Nat × Value)} (cs : List Value) (hu : Up w0 w) (h : ∀ b w1, b = w.heap.size → w0.heap.size ≤ b → Up w0 w1 → Up w w1 → Box w1 b el cs → RL P f N ops rest K ((d, .slice (some ⟨b, 0, none⟩) n n) :: e) w1 R)
    (hb : ∀ w, (Instr.buildSlice t n qs.toArray).run P w = .ok (.slice (some ⟨w.heap.size, 0, none⟩) n n) (w.alloc (.cells cs.toArray el)) := by (intro w; kernel_rfl))
    (hw : Wants ops e g := by first | exact trivial | exact ⟨_, _, rfl, rfl, rfl⟩) (hd : Nat.blt d N = true := by rfl) (hp : e.parts parts.toList = some qs := by rfl) :
    RL P f N ops ({ dst := some d, op := .buildSlice t n parts, type := ty, pos := ps, after := af, guard := g } :: rest) K e w R :=
  RL.build cs hw hd hp hb fun w1 h1 h2 _ => h _ w1 rfl hu.size (hu.trans h1) h1 h2
/-- a region that draws its order: one operation that reads only is taken first -/
theorem RO.tk (i : Nat) {d : Nat} {op : Op} {ty : TypeId} {ps : String} {af : Array Edge} {g : Option (Nat × Bool)} {v : Value} {S : World → Prop} {fuel : Nat} {listed : Array Bool}
    (h : RO P f N ops S fuel (listed.setIfInBounds i true) K ((d, v) :: e) w R) (hi : ops[i]? = some { dst := some d, op := op, type := ty, pos := ps, after := af, guard := g } := by rfl) (hw : Wants ops e g := by first | exact trivial | exact ⟨_, _, rfl, rfl, rfl⟩) (hd : Nat.blt d N = true := by rfl)
    (hy : ∀ w, S w → Yld P op ty e w v := by (intro wq hq; (first | exact y_move rfl | exact y_assign rfl | exact y_pickT rfl rfl | exact y_pickF rfl rfl | exact y_nilCheck rfl | exact y_notT rfl | exact y_notF rfl | exact y_not rfl | exact y_len rfl | exact y_lenS rfl | exact y_fieldAddr rfl | exact y_makeFunc rfl | exact y_neqNilF rfl | exact y_neqBF rfl rfl | exact y_neqNilT rfl | exact y_eqlNilF rfl | exact y_eqlNilT rfl | exact y_loadF rfl (by assumption) rfl | exact y_loadF rfl (Box.at (by assumption)) rfl | exact y_loadF rfl (At.up (by assumption) hq) rfl | exact y_loadF rfl (Box.at (Box.up (by assumption) hq)) rfl | exact y_loadF rfl (At.up (w := w) (by assumption) hu) rfl | exact y_loadF rfl (At.up (w := w) (by assumption) (hu.trans hq)) rfl | exact y_load0 rfl (by assumption) rfl | exact y_load0 rfl (Box.at (by assumption)) rfl | exact y_load0 rfl (At.up (by assumption) hq) rfl | exact y_load0 rfl (Box.at (Box.up (by assumption) hq)) rfl | exact y_load0 rfl (At.up (w := w) (by assumption) hu) rfl | exact y_load0 rfl (At.up (w := w) (by assumption) (hu.trans hq)) rfl | exact y_load1 rfl (by assumption) | exact y_loadA rfl (by assumption) (by first | rfl | assumption) | exact y_loadA rfl (Box.at (by assumption)) rfl | exact y_loadA rfl (At.up (by assumption) hq) (by first | rfl | assumption) | exact y_loadA rfl (At.up (w := w) (by assumption) hu) (by first | rfl | assumption) | exact y_loadA rfl (At.up (w := w) (by assumption) (hu.trans hq)) (by first | rfl | assumption) | exact y_extract rfl rfl | exact dT (by (first | assumption | omega)) (y_lss rfl rfl) | exact dF (by (first | assumption | omega)) (y_lss rfl rfl) | exact dT (by (first | assumption | omega)) (y_gtr rfl rfl) | exact dF (by (first | assumption | omega)) (y_gtr rfl rfl) | exact dT (by (first | assumption | omega)) (y_geq rfl rfl) | exact dF (by (first | assumption | omega)) (y_geq rfl rfl) | exact dT (by (first | assumption | omega)) (y_leq rfl rfl) | exact dF (by (first | assumption | omega)) (y_leq rfl rfl) | exact dT (by (first | assumption | omega)) (y_eql rfl rfl) | exact dF (by (first | assumption | omega)) (y_eql rfl rfl) | exact dT (by (first | assumption | omega)) (y_neq rfl rfl) | exact dF (by (first | assumption | omega)) (y_neq rfl rfl) | exact y_lss rfl rfl | exact y_gtr rfl rfl | exact y_geq rfl rfl | exact y_leq rfl rfl | exact y_eql rfl rfl | exact y_neq rfl rfl | exact y_indexAddr rfl rfl (by omega) | exact y_inc rfl rfl (by omega) | exact dT (by assumption) (y_eqlS rfl rfl) | exact dF (by assumption) (y_eqlS rfl rfl) | exact dT (by assumption) (y_neqS rfl rfl) | exact y_neqSF (by assumption) rfl rfl | exact y_eqlS rfl rfl | exact y_neqS rfl rfl | exact y_indexS rfl rfl (by assumption) | exact y_sliceHi rfl rfl (by omega)))) (hS : S w := by first | assumption | exact Up.refl _ | exact Up.drew _) (hs : Region.noSelect ops = true := by kernel_rfl) (hf : Region.free .any ops listed i = true := by kernel_rfl) (hr : (Region.ready .any ops listed).contains i = true := by kernel_rfl) :
    RO P f N ops S (fuel + 1) listed K e w R := RO.take hi hs hf hr hS hw hd hy h
theorem Sim.q {id : Nat} {l : List Oper} (h : RQ P f N l.toArray (Up w) l k e R) (hm : P.follows .mixedOrders = true := by exact mixed) (hB : Region.lexB .any l.toArray = true := by kernel_rfl) : Sim P f N (.code (.region id l.toArray true) :: k) e w R := Sim.quiet (Up w) hm hB (Up.drew _) h
theorem Box.but {b b' : Nat} {t : TypeId} {cs : List Value} {w1 : World} (h : Box w b' t cs) (hb : But b w w1) (hne : b' ≠ b) : Box w1 b' t cs := h.keep hb.keep hne
theorem Own.but {α : Type} {L : Lay α} {el : TypeId} {B : Nat} {S : Nat → Prop} {xs : List α} {b : Nat} {w1 : World} (h : Own L el B S w v xs) (hb : But b w w1) (hS : ∀ i, S i → i ≠ b) (hv : ∀ g, v.ownBlock = some g → g ≠ b) : Own L el B S w1 v xs := h.keep hb.keep hS hv
end
end Go.Proofs.Ytgckpmcdlciibab

namespace Go.Proofs.Ytgckpmcdlciibab
open Go.RowKit
/-- the ways through x meet behind it, each with a state of its own -/
theorem Sim.cutX {P : Program} {f : FuncId} {N : Nat} {k : List Item} {e : Env} {w : World} {R : Ending → World → Prop} {x : Code} {σ : Type} (E : σ → Env) (I : σ → World → Prop)
    (first : ∀ k', (∀ s w' e', I s w' → Env.Sub (E s) e' → Sim P f N k' e' w' R) → Sim P f N (.code x :: k') e w R) (rest : ∀ s w', I s w' → Sim P f N k (E s) w' R) : Sim P f N (.code x :: k) e w R :=
  first k fun s w' _ hI hs => Sim.weaken (rest s w' hI) hs
section
variable {α : Type} {L : Lay α} {el : TypeId} {B : Nat} {S S' : Nat → Prop} {w w1 : World} {v : Value} {xs : List α}
theorem Own.shift (h : Own L el B S w v xs) (hS : ∀ b, S b → b < w.heap.size → some b ≠ v.ownBlock → S' b) : Own L el B S' w v xs := by
  obtain ⟨css, ho, hl, hi⟩ := h
  exact ⟨css, ho, hl, fun i cs x h1 h2 => L.mono (L.old (hi i cs x h1 h2)) fun b hb => ⟨hS b hb.1.1 hb.2 hb.1.2, hb.1.2⟩⟩
theorem Own.sh (h : Own L el B S w v xs) : ∃ a n c, v = .slice a n c := by
  obtain ⟨a, c, rfl⟩ := h.shape
  exact ⟨a, _, c, rfl⟩
theorem Own.base {B' : Nat} (h : Own L el B S w v xs) (hB : B' ≤ B) : Own L el B' S w v xs := by
  obtain ⟨css, ho, hl, hi⟩ := h
  refine ⟨css, ⟨ho.1, ?_⟩, hl, hi⟩
  rcases ho.2 with hn | ⟨g, cap, cur, rfl, hb, r⟩
  · exact .inl hn
  · exact .inr ⟨g, cap, cur, rfl, by omega, r⟩
/-- another row has grown -/
theorem Own.grown {r : Option Nat} (h : Own L el B S w v xs) (hg : w.grownBy w1 r) (hS : ∀ b, S b → some b ≠ r) (hv : ∀ g, v.ownBlock = some g → some g ≠ r) : Own L el B S w1 v xs := h.keep (Grown.keep hg) hS hv
theorem Box.grown {b : Nat} {t : TypeId} {cs : List Value} {r : Option Nat} (h : Box w b t cs) (hg : w.grownBy w1 r) (hb : some b ≠ r) : Box w1 b t cs := h.keep (Grown.keep hg) hb
theorem SliceOf.grown {r : Option Nat} (h : SliceOf L S w v xs) (hg : w.grownBy w1 r) (hS : ∀ b, S b → some b ≠ r) : SliceOf L S w1 v xs := h.keep fun b hb hlt => (Grown.keep hg) b (hS b hb) hlt
/-- as a slice; all that it leads to lies in S' -/
theorem Own.sl (h : Own L el B S w v xs) (hS : ∀ b, S b → b < w.heap.size → some b ≠ v.ownBlock → S' b) (hv : ∀ g, v.ownBlock = some g → S' g) : SliceOf L S' w v xs := (h.shift hS).slice S' (fun _ h => h) hv
end
/-- values that lead nowhere -/
class Flat {α : Type} (L : Lay α) : Prop where
  h : ∀ {S S' : Nat → Prop} {w w' : World} {cs x}, L.is S w cs x → L.is S' w' cs x
theorem Own.no {α : Type} {L : Lay α} [Flat L] {el : TypeId} {B : Nat} {S S' : Nat → Prop} {w : World} {v : Value} {xs : List α} (h : Own L el B S w v xs) : Own L el B S' w v xs := by
  obtain ⟨css, ho, hl, hi⟩ := h
  exact ⟨css, ho, hl, fun i cs x h1 h2 => Flat.h (hi i cs x h1 h2)⟩
theorem Own.ne {α : Type} {L : Lay α} {el : TypeId} {B : Nat} {S : Nat → Prop} {w : World} {v : Value} {xs : List α} (h : Own L el B S w v xs) {b : Nat} (hb : w.heap.size ≤ b) : some b ≠ v.ownBlock := fun he => by
  have := (h.lt b he.symm).2
  omega
theorem Own.ne' {α : Type} {L : Lay α} {el : TypeId} {B : Nat} {S : Nat → Prop} {w : World} {v : Value} {xs : List α} (h : Own L el B S w v xs) {b : Nat} (hb : b < B) : some b ≠ v.ownBlock := fun he => by
  have := (h.lt b he.symm).1
  omega
theorem SliceOf.one {α : Type} {L : Lay α} {S : Nat → Prop} {w : World} {b : Nat} {t : TypeId} {cs : List Value} {x : α} (hb : Box w b t cs) (hS : S b) (h : L.is S w cs x) : SliceOf L S w (.slice (some ⟨b, 0, none⟩) 1 1) [x] := SliceOf.lit1 cs x hb.at hS h
end Go.Proofs.Ytgckpmcdlciibab

namespace Go.Proofs.Ytgckpmcdlciibab
open Go.RowKit
/-- none of D is listed -/
def Clean (D : List Nat) (listed : Array Bool) : Prop := ∀ d ∈ D, listed.getD d true = false
theorem Clean.set {D : List Nat} {listed : Array Bool} {i : Nat} (h : Clean D listed) (hi : i ∉ D) : Clean D (listed.setIfInBounds i true) := fun d hd => by
  rw [getD_set_ne true (fun x : i = d => hi (by rw [x]; exact hd))]
  exact h d hd
section
variable {P : Program} {f : FuncId} {N : Nat} {k : List Item} {e : Env} {w : World} {R : Ending → World → Prop}
variable {ops : Array Oper} {D : List Nat} {S1 S2 : World → Prop} {fuel : Nat} {listed : Array Bool} {K : Act → World → Prop}
def anyD (P : Program) (ops : Array Oper) (Q : Exit → Act → World → Prop) (D : List Nat) (S1 S2 : World → Prop) : Nat → Array Bool → Act → World → Prop
  | 0, listed, a, w => Region.ready .any ops listed = [] ∧ Q .normal a w
  | fuel + 1, listed, a, w => (Region.ready .any ops listed = [] → Q .normal a w) ∧
    ∀ i ∈ Region.ready .any ops listed, wpOp P ops Q i (fun a' w' => (S2 w' ∧ (Clean D (listed.setIfInBounds i true) → S1 w')) ∧ anyD P ops Q D S1 S2 fuel (listed.setIfInBounds i true) a' w') a w
theorem any_of_anyD {Q : Exit → Act → World → Prop} : ∀ (fuel : Nat) (listed : Array Bool) (a : Act) (w : World), anyD P ops Q D S1 S2 fuel listed a w → wpAny P .any ops Q fuel listed a w
  | 0, _, _, _, h => h
  | fuel + 1, _, _, _, h => ⟨h.1, fun i hi => wpOp_mono (fun a' w' h' => any_of_anyD fuel _ a' w' h'.2) (h.2 i hi)⟩
/-- all of D wait for i -/
def waits (ops : Array Oper) (D : List Nat) (i : Nat) : Bool := D.all fun d => d != i && match ops[d]? with
  | some o => o.after.any fun x => Region.binds .any x && x.on == i
  | none => false
theorem anyD_first {Q : Exit → Act → World → Prop} {i : Nat} {oi : Oper} {v : Value} (hi : ops[i]? = some oi) (hs : Region.noSelect ops = true) (hD : waits ops D i = true)
    (hQ : ∀ c a w, Q (.panic c) (a.put oi.dst v) w → Q (.panic c) a w) : ∀ (fuel : Nat) (listed : Array Bool) (a : Act) (w : World), Region.free .any ops listed i = true → i ∈ Region.ready .any ops listed → Clean D listed →
      YieldsIf P ops S1 oi v a → S1 w → S2 w → anyD P ops Q D S1 S2 fuel (listed.setIfInBounds i true) (a.put oi.dst v) w → anyD P ops Q D S1 S2 (fuel + 1) listed a w := by
  have hDi : i ∉ D := fun h => by
    have := List.all_eq_true.1 hD i h
    simp at this
  have hsel := Region.noSelect_spec hs
  intro fuel
  induction fuel with
  | zero =>
    intro listed a w _ hr hc hy h1 h2 H
    refine ⟨fun h => (by rw [h] at hr; cases hr), fun j hj => ?_⟩
    by_cases hji : j = i
    · subst hji
      exact hy.wpOp hi h1 ⟨⟨h2, fun _ => h1⟩, H⟩
    · have := ready_mono hj hji
      rw [H.1] at this
      cases this
  | succ fuel ih =>
    intro listed a w hf hr hc hy h1 h2 H
    refine ⟨fun h => (by rw [h] at hr; cases hr), fun j hj => ?_⟩
    by_cases hji : j = i
    · subst hji
      exact hy.wpOp hi h1 ⟨⟨h2, fun _ => h1⟩, H⟩
    · obtain ⟨hjun, oj, hoj, hall⟩ := mem_ready.1 hj
      have hiun := (mem_ready.1 hr).1
      have hno : ∀ x ∈ oj.after, Region.binds .any x = true → x.on ≠ i := fun x hx hb heq => by
        have h3 := hall x hx hb
        rw [heq] at h3
        rcases Nat.lt_or_ge i listed.size with h' | h'
        · simp [h'] at hiun h3
          rw [hiun] at h3
          cases h3
        · simp [Array.getElem?_eq_none h'] at h3
      have hjD : j ∉ D := fun h => by
        have h3 := List.all_eq_true.1 hD j h
        rw [hoj, Bool.and_eq_true] at h3
        obtain ⟨x, hx, hb⟩ := Array.any_eq_true'.1 h3.2
        simp only [Bool.and_eq_true, beq_iff_eq] at hb
        exact hno x hx hb.1 hb.2
      have hap := Region.free_spec hi hf j oj hoj hji hjun hno
      have h4 := wpOp_putIf hoj hap (fun cs b => hsel i oi cs b hi) (fun cs b => hsel j oj cs b hoj) hQ hy (H.2 j (ready_mono hj hji))
      have hf' : Region.free .any ops (listed.setIfInBounds j true) i = true := by
        simp only [Region.free, hi, List.all_eq_true, List.mem_range] at hf ⊢
        intro m hm
        have h5 := hf m hm
        by_cases hmj : m = j
        · subst hmj
          have : (listed.setIfInBounds m true).getD m true = true := by
            rw [Array.getD_eq_getD_getElem?]
            by_cases hlt : m < listed.size
            · simp [hlt]
            · simp [hlt]
          simp [this]
        · rw [getD_set_ne true (fun e => hmj e.symm)]
          exact h5
      refine wpOp_mono (fun a' w' h6 => ?_) h4
      obtain ⟨hy', ⟨h7, h8⟩, h9⟩ := h6
      have hc' := hc.set hjD
      have h10 : S1 w' := h8 ((hc.set hDi).set hjD)
      refine ⟨⟨h7, fun _ => h10⟩, ih _ a' w' hf' (ready_mono hr (Ne.symm hji)) hc' hy' h10 h7 ?_⟩
      rw [Array.setIfInBounds_comm _ _ hji]
      exact h9
/-- an operation that needs of the world only what always holds -/
theorem anyD_any {Q : Exit → Act → World → Prop} {i : Nat} {oi : Oper} {v : Value} (hi : ops[i]? = some oi) (hs : Region.noSelect ops = true) (hDi : i ∉ D)
    (hQ : ∀ c a w, Q (.panic c) (a.put oi.dst v) w → Q (.panic c) a w) : ∀ (fuel : Nat) (listed : Array Bool) (a : Act) (w : World), Region.free .any ops listed i = true → i ∈ Region.ready .any ops listed →
      YieldsIf P ops S2 oi v a → (Clean D listed → S1 w) → S2 w → anyD P ops Q D S1 S2 fuel (listed.setIfInBounds i true) (a.put oi.dst v) w → anyD P ops Q D S1 S2 (fuel + 1) listed a w := by
  have hun : ∀ {l : Array Bool}, Clean D (l.setIfInBounds i true) → Clean D l := fun h d hd => by
    have := h d hd
    rwa [getD_set_ne true (fun x : i = d => hDi (by rw [x]; exact hd))] at this
  have hsel := Region.noSelect_spec hs
  intro fuel
  induction fuel with
  | zero =>
    intro listed a w _ hr hy h1 h2 H
    refine ⟨fun h => (by rw [h] at hr; cases hr), fun j hj => ?_⟩
    by_cases hji : j = i
    · subst hji
      exact hy.wpOp hi h2 ⟨⟨h2, fun h => h1 (hun h)⟩, H⟩
    · have := ready_mono hj hji
      rw [H.1] at this
      cases this
  | succ fuel ih =>
    intro listed a w hf hr hy h1 h2 H
    refine ⟨fun h => (by rw [h] at hr; cases hr), fun j hj => ?_⟩
    by_cases hji : j = i
    · subst hji
      exact hy.wpOp hi h2 ⟨⟨h2, fun h => h1 (hun h)⟩, H⟩
    · obtain ⟨hjun, oj, hoj, hall⟩ := mem_ready.1 hj
      have hiun := (mem_ready.1 hr).1
      have hno : ∀ x ∈ oj.after, Region.binds .any x = true → x.on ≠ i := fun x hx hb heq => by
        have h3 := hall x hx hb
        rw [heq] at h3
        rcases Nat.lt_or_ge i listed.size with h' | h'
        · simp [h'] at hiun h3
          rw [hiun] at h3
          cases h3
        · simp [Array.getElem?_eq_none h'] at h3
      have hap := Region.free_spec hi hf j oj hoj hji hjun hno
      have h4 := wpOp_putIf hoj hap (fun cs b => hsel i oi cs b hi) (fun cs b => hsel j oj cs b hoj) hQ hy (H.2 j (ready_mono hj hji))
      have hf' : Region.free .any ops (listed.setIfInBounds j true) i = true := by
        simp only [Region.free, hi, List.all_eq_true, List.mem_range] at hf ⊢
        intro m hm
        have h5 := hf m hm
        by_cases hmj : m = j
        · subst hmj
          have : (listed.setIfInBounds m true).getD m true = true := by
            rw [Array.getD_eq_getD_getElem?]
            by_cases hlt : m < listed.size
            · simp [hlt]
            · simp [hlt]
          simp [this]
        · rw [getD_set_ne true (fun e => hmj e.symm)]
          exact h5
      refine wpOp_mono (fun a' w' h6 => ?_) h4
      obtain ⟨hy', ⟨h7, h8⟩, h9⟩ := h6
      have h10 : Clean D (listed.setIfInBounds j true) → S1 w' := fun hc => h8 (by
        rw [Array.setIfInBounds_comm _ _ (Ne.symm hji)]
        exact hc.set hDi)
      refine ⟨⟨h7, h10⟩, ih _ a' w' hf' (ready_mono hr (Ne.symm hji)) hy' h10 h7 ?_⟩
      rw [Array.setIfInBounds_comm _ _ hji]
      exact h9
def RD (P : Program) (f : FuncId) (N : Nat) (ops : Array Oper) (D : List Nat) (S1 S2 : World → Prop) (fuel : Nat) (listed : Array Bool) (K : Act → World → Prop) (e : Env) (w : World) (R : Ending → World → Prop) : Prop :=
  ∀ tm, Env.Ok N e tm → anyD P ops (QX P f K R) D S1 S2 fuel listed ⟨tm, []⟩ w
def DK (P : Program) (f : FuncId) (ops : Array Oper) (D : List Nat) (S1 S2 : World → Prop) (fuel : Nat) (listed : Array Bool) (K : Act → World → Prop) (R : Ending → World → Prop) (a : Act) (w : World) : Prop :=
  (S2 w ∧ (Clean D listed → S1 w)) ∧ anyD P ops (QX P f K R) D S1 S2 fuel listed a w
theorem Sim.ordD {id n : Nat} {l : List Oper} (D : List Nat) (S1 S2 : World → Prop) (h : RD P f N l.toArray D S1 S2 n (Array.replicate n false) (SK P f k R) e w.drew R) (hm : P.follows .mixedOrders = true) (hn : l.toArray.size = n := by rfl) : Sim P f N (.code (.region id l.toArray true) :: k) e w R :=
  Sim.mk fun tm hok => SimA.of_wp (wp_region_any hm (any_of_anyD _ _ _ _ (by rw [hn]; exact h tm hok)))
theorem RD.take {i d : Nat} {op : Op} {ty : TypeId} {ps : String} {af : Array Edge} {g : Option (Nat × Bool)} {v : Value}
    (hi : ops[i]? = some { dst := some d, op := op, type := ty, pos := ps, after := af, guard := g }) (hs : Region.noSelect ops = true) (hD : waits ops D i = true) (hf : Region.free .any ops listed i = true) (hr : (Region.ready .any ops listed).contains i = true) (hc : Clean D listed)
    (h1 : S1 w) (h2 : S2 w) (hw : Wants ops e g) (hd : Nat.blt d N = true) (hy : ∀ w, S1 w → Yld P op ty e w v) (h : RD P f N ops D S1 S2 fuel (listed.setIfInBounds i true) K ((d, v) :: e) w R) : RD P f N ops D S1 S2 (fuel + 1) listed K e w R := fun tm hok =>
  anyD_first hi hs hD (fun c a w => QX.put c _ _ a w) fuel listed _ w hf (by simpa using hr) hc (.inl ⟨Wants.wanted (o := { dst := some d, op := op, type := ty, pos := ps, after := af, guard := g }) hw hok, fun w hw => by rw [execOp_eq]; exact (hy w hw).out _ (hok.sees [])⟩) h1 h2 (h _ (hok.put hd v))
theorem RD.each {is : List Nat} (hr : Region.ready .any ops listed = is) (hne : is ≠ []) (h : ∀ i ∈ is, ∃ o, ops[i]? = some o ∧ RL P f N ops [o] (DK P f ops D S1 S2 fuel (listed.setIfInBounds i true) K R) e w R) : RD P f N ops D S1 S2 (fuel + 1) listed K e w R := fun tm hok =>
  ⟨fun h0 => absurd (hr ▸ h0) hne, hr ▸ fun i hi => by
    obtain ⟨o, ho, hl⟩ := h i hi
    have h1 := hl.out tm hok
    unfold wpList at h1
    unfold wpOp
    rw [ho]
    simp only
    split
    · rename_i hw
      rw [if_pos hw] at h1
      refine h1.imp (fun h1 => ?_) (fun h1 => h1)
      exact upon_QX (fun a w h => h.2) h1
    · rename_i hw
      rw [if_neg hw] at h1
      exact h1.2⟩
theorem RD.one (i : Nat) {o : Oper} (h : RL P f N ops [o] (DK P f ops D S1 S2 fuel (listed.setIfInBounds i true) K R) e w R) (hr : Region.ready .any ops listed = [i] := by kernel_rfl) (ho : ops[i]? = some o := by rfl) : RD P f N ops D S1 S2 (fuel + 1) listed K e w R :=
  RD.each hr (by simp) fun j hj => by simp only [List.mem_singleton] at hj; subst hj; exact ⟨o, ho, h⟩
/-- before D -/
theorem RL.od (h2 : S2 w) (h1 : S1 w) (h : RD P f N ops D S1 S2 fuel listed K e w R) : RL P f N ops [] (DK P f ops D S1 S2 fuel listed K R) e w R := RL.nilK fun tm hok => ⟨⟨h2, fun _ => h1⟩, h tm hok⟩
/-- behind one of D -/
theorem RL.ox (h2 : S2 w) (h : RD P f N ops D S1 S2 fuel listed K e w R) (hc : (D.all fun d => !listed.getD d true) = false := by kernel_rfl) : RL P f N ops [] (DK P f ops D S1 S2 fuel listed K R) e w R := RL.nilK fun tm hok => ⟨⟨h2, fun hcl => by
  have : (D.all fun d => !listed.getD d true) = true := List.all_eq_true.2 fun d hd => by rw [hcl d hd]; rfl
  rw [hc] at this
  cases this⟩, h tm hok⟩
theorem RD.done (h : RL P f N ops [] K e w R) (hr : Region.ready .any ops listed = [] := by kernel_rfl) : RD P f N ops D S1 S2 fuel listed K e w R := fun tm hok => by
  have h1 := h.out tm hok
  cases fuel with
  | zero => exact ⟨hr, h1⟩
  | succ n => exact ⟨fun _ => h1, by rw [hr]; simp⟩
theorem clean_of (h : (D.all fun d => !listed.getD d true) = true) : Clean D listed := fun d hd => by
  have := List.all_eq_true.1 h d hd
  simpa using this
theorem RD.tk (i : Nat) {d : Nat} {op : Op} {ty : TypeId} {ps : String} {af : Array Edge} {g : Option (Nat × Bool)} {v : Value}
    (h : RD P f N ops D S1 S2 fuel (listed.setIfInBounds i true) K ((d, v) :: e) w R) (hi : ops[i]? = some { dst := some d, op := op, type := ty, pos := ps, after := af, guard := g } := by rfl) (hw : Wants ops e g := by first | exact trivial | exact ⟨_, _, rfl, rfl, rfl⟩) (hd : Nat.blt d N = true := by rfl)
    (hy : ∀ w, S1 w → Yld P op ty e w v := by (intro wq hq; (first | exact y_move rfl | exact y_assign rfl | exact y_pickT rfl rfl | exact y_pickF rfl rfl | exact y_nilCheck rfl | exact y_notT rfl | exact y_notF rfl | exact y_not rfl | exact y_len rfl | exact y_lenS rfl | exact y_fieldAddr rfl | exact y_makeFunc rfl | exact y_neqNilF rfl | exact y_neqBF rfl rfl | exact y_neqNilT rfl | exact y_eqlNilF rfl | exact y_eqlNilT rfl | exact y_loadF rfl (by assumption) rfl | exact y_loadF rfl (Box.at (by assumption)) rfl | exact y_loadF rfl (At.up (by assumption) hq) rfl | exact y_loadF rfl (Box.at (Box.up (by assumption) hq)) rfl | exact y_loadF rfl (At.up (w := w) (by assumption) hu) rfl | exact y_loadF rfl (At.up (w := w) (by assumption) (hu.trans hq)) rfl | exact y_load0 rfl (by assumption) rfl | exact y_load0 rfl (Box.at (by assumption)) rfl | exact y_load0 rfl (At.up (by assumption) hq) rfl | exact y_load0 rfl (Box.at (Box.up (by assumption) hq)) rfl | exact y_load0 rfl (At.up (w := w) (by assumption) hu) rfl | exact y_load0 rfl (At.up (w := w) (by assumption) (hu.trans hq)) rfl | exact y_load1 rfl (by assumption) | exact y_loadA rfl (by assumption) (by first | rfl | assumption) | exact y_loadA rfl (Box.at (by assumption)) rfl | exact y_loadA rfl (At.up (by assumption) hq) (by first | rfl | assumption) | exact y_loadA rfl (At.up (w := w) (by assumption) hu) (by first | rfl | assumption) | exact y_loadA rfl (At.up (w := w) (by assumption) (hu.trans hq)) (by first | rfl | assumption) | exact y_extract rfl rfl | exact dT (by (first | assumption | omega)) (y_lss rfl rfl) | exact dF (by (first | assumption | omega)) (y_lss rfl rfl) | exact dT (by (first | assumption | omega)) (y_gtr rfl rfl) | exact dF (by (first | assumption | omega)) (y_gtr rfl rfl) | exact dT (by (first | assumption | omega)) (y_geq rfl rfl) | exact dF (by (first | assumption | omega)) (y_geq rfl rfl) | exact dT (by (first | assumption | omega)) (y_leq rfl rfl) | exact dF (by (first | assumption | omega)) (y_leq rfl rfl) | exact dT (by (first | assumption | omega)) (y_eql rfl rfl) | exact dF (by (first | assumption | omega)) (y_eql rfl rfl) | exact dT (by (first | assumption | omega)) (y_neq rfl rfl) | exact dF (by (first | assumption | omega)) (y_neq rfl rfl) | exact y_lss rfl rfl | exact y_gtr rfl rfl | exact y_geq rfl rfl | exact y_leq rfl rfl | exact y_eql rfl rfl | exact y_neq rfl rfl | exact y_indexAddr rfl rfl (by omega) | exact y_inc rfl rfl (by omega) | exact dT (by assumption) (y_eqlS rfl rfl) | exact dF (by assumption) (y_eqlS rfl rfl) | exact dT (by assumption) (y_neqS rfl rfl) | exact y_neqSF (by assumption) rfl rfl | exact y_eqlS rfl rfl | exact y_neqS rfl rfl | exact y_indexS rfl rfl (by assumption) | exact y_sliceHi rfl rfl (by omega)))) (h1 : S1 w := by assumption) (h2 : S2 w := by assumption) (hs : Region.noSelect ops = true := by kernel_rfl) (hD : waits ops D i = true := by kernel_rfl) (hf : Region.free .any ops listed i = true := by kernel_rfl) (hr : (Region.ready .any ops listed).contains i = true := by kernel_rfl) (hc : (D.all fun d => !listed.getD d true) = true := by kernel_rfl) :
    RD P f N ops D S1 S2 (fuel + 1) listed K e w R := RD.take hi hs hD hf hr (clean_of hc) h1 h2 hw hd hy h
theorem RD.any {i d : Nat} {op : Op} {ty : TypeId} {ps : String} {af : Array Edge} {g : Option (Nat × Bool)} {v : Value}
    (hi : ops[i]? = some { dst := some d, op := op, type := ty, pos := ps, after := af, guard := g }) (hs : Region.noSelect ops = true) (hD : i ∉ D) (hf : Region.free .any ops listed i = true) (hr : (Region.ready .any ops listed).contains i = true)
    (h1 : Clean D listed → S1 w) (h2 : S2 w) (hw : Wants ops e g) (hd : Nat.blt d N = true) (hy : ∀ w, S2 w → Yld P op ty e w v) (h : RD P f N ops D S1 S2 fuel (listed.setIfInBounds i true) K ((d, v) :: e) w R) : RD P f N ops D S1 S2 (fuel + 1) listed K e w R := fun tm hok =>
  anyD_any hi hs hD (fun c a w => QX.put c _ _ a w) fuel listed _ w hf (by simpa using hr) (.inl ⟨Wants.wanted (o := { dst := some d, op := op, type := ty, pos := ps, after := af, guard := g }) hw hok, fun w hw => by rw [execOp_eq]; exact (hy w hw).out _ (hok.sees [])⟩) h1 h2 (h _ (hok.put hd v))
/-- ahead of the stores -/
theorem RD.tm (i : Nat) {d : Nat} {op : Op} {ty : TypeId} {ps : String} {af : Array Edge} {g : Option (Nat × Bool)} {v : Value}
    (h : RD P f N ops D S1 S2 fuel (listed.setIfInBounds i true) K ((d, v) :: e) w R) (hi : ops[i]? = some { dst := some d, op := op, type := ty, pos := ps, after := af, guard := g } := by rfl) (hw : Wants ops e g := by first | exact trivial | exact ⟨_, _, rfl, rfl, rfl⟩) (hd : Nat.blt d N = true := by rfl)
    (hy : ∀ w, S2 w → Yld P op ty e w v := by (intro wq hq; (first | exact y_move rfl | exact y_assign rfl | exact y_pickT rfl rfl | exact y_pickF rfl rfl | exact y_nilCheck rfl | exact y_notT rfl | exact y_notF rfl | exact y_not rfl | exact y_len rfl | exact y_lenS rfl | exact y_fieldAddr rfl | exact y_makeFunc rfl | exact y_neqNilF rfl | exact y_neqBF rfl rfl | exact y_neqNilT rfl | exact y_eqlNilF rfl | exact y_eqlNilT rfl | exact y_loadF rfl (by assumption) rfl | exact y_loadF rfl (Box.at (by assumption)) rfl | exact y_loadF rfl (At.up (by assumption) hq) rfl | exact y_loadF rfl (Box.at (Box.up (by assumption) hq)) rfl | exact y_loadF rfl (At.up (w := w) (by assumption) hu) rfl | exact y_loadF rfl (At.up (w := w) (by assumption) (hu.trans hq)) rfl | exact y_load0 rfl (by assumption) rfl | exact y_load0 rfl (Box.at (by assumption)) rfl | exact y_load0 rfl (At.up (by assumption) hq) rfl | exact y_load0 rfl (Box.at (Box.up (by assumption) hq)) rfl | exact y_load0 rfl (At.up (w := w) (by assumption) hu) rfl | exact y_load0 rfl (At.up (w := w) (by assumption) (hu.trans hq)) rfl | exact y_load1 rfl (by assumption) | exact y_loadA rfl (by assumption) (by first | rfl | assumption) | exact y_loadA rfl (Box.at (by assumption)) rfl | exact y_loadA rfl (At.up (by assumption) hq) (by first | rfl | assumption) | exact y_loadA rfl (At.up (w := w) (by assumption) hu) (by first | rfl | assumption) | exact y_loadA rfl (At.up (w := w) (by assumption) (hu.trans hq)) (by first | rfl | assumption) | exact y_extract rfl rfl | exact dT (by (first | assumption | omega)) (y_lss rfl rfl) | exact dF (by (first | assumption | omega)) (y_lss rfl rfl) | exact dT (by (first | assumption | omega)) (y_gtr rfl rfl) | exact dF (by (first | assumption | omega)) (y_gtr rfl rfl) | exact dT (by (first | assumption | omega)) (y_geq rfl rfl) | exact dF (by (first | assumption | omega)) (y_geq rfl rfl) | exact dT (by (first | assumption | omega)) (y_leq rfl rfl) | exact dF (by (first | assumption | omega)) (y_leq rfl rfl) | exact dT (by (first | assumption | omega)) (y_eql rfl rfl) | exact dF (by (first | assumption | omega)) (y_eql rfl rfl) | exact dT (by (first | assumption | omega)) (y_neq rfl rfl) | exact dF (by (first | assumption | omega)) (y_neq rfl rfl) | exact y_lss rfl rfl | exact y_gtr rfl rfl | exact y_geq rfl rfl | exact y_leq rfl rfl | exact y_eql rfl rfl | exact y_neq rfl rfl | exact y_indexAddr rfl rfl (by omega) | exact y_inc rfl rfl (by omega) | exact dT (by assumption) (y_eqlS rfl rfl) | exact dF (by assumption) (y_eqlS rfl rfl) | exact dT (by assumption) (y_neqS rfl rfl) | exact y_neqSF (by assumption) rfl rfl | exact y_eqlS rfl rfl | exact y_neqS rfl rfl | exact y_indexS rfl rfl (by assumption) | exact y_sliceHi rfl rfl (by omega)))) (h1 : S1 w := by assumption) (h2 : S2 w := by assumption) (hs : Region.noSelect ops = true := by kernel_rfl) (hD : i ∉ D := by decide) (hf : Region.free .any ops listed i = true := by kernel_rfl) (hr : (Region.ready .any ops listed).contains i = true := by kernel_rfl) :
    RD P f N ops D S1 S2 (fuel + 1) listed K e w R := RD.any hi hs hD hf hr (fun _ => h1) h2 hw hd hy h
end
attribute [irreducible] RD
/-- in a region that stores, once the stores have begun: an operation that needs nothing of the world, alone ready -/
theorem RD.on {P : Program} {f : FuncId} {N : Nat} {e : Env} {w : World} {R : Ending → World → Prop} {ops : Array Oper} {D : List Nat} {S1 S2 : World → Prop} {fuel : Nat} {listed : Array Bool} {K : Act → World → Prop} (i : Nat) {d : Nat} {op : Op} {ty : TypeId} {ps : String} {af : Array Edge} {g : Option (Nat × Bool)} {v : Value}
    (h2 : S2 w) (h : RD P f N ops D S1 S2 fuel (listed.setIfInBounds i true) K ((d, v) :: e) w R) (hr : Region.ready .any ops listed = [i] := by kernel_rfl) (hi : ops[i]? = some { dst := some d, op := op, type := ty, pos := ps, after := af, guard := g } := by rfl) (hw : Wants ops e g := by first | exact trivial | exact ⟨_, _, rfl, rfl, rfl⟩) (hd : Nat.blt d N = true := by rfl)
    (hy : Yld P op ty e w v := by (first | exact y_move rfl | exact y_assign rfl | exact y_pickT rfl rfl | exact y_pickF rfl rfl | exact y_nilCheck rfl | exact y_notT rfl | exact y_notF rfl | exact y_not rfl | exact y_len rfl | exact y_lenS rfl | exact y_fieldAddr rfl | exact y_makeFunc rfl | exact y_neqNilF rfl | exact y_neqBF rfl rfl | exact y_neqNilT rfl | exact y_eqlNilF rfl | exact y_eqlNilT rfl | exact y_loadF rfl (by assumption) rfl | exact y_loadF rfl (Box.at (by assumption)) rfl | exact y_loadF rfl (At.up (by assumption) hq) rfl | exact y_loadF rfl (Box.at (Box.up (by assumption) hq)) rfl | exact y_loadF rfl (At.up (w := w) (by assumption) hu) rfl | exact y_loadF rfl (At.up (w := w) (by assumption) (hu.trans hq)) rfl | exact y_load0 rfl (by assumption) rfl | exact y_load0 rfl (Box.at (by assumption)) rfl | exact y_load0 rfl (At.up (by assumption) hq) rfl | exact y_load0 rfl (Box.at (Box.up (by assumption) hq)) rfl | exact y_load0 rfl (At.up (w := w) (by assumption) hu) rfl | exact y_load0 rfl (At.up (w := w) (by assumption) (hu.trans hq)) rfl | exact y_load1 rfl (by assumption) | exact y_loadA rfl (by assumption) (by first | rfl | assumption) | exact y_loadA rfl (Box.at (by assumption)) rfl | exact y_loadA rfl (At.up (by assumption) hq) (by first | rfl | assumption) | exact y_loadA rfl (At.up (w := w) (by assumption) hu) (by first | rfl | assumption) | exact y_loadA rfl (At.up (w := w) (by assumption) (hu.trans hq)) (by first | rfl | assumption) | exact y_extract rfl rfl | exact dT (by (first | assumption | omega)) (y_lss rfl rfl) | exact dF (by (first | assumption | omega)) (y_lss rfl rfl) | exact dT (by (first | assumption | omega)) (y_gtr rfl rfl) | exact dF (by (first | assumption | omega)) (y_gtr rfl rfl) | exact dT (by (first | assumption | omega)) (y_geq rfl rfl) | exact dF (by (first | assumption | omega)) (y_geq rfl rfl) | exact dT (by (first | assumption | omega)) (y_leq rfl rfl) | exact dF (by (first | assumption | omega)) (y_leq rfl rfl) | exact dT (by (first | assumption | omega)) (y_eql rfl rfl) | exact dF (by (first | assumption | omega)) (y_eql rfl rfl) | exact dT (by (first | assumption | omega)) (y_neq rfl rfl) | exact dF (by (first | assumption | omega)) (y_neq rfl rfl) | exact y_lss rfl rfl | exact y_gtr rfl rfl | exact y_geq rfl rfl | exact y_leq rfl rfl | exact y_eql rfl rfl | exact y_neq rfl rfl | exact y_indexAddr rfl rfl (by omega) | exact y_inc rfl rfl (by omega) | exact dT (by assumption) (y_eqlS rfl rfl) | exact dF (by assumption) (y_eqlS rfl rfl) | exact dT (by assumption) (y_neqS rfl rfl) | exact y_neqSF (by assumption) rfl rfl | exact y_eqlS rfl rfl | exact y_neqS rfl rfl | exact y_indexS rfl rfl (by assumption) | exact y_sliceHi rfl rfl (by omega))) (hc : (D.all fun d => !(listed.setIfInBounds i true).getD d true) = false := by kernel_rfl) : RD P f N ops D S1 S2 (fuel + 1) listed K e w R :=
  RD.one i (RL.val hw hd hy (RL.ox h2 h hc)) hr hi
end Go.Proofs.Ytgckpmcdlciibab

namespace Go.Proofs.Ytgckpmcdlciibab
open Go.RowKit
def dropV (a : Option Addr) (n c i k : Nat) : Value := .slice (if c = i then a else a.map fun x => x.add (i * k)) (n - i) (c - i)
section
variable {P : Program} {e : Env} {w : World} {ty : TypeId} {t el : TypeId} {x y z : Operand} {a : Option Addr} {n c : Nat}
end
theorem SliceOf.drop {α : Type} {L : Lay α} {S : Nat → Prop} {w : World} {a : Option Addr} {n c : Nat} {xs : List α} (h : SliceOf L S w (.slice a n c) xs) {i : Nat} (hi : i ≤ n) : SliceOf L S w (dropV a n c i L.k) (xs.drop i) := by
  obtain ⟨a', c', e, h1, h2, h3⟩ := h
  simp only [Value.slice.injEq] at e
  obtain ⟨rfl, rfl, rfl⟩ := e
  have hlen : (xs.drop i).length = xs.length - i := by simp
  refine ⟨_, c - i, by rw [hlen]; rfl, by omega, by omega, fun hp => ?_⟩
  obtain ⟨b, o, rfl, hb, he⟩ := h3 (by omega)
  refine ⟨b, o + i * L.k, by rw [if_neg (by omega)]; simp [addr_add], hb, fun j x hx => ?_⟩
  rw [List.getElem?_drop] at hx
  obtain ⟨cs, hc, hi'⟩ := he (i + j) x hx
  refine ⟨cs, ?_, hi'⟩
  rwa [Nat.add_mul, ← Nat.add_assoc] at hc
theorem SliceOf.bt {α : Type} {L : Lay α} {S : Nat → Prop} {w w' : World} {v : Value} {xs : List α} {b : Nat} (h : SliceOf L S w v xs) (hb : But b w w') (hS : ∀ k, S k → k ≠ b) : SliceOf L S w' v xs := h.keep fun k hk => hb.keep k (hS k hk)
end Go.Proofs.Ytgckpmcdlciibab

namespace Go.Proofs.Ytgckpmcdlciibab
open Go.RowKit
section
variable {α : Type} {L : Lay α} {el : TypeId} {B : Nat} {S : Nat → Prop} {w w1 : World} {v : Value} {xs : List α}
/-- where an element lies -/
theorem Own.get (h : Own L el B S w v xs) {i : Nat} {x : α} (hx : xs[i]? = some x) : ∃ g c cs, v = .slice (some ⟨g, 0, none⟩) xs.length c ∧ At w g (0 + i * L.k) cs ∧ L.is (fun b => S b ∧ some b ≠ v.ownBlock) w cs x ∧ i < xs.length ∧ xs.length ≤ c ∧ c ≤ maxLen := by
  obtain ⟨css, ho, hl, hi⟩ := h
  have hlt := (List.getElem?_eq_some_iff.1 hx).1
  rcases ho.2 with ⟨rfl, h0⟩ | ⟨g, cap, cur, rfl, hb, hg, hnc, hm, hr⟩
  · omega
  have hcs : css[i]? = some css[i] := List.getElem?_eq_getElem (by omega)
  have hall : ∀ c ∈ css, c.length = L.k := fun cs hcs => by
    obtain ⟨m, hm', rfl⟩ := List.getElem_of_mem hcs
    exact L.len (hi m _ xs[m] (List.getElem?_eq_getElem hm') (List.getElem?_eq_getElem (by omega)))
  refine ⟨g, cap, css[i], rfl, fun j u hj => ?_, hi i _ x hcs hx, hlt, hnc, hm⟩
  have hcell := ho.cells (g := g) rfl (i * L.k + j) u (flat_get hall hcs hj)
  rw [addr_add] at hcell
  rw [show 0 + i * L.k + j = 0 + (i * L.k + j) by omega]
  exact hcell
theorem Own.pos (h : Own L el B S w v xs) (hp : 0 < xs.length) : ∃ g c, v = .slice (some ⟨g, 0, none⟩) xs.length c := by
  obtain ⟨g, c, _, h1, _⟩ := h.get (List.getElem?_eq_getElem hp)
  exact ⟨g, c, h1⟩
end
section
variable {P : Program} {f : FuncId} {N : Nat} {K : Act → World → Prop} {e : Env} {w w0 : World} {R : Ending → World → Prop}
variable {ops : Array Oper} {rest : List Oper} {ty : TypeId} {ps : String} {af : Array Edge} {gd : Option (Nat × Bool)} {v : Value}
end
end Go.Proofs.Ytgckpmcdlciibab
