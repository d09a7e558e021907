/- From the form's reading of an argument to its plain data. -/
import Derived.Test.YtgckpmcdlciibaaRep
import Derived.ProofKit
import Derived.Deep.Slices
namespace Go.Proofs.Ytgckpmcdlciibaa
open Go.RowKit Go.Deep Go.WideMaps Go.WideElems

theorem len2 {cs : List Value} (h : cs.length = 2) : ∃ a b, cs = [a, b] := by
  match cs, h with
  | [a, b], _ => exact ⟨a, b, rfl⟩
theorem len3 {cs : List Value} (h : cs.length = 3) : ∃ a b c, cs = [a, b, c] := by
  match cs, h with
  | [a, b, c], _ => exact ⟨a, b, c, rfl⟩
theorem len4 {cs : List Value} (h : cs.length = 4) : ∃ a b c d, cs = [a, b, c, d] := by
  match cs, h with
  | [a, b, c, d], _ => exact ⟨a, b, c, d, rfl⟩
section
variable {H : Type} {enc : TypeId × Value → H} {w : World} {base : Nat} {spare : Nat → Bool} {held : Bool} {fuel : Nat} {cs : List Value} {x : DataW H × List MemPlace}
def All : Nat → Prop := fun _ => True

theorem field_of {t : TypeId} {fs : Array Field} (ht : Try.prog.underlying t = some (.struct fs)) (h : DataW.trod enc Try.prog w base spare held fuel t cs = some x) {i : Nat} {f : Field} (hi : fs[i]? = some f) :
    ∃ n y, DataW.trod enc Try.prog w base spare held n f.type ((cs.drop f.offset).take (Try.prog.cellsOf f.type)) = some y := by
  obtain ⟨xs, n, _, _, _, hl, hf⟩ := DataW.trod_struct ht h
  have hlt : i < fs.size := (Array.getElem?_eq_some_iff.1 hi).1
  exact ⟨n, xs[i], by rw [hf i f hi]; exact List.getElem?_eq_getElem (by omega)⟩
theorem cells_of {t : TypeId} {fs : Array Field} (ht : Try.prog.underlying t = some (.struct fs)) (h : DataW.trod enc Try.prog w base spare held fuel t cs = some x) : cs.length = Try.prog.cellsOf t := by
  obtain ⟨xs, n, _, _, hc, _⟩ := DataW.trod_struct ht h
  exact hc

theorem take_one {cs : List Value} {off : Nat} {c : Value} (hc : cs[off]? = some c) : (cs.drop off).take 1 = [c] := by
  obtain ⟨hlt, rfl⟩ := List.getElem?_eq_some_iff.1 hc
  rw [List.drop_eq_getElem_cons hlt]
  rfl
theorem field1 {t : TypeId} {fs : Array Field} {off : Nat} {ft : TypeId} {c : Value} (ht : Try.prog.underlying t = some (.struct fs)) (h : DataW.trod enc Try.prog w base spare held fuel t cs = some x) (i : Nat) {f : Field} (hi : fs[i]? = some f) (ho : f.offset = off) (hft : f.type = ft) (hs : Try.prog.cellsOf ft = 1) (hc : cs[off]? = some c) :
    ∃ n y, DataW.trod enc Try.prog w base spare held n ft [c] = some y := by
  obtain ⟨n, y, h1⟩ := field_of ht h hi
  rw [hft, ho, hs, take_one hc] at h1
  exact ⟨n, y, h1⟩
/-- what a type's reading opens to -/
def Opens {α : Type} (L : Lay α) (ok : α → Prop) (t : TypeId) : Prop :=
  ∀ {H : Type} {enc : TypeId × Value → H} {w : World} {base : Nat} {spare : Nat → Bool} {held : Bool} {fuel : Nat} {cs : List Value} {x : DataW H × List MemPlace}, DataW.trod enc Try.prog w base spare held fuel t cs = some x → ∃ a, L.is All w cs a ∧ ok a

theorem open_list {α : Type} {L : Lay α} {ok : α → Prop} {t e : TypeId} (ht : Try.prog.underlying t = some (.slice e)) (hk : Try.prog.cellsOf e = L.k) (he : Opens L ok e) (h : DataW.trod enc Try.prog w base spare held fuel t cs = some x) :
    ∃ v xs, cs = [v] ∧ SliceOf L All w v xs ∧ ∀ y ∈ xs, ok y := by
  rcases open_slice ht h with ⟨rfl, _⟩ | ⟨a, len, cap, m, n, D, Pl, rfl, _, hlc, hcm, hm, _, hel⟩
  · exact ⟨_, [], rfl, SliceOf.nil L All w, fun y hy => by simp at hy⟩
  have hex : ∀ i : Fin len, ∃ y cs', w.cells? base (a.add (i.1 * Try.prog.cellsOf e)) (Try.prog.cellsOf e) = some cs' ∧ L.is All w cs' y ∧ ok y := fun i => by
    obtain ⟨cs', h1, h2⟩ := hel i.1 (by rw [hm]; split <;> omega)
    obtain ⟨y, h3, h4⟩ := he h2
    exact ⟨y, cs', h1, h3, h4⟩
  obtain ⟨f, hf⟩ := Classical.axiomOfChoice hex
  have hlen : (List.ofFn f).length = len := by simp
  refine ⟨_, List.ofFn f, rfl, ⟨some a, cap, by rw [hlen], by omega, hcm, fun hp => ?_⟩, fun y hy => ?_⟩
  · have h0 : 0 < len := by omega
    obtain ⟨cs0, h1, h2, _⟩ := hf ⟨0, h0⟩
    obtain ⟨_, hl0, hc0⟩ := World.cells?_some h1
    have hspot : a.spot = none := by
      have h3 := hc0 0 (by rw [hk]; exact L.pos)
      have h4 : 0 < cs0.length := by rw [hl0, hk]; exact L.pos
      rw [List.getElem?_eq_getElem h4] at h3
      have h5 : (a.add (0 * Try.prog.cellsOf e)).add 0 = a := by simp [Addr.add]
      rw [h5] at h3
      unfold World.cell? at h3
      split at h3
      · split at h3
        · cases h3
        · rename_i hs
          cases hh : a.spot with
          | none => rfl
          | some _ => rw [hh] at hs; simp at hs
      · cases h3
    obtain ⟨b, o, sp⟩ := a
    simp only at hspot
    subst hspot
    refine ⟨b, o, rfl, trivial, fun i y hy => ?_⟩
    rw [List.getElem?_ofFn] at hy
    split at hy
    · rename_i hi
      simp at hy
      subst hy
      obtain ⟨cs', h1, h2, _⟩ := hf ⟨i, hi⟩
      obtain ⟨_, hl', hc'⟩ := World.cells?_some h1
      refine ⟨cs', fun j u hj => ?_, h2⟩
      have hjl : j < Try.prog.cellsOf e := by
        have := (List.getElem?_eq_some_iff.1 hj).1
        omega
      have h3 := hc' j hjl
      rw [addr_add, addr_add] at h3
      rw [← hk]
      rw [h3]
      exact hj
    · cases hy
  · obtain ⟨i, hi⟩ := List.mem_ofFn.1 hy
    obtain ⟨_, _, _, h4⟩ := hf i
    rw [← hi]
    exact h4
theorem opens_slice {α : Type} {L : Lay α} {ok : α → Prop} {t e : TypeId} (ht : Try.prog.underlying t = some (.slice e)) (hk : Try.prog.cellsOf e = L.k) (he : Opens L ok e) : Opens L.slice (fun xs => ∀ y ∈ xs, ok y) t := fun h => by
  obtain ⟨v, xs, rfl, hs, hx⟩ := open_list ht hk he h
  exact ⟨xs, ⟨v, rfl, hs⟩, hx⟩
end
def okS (s : Str) : Prop := s.size ≤ maxLen
theorem opens_str : Opens strLay okS 9 := fun h => by
  obtain ⟨s, rfl, _, hs⟩ := DataW.trod_string Try.underlying9 h
  exact ⟨s, rfl, hs⟩
def okFld (f : Fld) : Prop := okS f.name ∧ okS f.type
theorem opens_fld : Opens fldLay okFld 118 := fun {_ _ _ _ _ _ _ cs _} h => by
  have hl : cs.length = 3 := (cells_of Try.underlying118 h).trans (by kernel_rfl)
  obtain ⟨c0, c1, c2, rfl⟩ := len3 hl
  obtain ⟨n0, y0, h0⟩ := field1 Try.underlying118 h 0 rfl rfl rfl (by kernel_rfl : Try.prog.cellsOf 9 = 1) (rfl : _ = some c0)
  obtain ⟨n1, y1, h1⟩ := field1 Try.underlying118 h 1 rfl rfl rfl (by kernel_rfl : Try.prog.cellsOf 3 = 1) (rfl : _ = some c1)
  obtain ⟨n2, y2, h2⟩ := field1 Try.underlying118 h 2 rfl rfl rfl (by kernel_rfl : Try.prog.cellsOf 9 = 1) (rfl : _ = some c2)
  obtain ⟨s0, e0, _, b0⟩ := DataW.trod_string Try.underlying9 h0
  obtain ⟨k1, e1, _, _⟩ := DataW.trod_int Try.underlying3 h1
  obtain ⟨s2, e2, _, b2⟩ := DataW.trod_string Try.underlying9 h2
  simp only [List.cons.injEq, and_true] at e0 e1 e2
  subst e0; subst e1; subst e2
  exact ⟨⟨s0, k1, s2⟩, rfl, b0, b2⟩
def okTyp (t : Typ) : Prop := okS t.name ∧ ∀ f ∈ t.fields, okFld f
theorem opens_typ : Opens typLay okTyp 55 := fun {_ _ _ _ _ _ _ cs _} h => by
  have hl : cs.length = 2 := (cells_of Try.underlying55 h).trans (by kernel_rfl)
  obtain ⟨c0, c1, rfl⟩ := len2 hl
  obtain ⟨n0, y0, h0⟩ := field1 Try.underlying55 h 0 rfl rfl rfl (by kernel_rfl : Try.prog.cellsOf 9 = 1) (rfl : _ = some c0)
  obtain ⟨n1, y1, h1⟩ := field1 Try.underlying55 h 1 rfl rfl rfl (by kernel_rfl : Try.prog.cellsOf 53 = 1) (rfl : _ = some c1)
  obtain ⟨s0, e0, _, b0⟩ := DataW.trod_string Try.underlying9 h0
  obtain ⟨v, fs, e1, hs, b1⟩ := open_list Try.underlying53 (by kernel_rfl) opens_fld h1
  simp only [List.cons.injEq, and_true] at e0 e1
  subst e0; subst e1
  exact ⟨⟨s0, fs⟩, ⟨_, rfl, hs⟩, b0, b1⟩
def okVal (v : VVal) : Prop := okS v.field ∧ okS v.text ∧ ∀ k ∈ v.keys, okS k
theorem opens_val : Opens valLay okVal 105 := fun {_ _ _ _ _ _ _ cs _} h => by
  have hl : cs.length = 3 := (cells_of Try.underlying105 h).trans (by kernel_rfl)
  obtain ⟨c0, c1, c2, rfl⟩ := len3 hl
  obtain ⟨n0, y0, h0⟩ := field1 Try.underlying105 h 0 rfl rfl rfl (by kernel_rfl : Try.prog.cellsOf 9 = 1) (rfl : _ = some c0)
  obtain ⟨n1, y1, h1⟩ := field1 Try.underlying105 h 1 rfl rfl rfl (by kernel_rfl : Try.prog.cellsOf 9 = 1) (rfl : _ = some c1)
  obtain ⟨n2, y2, h2⟩ := field1 Try.underlying105 h 2 rfl rfl rfl (by kernel_rfl : Try.prog.cellsOf 23 = 1) (rfl : _ = some c2)
  obtain ⟨s0, e0, _, b0⟩ := DataW.trod_string Try.underlying9 h0
  obtain ⟨s1, e1, _, b1⟩ := DataW.trod_string Try.underlying9 h1
  obtain ⟨v, fs, e2, hs, b2⟩ := open_list Try.underlying23 (by kernel_rfl) opens_str h2
  simp only [List.cons.injEq, and_true] at e0 e1 e2
  subst e0; subst e1; subst e2
  exact ⟨⟨s0, s1, fs⟩, ⟨_, rfl, hs⟩, b0, b1, b2⟩
def okThg (x : Thg) : Prop := okS x.type ∧ okS x.key ∧ ∀ v ∈ x.vals, okVal v
theorem opens_thg : Opens thgLay okThg 103 := fun {_ _ _ _ _ _ _ cs _} h => by
  have hl : cs.length = 3 := (cells_of Try.underlying103 h).trans (by kernel_rfl)
  obtain ⟨c0, c1, c2, rfl⟩ := len3 hl
  obtain ⟨n0, y0, h0⟩ := field1 Try.underlying103 h 0 rfl rfl rfl (by kernel_rfl : Try.prog.cellsOf 9 = 1) (rfl : _ = some c0)
  obtain ⟨n1, y1, h1⟩ := field1 Try.underlying103 h 1 rfl rfl rfl (by kernel_rfl : Try.prog.cellsOf 9 = 1) (rfl : _ = some c1)
  obtain ⟨n2, y2, h2⟩ := field1 Try.underlying103 h 2 rfl rfl rfl (by kernel_rfl : Try.prog.cellsOf 101 = 1) (rfl : _ = some c2)
  obtain ⟨s0, e0, _, b0⟩ := DataW.trod_string Try.underlying9 h0
  obtain ⟨s1, e1, _, b1⟩ := DataW.trod_string Try.underlying9 h1
  obtain ⟨v, fs, e2, hs, b2⟩ := open_list Try.underlying101 (by kernel_rfl) opens_val h2
  simp only [List.cons.injEq, and_true] at e0 e1 e2
  subst e0; subst e1; subst e2
  exact ⟨⟨s0, s1, fs⟩, ⟨_, rfl, hs⟩, b0, b1, b2⟩
end Go.Proofs.Ytgckpmcdlciibaa
