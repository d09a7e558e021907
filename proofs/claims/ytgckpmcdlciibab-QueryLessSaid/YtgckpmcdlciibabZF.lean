/- Several texts in one: From the form's reading of an argument to its plain data. How a law's row is closed: the arguments read as they did, the result is true. From the form's reading of an argument to its plain data: more types; picks of picks. -/
import Derived.Test.YtgckpmcdlciibabZB
import Derived.ProofKit
import Derived.Deep.Slices
import Derived.OpenShut
import Derived.Test.YtgckpmcdlciibabZP
namespace Go.Proofs.Ytgckpmcdlciibab
open Go.RowKit Go.Deep Go.WideMaps Go.WideElems

theorem len2 {cs : List Value} (h : cs.length = 2) : ∃ a b, cs = [a, b] := by
  match cs, h with
  | [a, b], _ => exact ⟨a, b, rfl⟩
theorem len3 {cs : List Value} (h : cs.length = 3) : ∃ a b c, cs = [a, b, c] := by
  match cs, h with
  | [a, b, c], _ => exact ⟨a, b, c, rfl⟩
theorem len4 {cs : List Value} (h : cs.length = 4) : ∃ a b c d, cs = [a, b, c, d] := by
  match cs, h with
  | [a, b, c, d], _ => exact ⟨a, b, c, d, rfl⟩
section
variable {H : Type} {enc : TypeId × Value → H} {w : World} {base : Nat} {spare : Nat → Bool} {held : Bool} {fuel : Nat} {cs : List Value} {x : DataW H × List MemPlace}
def All : Nat → Prop := fun _ => True

theorem field_of {t : TypeId} {fs : Array Field} (ht : Try.prog.underlying t = some (.struct fs)) (h : DataW.trod enc Try.prog w base spare held fuel t cs = some x) {i : Nat} {f : Field} (hi : fs[i]? = some f) :
    ∃ n y, DataW.trod enc Try.prog w base spare held n f.type ((cs.drop f.offset).take (Try.prog.cellsOf f.type)) = some y := by
  obtain ⟨xs, n, _, _, _, hl, hf⟩ := DataW.trod_struct ht h
  have hlt : i < fs.size := (Array.getElem?_eq_some_iff.1 hi).1
  exact ⟨n, xs[i], by rw [hf i f hi]; exact List.getElem?_eq_getElem (by omega)⟩
theorem cells_of {t : TypeId} {fs : Array Field} (ht : Try.prog.underlying t = some (.struct fs)) (h : DataW.trod enc Try.prog w base spare held fuel t cs = some x) : cs.length = Try.prog.cellsOf t := by
  obtain ⟨xs, n, _, _, hc, _⟩ := DataW.trod_struct ht h
  exact hc

theorem take_one {cs : List Value} {off : Nat} {c : Value} (hc : cs[off]? = some c) : (cs.drop off).take 1 = [c] := by
  obtain ⟨hlt, rfl⟩ := List.getElem?_eq_some_iff.1 hc
  rw [List.drop_eq_getElem_cons hlt]
  rfl
theorem field1 {t : TypeId} {fs : Array Field} {off : Nat} {ft : TypeId} {c : Value} (ht : Try.prog.underlying t = some (.struct fs)) (h : DataW.trod enc Try.prog w base spare held fuel t cs = some x) (i : Nat) {f : Field} (hi : fs[i]? = some f) (ho : f.offset = off) (hft : f.type = ft) (hs : Try.prog.cellsOf ft = 1) (hc : cs[off]? = some c) :
    ∃ n y, DataW.trod enc Try.prog w base spare held n ft [c] = some y := by
  obtain ⟨n, y, h1⟩ := field_of ht h hi
  rw [hft, ho, hs, take_one hc] at h1
  exact ⟨n, y, h1⟩
/-- what a type's reading opens to -/
def Opens {α : Type} (L : Lay α) (ok : α → Prop) (t : TypeId) : Prop :=
  ∀ {H : Type} {enc : TypeId × Value → H} {w : World} {base : Nat} {spare : Nat → Bool} {held : Bool} {fuel : Nat} {cs : List Value} {x : DataW H × List MemPlace}, DataW.trod enc Try.prog w base spare held fuel t cs = some x → ∃ a, L.is All w cs a ∧ ok a

theorem open_list {α : Type} {L : Lay α} {ok : α → Prop} {t e : TypeId} (ht : Try.prog.underlying t = some (.slice e)) (hk : Try.prog.cellsOf e = L.k) (he : Opens L ok e) (h : DataW.trod enc Try.prog w base spare held fuel t cs = some x) :
    ∃ v xs, cs = [v] ∧ SliceOf L All w v xs ∧ ∀ y ∈ xs, ok y := by
  rcases open_slice ht h with ⟨rfl, _⟩ | ⟨a, len, cap, m, n, D, Pl, rfl, _, hlc, hcm, hm, _, hel⟩
  · exact ⟨_, [], rfl, SliceOf.nil L All w, fun y hy => by simp at hy⟩
  have hex : ∀ i : Fin len, ∃ y cs', w.cells? base (a.add (i.1 * Try.prog.cellsOf e)) (Try.prog.cellsOf e) = some cs' ∧ L.is All w cs' y ∧ ok y := fun i => by
    obtain ⟨cs', h1, h2⟩ := hel i.1 (by rw [hm]; split <;> omega)
    obtain ⟨y, h3, h4⟩ := he h2
    exact ⟨y, cs', h1, h3, h4⟩
  obtain ⟨f, hf⟩ := Classical.axiomOfChoice hex
  have hlen : (List.ofFn f).length = len := by simp
  refine ⟨_, List.ofFn f, rfl, ⟨some a, cap, by rw [hlen], by omega, hcm, fun hp => ?_⟩, fun y hy => ?_⟩
  · have h0 : 0 < len := by omega
    obtain ⟨cs0, h1, h2, _⟩ := hf ⟨0, h0⟩
    obtain ⟨_, hl0, hc0⟩ := World.cells?_some h1
    have hspot : a.spot = none := by
      have h3 := hc0 0 (by rw [hk]; exact L.pos)
      have h4 : 0 < cs0.length := by rw [hl0, hk]; exact L.pos
      rw [List.getElem?_eq_getElem h4] at h3
      have h5 : (a.add (0 * Try.prog.cellsOf e)).add 0 = a := by simp [Addr.add]
      rw [h5] at h3
      unfold World.cell? at h3
      split at h3
      · split at h3
        · cases h3
        · rename_i hs
          cases hh : a.spot with
          | none => rfl
          | some _ => rw [hh] at hs; simp at hs
      · cases h3
    obtain ⟨b, o, sp⟩ := a
    simp only at hspot
    subst hspot
    refine ⟨b, o, rfl, trivial, fun i y hy => ?_⟩
    rw [List.getElem?_ofFn] at hy
    split at hy
    · rename_i hi
      simp at hy
      subst hy
      obtain ⟨cs', h1, h2, _⟩ := hf ⟨i, hi⟩
      obtain ⟨_, hl', hc'⟩ := World.cells?_some h1
      refine ⟨cs', fun j u hj => ?_, h2⟩
      have hjl : j < Try.prog.cellsOf e := by
        have := (List.getElem?_eq_some_iff.1 hj).1
        omega
      have h3 := hc' j hjl
      rw [addr_add, addr_add] at h3
      rw [← hk]
      rw [h3]
      exact hj
    · cases hy
  · obtain ⟨i, hi⟩ := List.mem_ofFn.1 hy
    obtain ⟨_, _, _, h4⟩ := hf i
    rw [← hi]
    exact h4
end
def okS (s : Str) : Prop := s.size ≤ maxLen
def okFld (f : Fld) : Prop := okS f.name ∧ okS f.type
theorem opens_fld : Opens fldLay okFld 86 := fun {_ _ _ _ _ _ _ cs _} h => by
  have hl : cs.length = 3 := (cells_of Try.underlying86 h).trans (by kernel_rfl)
  obtain ⟨c0, c1, c2, rfl⟩ := len3 hl
  obtain ⟨n0, y0, h0⟩ := field1 Try.underlying86 h 0 rfl rfl rfl (by kernel_rfl : Try.prog.cellsOf 9 = 1) (rfl : _ = some c0)
  obtain ⟨n1, y1, h1⟩ := field1 Try.underlying86 h 1 rfl rfl rfl (by kernel_rfl : Try.prog.cellsOf 3 = 1) (rfl : _ = some c1)
  obtain ⟨n2, y2, h2⟩ := field1 Try.underlying86 h 2 rfl rfl rfl (by kernel_rfl : Try.prog.cellsOf 9 = 1) (rfl : _ = some c2)
  obtain ⟨s0, e0, _, b0⟩ := DataW.trod_string Try.underlying9 h0
  obtain ⟨k1, e1, _, _⟩ := DataW.trod_int Try.underlying3 h1
  obtain ⟨s2, e2, _, b2⟩ := DataW.trod_string Try.underlying9 h2
  simp only [List.cons.injEq, and_true] at e0 e1 e2
  subst e0; subst e1; subst e2
  exact ⟨⟨s0, k1, s2⟩, rfl, b0, b2⟩
def okTyp (t : Typ) : Prop := okS t.name ∧ ∀ f ∈ t.fields, okFld f
theorem opens_typ : Opens typLay okTyp 80 := fun {_ _ _ _ _ _ _ cs _} h => by
  have hl : cs.length = 2 := (cells_of Try.underlying80 h).trans (by kernel_rfl)
  obtain ⟨c0, c1, rfl⟩ := len2 hl
  obtain ⟨n0, y0, h0⟩ := field1 Try.underlying80 h 0 rfl rfl rfl (by kernel_rfl : Try.prog.cellsOf 9 = 1) (rfl : _ = some c0)
  obtain ⟨n1, y1, h1⟩ := field1 Try.underlying80 h 1 rfl rfl rfl (by kernel_rfl : Try.prog.cellsOf 78 = 1) (rfl : _ = some c1)
  obtain ⟨s0, e0, _, b0⟩ := DataW.trod_string Try.underlying9 h0
  obtain ⟨v, fs, e1, hs, b1⟩ := open_list Try.underlying78 (by kernel_rfl) opens_fld h1
  simp only [List.cons.injEq, and_true] at e0 e1
  subst e0; subst e1
  exact ⟨⟨s0, fs⟩, ⟨_, rfl, hs⟩, b0, b1⟩
end Go.Proofs.Ytgckpmcdlciibab

namespace Go.Proofs.Ytgckpmcdlciibab
open Go.ChangeShapes Go.WideShapes Go.ChangeAt Go.RowKit
theorem own : ownKnob Try.prog.godebug = none := by kernel_rfl
theorem laidOut : laidOutB Try.prog = true := by kernel_rfl
section
variable {P : Program}
def readB (P : Program) (ts : List TypeId) : Bool := ts.all fun t => P.readableRec t && decide (t < P.types.size)
theorem trodAll_up (hl : laidOutB P = true) {H : Type} {enc : TypeId × Value → H} {W W' : World} (hu : Up W W') : ∀ (ts : List TypeId) (vs : List Value) (ds : List (DataW H)) (ps : List MemPlace), DataW.TrodAll enc P W 0 (fun _ => true) true ts vs ds ps → readB P ts = true → (∀ x ∈ ps, x.block < W.heap.size) →
    DataW.TrodAll enc P W' 0 (fun b => decide (b < W.heap.size)) true ts vs ds ps := by
  intro ts
  induction ts with
  | nil =>
    intro vs ds ps h _ _
    cases vs <;> cases ds <;> first | exact h | (simp [DataW.TrodAll] at h)
  | cons t ts ih =>
    intro vs ds ps h hr hlt
    cases vs with
    | nil => simp [DataW.TrodAll] at h
    | cons v vs =>
      cases ds with
      | nil => simp [DataW.TrodAll] at h
      | cons d ds =>
        obtain ⟨p, q, h1, h2, rfl⟩ := h
        simp only [readB, List.all_cons, Bool.and_eq_true, decide_eq_true_eq] at hr
        exact ⟨p, q, Below.trod hl hr.1.1 hr.1.2 h1 hu (fun x hx => hlt x (List.mem_append_left _ hx)), ih vs ds q h2 (by simpa [readB] using hr.2) (fun x hx => hlt x (List.mem_append_right _ hx)), rfl⟩
end
theorem law_post {H : Type} {enc : TypeId × Value → H} {fn : Func} {s : ChangeSpec} {W W' : World} {args : Array Value} {ds gs : List (DataW H)} {before : List MemPlace}
    (hW : DataW.Whole enc Try.prog fn.params.toList s.vars false W args.toList ds gs before) (hv : s.vars = []) (hres : fn.resultTypes = #[4]) (hs : ∀ gs : List (DataW H), gs = [] → s.fn H (ds ++ gs) = { results := [.lit (.bool true)], args := ds }) (hr : readB Try.prog fn.params.toList = true) (hu : Up W W') :
    s.post enc Try.prog fn false true false false W args (.bool true) W' := by
  have hlt := hW.lt
  have hW' := hW
  obtain ⟨p, q, hA, hV, rfl, _, _⟩ := hW
  rw [hv] at hV
  obtain ⟨rfl, rfl⟩ := trodVars_none hV
  have hs := hs [] rfl
  have hup := trodAll_up laidOut hu _ _ _ _ hA hr (fun x hx => hlt x (List.mem_append_left _ hx))
  refine ⟨ds, [], p ++ [], [], p, [], hW', ?_, ?_, ?_, World.keptBut_mono (fun x hx => ⟨hx, .inr (.inl (by simpa using hx))⟩) (hu.below.frame _), fun h => by cases h⟩
  · rw [hs, hres]
    exact trodAll_mk1 (shut_bool Try.underlying4 true)
  · rw [hs]
    exact hup
  · rw [hs, hv]
    rfl
end Go.Proofs.Ytgckpmcdlciibab

namespace Go.Proofs.Ytgckpmcdlciibab
open Go.RowKit Go.Deep Go.WideMaps Go.WideElems
section
variable {H : Type} {enc : TypeId × Value → H} {w : World} {base : Nat} {spare : Nat → Bool} {held : Bool} {fuel : Nat} {cs : List Value} {x : DataW H × List MemPlace}
theorem open_list_fuel {α : Type} {L : Lay α} {ok : α → Prop} {t e : TypeId} (ht : Try.prog.underlying t = some (.slice e)) (hk : Try.prog.cellsOf e = L.k)
    (he : ∀ (n : Nat) cs' x', fuel = n + 1 → DataW.trod enc Try.prog w base spare held n e cs' = some x' → ∃ a, L.is All w cs' a ∧ ok a) (h : DataW.trod enc Try.prog w base spare held fuel t cs = some x) :
    ∃ v xs, cs = [v] ∧ SliceOf L All w v xs ∧ ∀ y ∈ xs, ok y := by
  rcases DataW.trod_slice ht h with ⟨rfl, _⟩ | ⟨a, len, cap, elems, rest, n, hfn, rfl, _, _, hlc, hcm, hlen0, hel, _, _⟩
  · exact ⟨_, [], rfl, SliceOf.nil L All w, fun y hy => by simp at hy⟩
  have hex : ∀ i : Fin len, ∃ y cs', w.cells? base (a.add (i.1 * Try.prog.cellsOf e)) (Try.prog.cellsOf e) = some cs' ∧ L.is All w cs' y ∧ ok y := fun i => by
    have h1 := hel i.1 i.2
    rw [List.getElem?_eq_getElem (by rw [hlen0]; exact i.2), Option.bind_eq_some_iff] at h1
    obtain ⟨cs', h1, h2⟩ := h1
    obtain ⟨y, h3, h4⟩ := he n cs' _ hfn h2
    exact ⟨y, cs', h1, h3, h4⟩
  obtain ⟨f, hf⟩ := Classical.axiomOfChoice hex
  have hlen : (List.ofFn f).length = len := by simp
  refine ⟨_, List.ofFn f, rfl, ⟨some a, cap, by rw [hlen], by omega, hcm, fun hp => ?_⟩, fun y hy => ?_⟩
  · have h0 : 0 < len := by omega
    obtain ⟨cs0, h1, h2, _⟩ := hf ⟨0, h0⟩
    obtain ⟨_, hl0, hc0⟩ := World.cells?_some h1
    have hspot : a.spot = none := by
      have h3 := hc0 0 (by rw [hk]; exact L.pos)
      have h4 : 0 < cs0.length := by rw [hl0, hk]; exact L.pos
      rw [List.getElem?_eq_getElem h4] at h3
      have h5 : (a.add (0 * Try.prog.cellsOf e)).add 0 = a := by simp [Addr.add]
      rw [h5] at h3
      unfold World.cell? at h3
      split at h3
      · split at h3
        · cases h3
        · rename_i hs
          cases hh : a.spot with
          | none => rfl
          | some _ => rw [hh] at hs; simp at hs
      · cases h3
    obtain ⟨b, o, sp⟩ := a
    simp only at hspot
    subst hspot
    refine ⟨b, o, rfl, trivial, fun i y hy => ?_⟩
    rw [List.getElem?_ofFn] at hy
    split at hy
    · rename_i hi
      simp at hy
      subst hy
      obtain ⟨cs', h1, h2, _⟩ := hf ⟨i, hi⟩
      obtain ⟨_, hl', hc'⟩ := World.cells?_some h1
      refine ⟨cs', fun j u hj => ?_, h2⟩
      have hjl : j < Try.prog.cellsOf e := by
        have := (List.getElem?_eq_some_iff.1 hj).1
        omega
      have h3 := hc' j hjl
      rw [addr_add, addr_add] at h3
      rw [← hk]
      rw [h3]
      exact hj
    · cases hy
  · obtain ⟨i, hi⟩ := List.mem_ofFn.1 hy
    obtain ⟨_, _, _, h4⟩ := hf i
    rw [← hi]
    exact h4

theorem fieldN {t : TypeId} {fs : Array Field} {off : Nat} {ft : TypeId} {cs' : List Value} (ht : Try.prog.underlying t = some (.struct fs)) (h : DataW.trod enc Try.prog w base spare held fuel t cs = some x) (i : Nat) {f : Field} (hi : fs[i]? = some f) (ho : f.offset = off) (hft : f.type = ft) (hs : (cs.drop off).take (Try.prog.cellsOf ft) = cs') :
    ∃ n y, DataW.trod enc Try.prog w base spare held n ft cs' = some y := by
  obtain ⟨n, y, h1⟩ := field_of ht h hi
  rw [hft, ho, hs] at h1
  exact ⟨n, y, h1⟩
theorem field1_fuel {t : TypeId} {fs : Array Field} {off : Nat} {ft : TypeId} {c : Value} (ht : Try.prog.underlying t = some (.struct fs)) (h : DataW.trod enc Try.prog w base spare held fuel t cs = some x) (i : Nat) {f : Field} (hi : fs[i]? = some f) (ho : f.offset = off) (hft : f.type = ft) (hs : Try.prog.cellsOf ft = 1) (hc : cs[off]? = some c) :
    ∃ n y, fuel = n + 1 ∧ DataW.trod enc Try.prog w base spare held n ft [c] = some y := by
  obtain ⟨xs, n, hn, _, _, hl, hf⟩ := DataW.trod_struct ht h
  have hlt : i < fs.size := (Array.getElem?_eq_some_iff.1 hi).1
  have h1 := hf i f hi
  rw [List.getElem?_eq_getElem (by omega), hft, ho, hs, take_one hc] at h1
  exact ⟨n, _, hn, h1⟩
theorem pckIs_le : ∀ {m m' : Nat} {S : Nat → Prop} {w : World} {cs : List Value} {p : Pck}, pckIs m S w cs p → m ≤ m' → pckIs m' S w cs p
  | 0, _, _, _, _, _, h, _ => h.elim
  | m + 1, 0, _, _, _, _, _, hle => absurd hle (by omega)
  | m + 1, m' + 1, S, w, cs, p, h, hle => by
    obtain ⟨a, c, rfl, h1, h2, h3⟩ := h
    refine ⟨a, c, rfl, h1, h2, fun hp => ?_⟩
    obtain ⟨b, o, rfl, hb, he⟩ := h3 hp
    refine ⟨b, o, rfl, hb, fun i x hx => ?_⟩
    obtain ⟨cs, hc, hi⟩ := he i x hx
    exact ⟨cs, hc, pckIs_le hi (by omega)⟩
theorem open_pck : ∀ (fuel : Nat) {cs : List Value} {x : DataW H × List MemPlace}, DataW.trod enc Try.prog w base spare held fuel 102 cs = some x → ∃ p, (pckLay fuel).is All w cs p ∧ ∀ k, okPck k p := by
  intro fuel
  induction fuel using Nat.strongRecOn with
  | _ fuel ih =>
    intro cs x h
    have hl : cs.length = 3 := (cells_of Try.underlying102 h).trans (by kernel_rfl)
    obtain ⟨c0, c1, c2, rfl⟩ := len3 hl
    obtain ⟨n0, y0, _, h0⟩ := field1_fuel Try.underlying102 h 0 rfl rfl rfl (by kernel_rfl : Try.prog.cellsOf 9 = 1) (rfl : _ = some c0)
    obtain ⟨n1, y1, _, h1⟩ := field1_fuel Try.underlying102 h 1 rfl rfl rfl (by kernel_rfl : Try.prog.cellsOf 9 = 1) (rfl : _ = some c1)
    obtain ⟨n2, y2, hf2, h2⟩ := field1_fuel Try.underlying102 h 2 rfl rfl rfl (by kernel_rfl : Try.prog.cellsOf 35 = 1) (rfl : _ = some c2)
    obtain ⟨s0, e0, _, b0⟩ := DataW.trod_string Try.underlying9 h0
    obtain ⟨s1, e1, _, b1⟩ := DataW.trod_string Try.underlying9 h1
    obtain ⟨v, ps, e2, hs, b2⟩ := open_list_fuel (L := pckLay n2) (ok := fun p => ∀ k, okPck k p) Try.underlying35 (by kernel_rfl) (fun n cs' x' hn hx => by
      obtain ⟨p, hp, hk⟩ := ih n (by omega) hx
      exact ⟨p, pckIs_le hp (by omega), hk⟩) h2
    simp only [List.cons.injEq, and_true] at e0 e1 e2
    subst e0; subst e1; subst e2; subst hf2
    obtain ⟨a, c, rfl, h3, h4, h5⟩ := hs
    refine ⟨.mk s0 s1 ps, ⟨a, c, rfl, h3, h4, h5⟩, fun k => ?_⟩
    cases k with
    | zero => trivial
    | succ k => exact ⟨b0, b1, fun q hq => b2 q hq k⟩
end
def okOwn (f : Ownr) : Prop := okS f.type ∧ okS f.field
theorem opens_own : Opens ownLay okOwn 89 := fun {_ _ _ _ _ _ _ cs _} h => by
  have hl : cs.length = 3 := (cells_of Try.underlying89 h).trans (by kernel_rfl)
  obtain ⟨c0, c1, c2, rfl⟩ := len3 hl
  obtain ⟨n0, y0, h0⟩ := field1 Try.underlying89 h 0 rfl rfl rfl (by kernel_rfl : Try.prog.cellsOf 3 = 1) (rfl : _ = some c0)
  obtain ⟨n1, y1, h1⟩ := field1 Try.underlying89 h 1 rfl rfl rfl (by kernel_rfl : Try.prog.cellsOf 9 = 1) (rfl : _ = some c1)
  obtain ⟨n2, y2, h2⟩ := field1 Try.underlying89 h 2 rfl rfl rfl (by kernel_rfl : Try.prog.cellsOf 9 = 1) (rfl : _ = some c2)
  obtain ⟨k0, e0, _, _⟩ := DataW.trod_int Try.underlying3 h0
  obtain ⟨s1, e1, _, b1⟩ := DataW.trod_string Try.underlying9 h1
  obtain ⟨s2, e2, _, b2⟩ := DataW.trod_string Try.underlying9 h2
  simp only [List.cons.injEq, and_true] at e0 e1 e2
  subst e0; subst e1; subst e2
  exact ⟨⟨k0, s1, s2⟩, rfl, b1, b2⟩
def okPrt (p : Prt) : Prop := okTyp p.type ∧ (∀ y ∈ p.owners, okOwn y) ∧ ∀ y ∈ p.homes, okOwn y
theorem opens_prt : Opens prtLay okPrt 83 := fun {_ _ _ _ _ _ _ cs _} h => by
  have hl : cs.length = 4 := (cells_of Try.underlying83 h).trans (by kernel_rfl)
  obtain ⟨c0, c1, c2, c3, rfl⟩ := len4 hl
  obtain ⟨n0, y0, h0'⟩ := fieldN Try.underlying83 h 0 rfl rfl rfl (by rw [show Try.prog.cellsOf 80 = 2 by kernel_rfl]; rfl : (([c0, c1, c2, c3].drop 0).take (Try.prog.cellsOf 80)) = [c0, c1])
  obtain ⟨n2, y2, h2⟩ := field1 Try.underlying83 h 1 rfl rfl rfl (by kernel_rfl : Try.prog.cellsOf 81 = 1) (rfl : _ = some c2)
  obtain ⟨n3, y3, h3⟩ := field1 Try.underlying83 h 2 rfl rfl rfl (by kernel_rfl : Try.prog.cellsOf 81 = 1) (rfl : _ = some c3)
  obtain ⟨t, ⟨v, et, hs⟩, b0⟩ := opens_typ h0'
  obtain ⟨v2, o2, e2, hs2, b2⟩ := open_list Try.underlying81 (by kernel_rfl) opens_own h2
  obtain ⟨v3, o3, e3, hs3, b3⟩ := open_list Try.underlying81 (by kernel_rfl) opens_own h3
  simp only [List.cons.injEq, and_true] at et e2 e3
  obtain ⟨rfl, rfl⟩ := et
  subst e2; subst e3
  exact ⟨⟨t, o2, o3⟩, ⟨_, _, _, rfl, hs, hs2, hs3⟩, b0, b2, b3⟩
end Go.Proofs.Ytgckpmcdlciibab
