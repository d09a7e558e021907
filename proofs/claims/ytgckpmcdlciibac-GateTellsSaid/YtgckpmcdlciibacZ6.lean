/- Several texts in one: Chapter 2 as the document has it: what is seen, traced from own names. Plain law of ChangeTells: what is seen, traced from own names, is what is seen. -/
import Derived.Test.YtgckpmcdlciibacZP
import Derived.Test.YtgckpmcdlciibacZJ
import Derived.Test.YtgckpmcdlciibacZR
namespace Go.Proofs.Ytgckpmcdlciibac
structure RSn where
  own : List Str
  called : List Str
  fields : List (List Str)
/-- a change -/
def doR (s : RSn) (c : Chg) : Int × RSn :=
  if ¬ c.kind = 1 ∧ ¬ c.kind = 2 ∧ ¬ c.kind = 3 then (1, s) else
  if strAt s.called c.type < 0 then (5, s) else
  if c.kind = 1 then
    if named c.to = true ∧ ¬ 0 ≤ strAt s.called c.to then (0, { s with called := s.called.set (strAt s.called c.type).toNat c.to }) else (6, s)
  else match s.fields[(strAt s.called c.type).toNat]? with
    | none => (5, s)
    | some fs => if strAt fs c.field < 0 ∨ c.field = ⟨#[]⟩ then (5, s) else
      if c.kind = 3 then (0, { s with fields := s.fields.set (strAt s.called c.type).toNat (fs.set (strAt fs c.field).toNat ⟨#[]⟩) }) else
      if named c.to = true ∧ ¬ 0 ≤ strAt fs c.to then (0, { s with fields := s.fields.set (strAt s.called c.type).toNat (fs.set (strAt fs c.field).toNat c.to) }) else (6, s)
def initR (l : List Typ) : RSn := ⟨l.map (·.name), l.map (·.name), l.map fun t => t.fields.map (·.name)⟩
def doAllR : RSn → Nat → List Chg → RSn × Flt
  | s, _, [] => (s, ⟨0, 0⟩)
  | s, i, c :: cs => if (doR s c).1 = 0 then doAllR (doR s c).2 (i + 1) cs else (⟨[], [], []⟩, ⟨(doR s c).1, i⟩)
def seeR (l : List Typ) (cs : List Chg) : RSn × Flt :=
  if (wrongT l).err ≠ 0 then (⟨[], [], []⟩, wrongT l) else if 12 < cs.length then (⟨[], [], []⟩, ⟨4, 0⟩) else doAllR (initR l) 0 cs
/-- a field as it is seen, and its own name; none: it is hidden -/
def fldR (own called : List Str) (x : Fld × Str) : Option (Fld × Str) :=
  if x.2 = ⟨#[]⟩ then none else some (⟨x.2, x.1.kind, if x.1.kind = 1 then ⟨#[]⟩ else called.getD (strAt own x.1.type).toNat ⟨#[]⟩⟩, x.1.name)
def fldsR (s : RSn) (i : Nat) (t : Typ) : List (Fld × Str) := (t.fields.zip (s.fields.getD i [])).filterMap (fldR s.own s.called)
def snAt (s : RSn) (i : Nat) (t : Typ) : Sn := ⟨⟨s.called.getD i ⟨#[]⟩, (fldsR s i t).map (·.1)⟩, t.name, (fldsR s i t).map (·.2)⟩
/-- what is seen -/
def viewR (l : List Typ) (s : RSn) : List Sn := l.mapIdx (snAt s)

section
variable {α β : Type}
theorem fm_congr {f g : α → Option β} : ∀ {l : List α}, (∀ x ∈ l, f x = g x) → l.filterMap f = l.filterMap g
  | [], _ => rfl
  | x :: l, h => by
    rw [List.filterMap_cons, List.filterMap_cons, h x (List.mem_cons_self ..), fm_congr fun y hy => h y (List.mem_cons_of_mem _ hy)]
theorem fm_set {g : α → Option β} {xs : List α} {f : Nat} {x : α} {y : β} (hx : xs[f]? = some x) (hy : g x = some y) : ∃ j : Nat, (xs.filterMap g)[j]? = some y ∧
    (∀ x', g x' = none → (xs.set f x').filterMap g = (xs.filterMap g).eraseIdx j) ∧ (∀ x' y', g x' = some y' → (xs.set f x').filterMap g = (xs.filterMap g).set j y') := by
  obtain ⟨hlt, he⟩ := List.getElem?_eq_some_iff.1 hx
  have hxs : xs = xs.take f ++ x :: xs.drop (f + 1) := by
    rw [← he, List.getElem_cons_drop, List.take_append_drop]
  have hset : ∀ x', xs.set f x' = xs.take f ++ x' :: xs.drop (f + 1) := fun x' => List.set_eq_take_append_cons_drop .. |>.trans (by rw [if_pos hlt])
  refine ⟨((xs.take f).filterMap g).length, ?_, fun x' h => ?_, fun x' y' h => ?_⟩
  · conv => lhs; arg 1; rw [hxs]
    rw [List.filterMap_append, List.getElem?_append_right (Nat.le_refl _), Nat.sub_self, List.filterMap_cons, hy]
    rfl
  · rw [hset x']
    conv => rhs; arg 1; rw [hxs]
    rw [List.filterMap_append, List.filterMap_append, List.filterMap_cons, List.filterMap_cons, h, hy]
    simp only
    rw [List.eraseIdx_append_of_length_le (Nat.le_refl _), Nat.sub_self]
    rfl
  · rw [hset x']
    conv => rhs; arg 1; rw [hxs]
    rw [List.filterMap_append, List.filterMap_append, List.filterMap_cons, List.filterMap_cons, h, hy]
    simp only
    rw [List.set_append_right _ _ (Nat.le_refl _), Nat.sub_self]
    rfl
theorem zip_set_right {a : List α} {b : List β} {i : Nat} {x : α} {y : β} (hx : a[i]? = some x) : a.zip (b.set i y) = (a.zip b).set i (x, y) := by
  apply List.ext_getElem?
  intro j
  rw [List.getElem?_set]
  by_cases hij : i = j
  · subst hij
    have hal := (List.getElem?_eq_some_iff.1 hx).1
    by_cases hb : i < b.length
    · rw [if_pos rfl, if_pos (by simp; omega), List.getElem?_zip_eq_some (z := (x, y)) |>.2 ⟨hx, by simp [hb]⟩]
    · rw [if_pos rfl, if_neg (by simp; omega)]
      rw [List.getElem?_eq_none]
      simp; omega
  · rw [if_neg hij]
    simp only [List.zip, List.getElem?_zipWith, List.getElem?_set_ne hij]
end
theorem strAt_in {l : List Str} {s : Str} : 0 ≤ strAt l s ↔ s ∈ l := by
  have := find_mem (l := l) (g := id) (n := s)
  simpa [strAt] using this
theorem strAt_get {l : List Str} {s : Str} (h : 0 ≤ strAt l s) : ∃ i : Nat, strAt l s = (i : Int) ∧ l[i]? = some s := by
  obtain ⟨i, x, h1, h2, h3, _⟩ := firstIdx_lt h
  simp only [decide_eq_true_eq] at h3
  subst h3
  exact ⟨i, h1, h2⟩
theorem strAt_at {l : List Str} {k : Nat} {s : Str} (h : l.Nodup) (hk : l[k]? = some s) : strAt l s = (k : Int) := at_of_nodup (g := id) (by simpa using h) hk fun _ => rfl

/-- how what is seen is traced -/
structure Traced (l : List Typ) (s : RSn) : Prop where
  own : s.own = l.map (·.name)
  called : s.called.length = l.length
  flen : s.fields.length = l.length
  each : ∀ (i : Nat) t fs, l[i]? = some t → s.fields[i]? = some fs → fs.length = t.fields.length

section
variable {l : List Typ} {s : RSn}
theorem view_get (i : Nat) : (viewR l s)[i]? = (l[i]?).map (snAt s i) := by simp [viewR, List.getElem?_mapIdx]
theorem view_len : (viewR l s).length = l.length := by simp [viewR]
theorem view_called (h : Traced l s) : (viewR l s).map (·.type.name) = s.called := by
  apply List.ext_getElem?
  intro i
  rw [List.getElem?_map, view_get]
  by_cases hi : i < l.length
  · have h2 : i < s.called.length := by rw [h.called]; exact hi
    simp [hi, h2, snAt]
  · have h2 : ¬ i < s.called.length := by rw [h.called]; exact hi
    simp [hi, h2]
theorem view_find (h : Traced l s) (n : Str) : snF (viewR l s) n = strAt s.called n := by
  have := view_called h
  unfold snF strAt firstIdx
  rw [← this, List.findIdx?_map]
  rfl
theorem flds_names (i : Nat) (t : Typ) : (fldsR s i t).map (·.1.name) = ((t.fields.zip (s.fields.getD i [])).map (·.2)).filter fun n => decide (n ≠ ⟨#[]⟩) := by
  unfold fldsR
  generalize t.fields.zip (s.fields.getD i []) = zs
  induction zs with
  | nil => rfl
  | cons z zs ih =>
    rw [List.filterMap_cons, List.map_cons]
    by_cases hz : z.2 = ⟨#[]⟩
    · have : fldR s.own s.called z = none := by simp [fldR, hz]
      rw [this]
      simp only
      rw [ih, List.filter_cons_of_neg (by simp [hz])]
    · have : fldR s.own s.called z = some (⟨z.2, z.1.kind, if z.1.kind = 1 then ⟨#[]⟩ else s.called.getD (strAt s.own z.1.type).toNat ⟨#[]⟩⟩, z.1.name) := by simp [fldR, hz]
      rw [this]
      simp only [List.map_cons]
      rw [ih, List.filter_cons_of_pos (by simp [hz])]
theorem zip_right {t : Typ} {fs : List Str} (h : fs.length = t.fields.length) : (t.fields.zip fs).map (·.2) = fs := by
  rw [List.map_snd_zip]
  omega
theorem init_traced (l : List Typ) : Traced l (initR l) := ⟨rfl, by simp [initR], by simp [initR], fun i t fs ht hf => by
  simp only [initR, List.getElem?_map, ht, Option.map_some, Option.some.injEq] at hf
  subst hf
  simp⟩
theorem named_ne {n : Str} (h : named n = true) : n ≠ ⟨#[]⟩ := fun e => by subst e; exact absurd h (by decide)
theorem view_init (hr : Right l) : viewR l (initR l) = seeInit l := by
  apply List.ext_getElem?
  intro i
  rw [view_get, seeInit, List.getElem?_map]
  cases ht : l[i]? with
  | none => rfl
  | some t =>
    have htl : t ∈ l := List.mem_of_getElem? ht
    have hf : fldsR (initR l) i t = t.fields.map fun f => (f, f.name) := by
      unfold fldsR
      have e1 : (initR l).fields.getD i [] = t.fields.map (·.name) := by simp [initR, List.getD, ht]
      rw [e1]
      have hz : t.fields.zip (t.fields.map (·.name)) = t.fields.map fun f => (f, f.name) := by
        conv => lhs; arg 1; rw [← List.map_id t.fields]
        rw [← List.zip_map']
        rfl
      rw [hz, List.filterMap_map]
      have : ∀ f ∈ t.fields, (fldR (initR l).own (initR l).called ∘ fun f => (f, f.name)) f = some (f, f.name) := fun f hf => by
        obtain ⟨h1, h2, h3, h4, h5⟩ := (hr.fields t htl).each f hf
        simp only [Function.comp, fldR]
        rw [if_neg (named_ne h1)]
        congr 2
        by_cases hk : f.kind = 1
        · rw [if_pos hk, ← h4 hk]
        · rw [if_neg hk]
          obtain ⟨j, hj, hg⟩ := strAt_get (strAt_in.2 (h5 hk))
          have e2 : (initR l).own = l.map (·.name) := rfl
          have e3 : (initR l).called = l.map (·.name) := rfl
          rw [e2, e3, hj, Int.toNat_natCast, List.getD, hg]
          rfl
      rw [fm_congr this]
      clear this hz
      induction t.fields with
      | nil => rfl
      | cons a b ih => simp [ih]
    simp only [Option.map_some, Option.some.injEq, snAt, hf]
    have e4 : (initR l).called.getD i ⟨#[]⟩ = t.name := by simp [initR, List.getD, ht]
    rw [e4, List.map_map, List.map_map]
    simp [Function.comp_def]
end
end Go.Proofs.Ytgckpmcdlciibac

namespace Go.Proofs.Ytgckpmcdlciibac
section
variable {l : List Typ} {s : RSn}
theorem getD_at {α : Type} {a : List α} {i : Nat} {x d : α} (h : a[i]? = some x) : a.getD i d = x := by rw [List.getD, h]; rfl
theorem view_names (h : Traced l s) {k : Nat} {t : Typ} {fs : List Str} (ht : l[k]? = some t) (hf : s.fields[k]? = some fs) : (snAt s k t).type.fields.map (·.name) = fs.filter fun n => decide (n ≠ ⟨#[]⟩) := by
  have := flds_names (s := s) k t
  rw [getD_at hf, zip_right (h.each k t fs ht hf)] at this
  simp only [snAt, List.map_map]
  exact this
theorem find_seen (h : Traced l s) (_hr : Right ((viewR l s).map (·.type))) {k : Nat} {t : Typ} {fs : List Str} (ht : l[k]? = some t) (hf : s.fields[k]? = some fs) (n : Str) :
    (fieldF (snAt s k t).type.fields n < 0) ↔ (strAt fs n < 0 ∨ n = ⟨#[]⟩) := by
  have h1 : 0 ≤ fieldF (snAt s k t).type.fields n ↔ n ∈ (snAt s k t).type.fields.map (·.name) := find_mem
  have h2 := strAt_in (l := fs) (s := n)
  rw [view_names h ht hf, List.mem_filter, decide_eq_true_eq] at h1
  constructor
  · intro h3
    by_cases he : n = ⟨#[]⟩
    · exact .inr he
    · left
      by_cases h0 : 0 ≤ strAt fs n
      · have := h1.2 ⟨h2.1 h0, he⟩
        omega
      · omega
  · intro h3
    have : ¬ 0 ≤ fieldF (snAt s k t).type.fields n := fun h0 => by
      obtain ⟨hm, he⟩ := h1.1 h0
      rcases h3 with h3 | h3
      · have := h2.2 hm; omega
      · exact he h3
    have e1 : ∀ a : Int, ¬ 0 ≤ a → a < 0 := fun a h => by omega
    exact e1 _ this
/-- the fields of type k are others -/
theorem view_set (h : Traced l s) {k : Nat} {t : Typ} {fs : List Str} (ht : l[k]? = some t) (hf : s.fields[k]? = some fs) {g : Sn → Sn} {fs' : List Str} (hg : g (snAt s k t) = snAt { s with fields := s.fields.set k fs' } k t) (hl : fs'.length = fs.length) :
    (viewR l s).modify k g = viewR l { s with fields := s.fields.set k fs' } ∧ Traced l { s with fields := s.fields.set k fs' } := by
  constructor
  · apply List.ext_getElem?
    intro i
    rw [List.getElem?_modify, view_get, view_get]
    by_cases hik : k = i
    · subst hik
      rw [ht]
      simp [hg]
    · cases hi : l[i]? with
      | none => simp
      | some u =>
        simp only [Option.map_some, if_neg hik]
        have : (s.fields.set k fs').getD i [] = s.fields.getD i [] := by rw [List.getD, List.getElem?_set_ne hik, List.getD]
        simp only [snAt, fldsR, this]
        rfl
  · refine ⟨h.own, h.called, by simp [h.flen], fun i u us hu hus => ?_⟩
    by_cases hik : k = i
    · subst hik
      have hlt := (List.getElem?_eq_some_iff.1 hf).1
      simp only [List.getElem?_set_self hlt, Option.some.injEq] at hus
      subst hus
      rw [ht] at hu
      cases hu
      rw [hl]
      exact h.each k t fs ht hf
    · simp only [List.getElem?_set_ne hik] at hus
      exact h.each i u us hu hus
theorem reF_view {frm to : Str} (hr : Right l) (h : Traced l s) (hn : s.called.Nodup) {k : Nat} (hk : s.called[k]? = some frm) {t : Typ} (ht : t ∈ l) {f : Fld} (hf : f ∈ t.fields) {n : Str} :
    (fldR s.own s.called (f, n)).map (fun x => (reF frm to x.1, x.2)) = fldR s.own (s.called.set k to) (f, n) := by
  unfold fldR
  simp only
  by_cases he : n = ⟨#[]⟩
  · rw [if_pos he, if_pos he]; rfl
  rw [if_neg he, if_neg he]
  simp only [Option.map_some, Option.some.injEq, Prod.mk.injEq, and_true]
  by_cases h1 : f.kind = 1
  · simp [reF, h1]
  · obtain ⟨_, _, _, _, h5⟩ := (hr.fields t ht).each f hf
    obtain ⟨j, hj, hg⟩ := strAt_get (strAt_in.2 (h5 h1))
    rw [h.own, hj]
    simp only [Int.toNat_natCast, if_neg h1]
    have hjl := (List.getElem?_eq_some_iff.1 hg).1
    rw [List.length_map] at hjl
    have hjc : j < s.called.length := by rw [h.called]; exact hjl
    have hcj : s.called[j]? = some s.called[j] := List.getElem?_eq_getElem hjc
    by_cases hjk : k = j
    · subst hjk
      have : (s.called.set k to).getD k ⟨#[]⟩ = to := by rw [List.getD, List.getElem?_set_self hjc]; rfl
      rw [this, getD_at hk]
      simp [reF, h1]
    · have : (s.called.set k to).getD j ⟨#[]⟩ = s.called.getD j ⟨#[]⟩ := by rw [List.getD, List.getElem?_set_ne hjk, List.getD]
      rw [this, getD_at hcj]
      have hne : s.called[j] ≠ frm := fun e => hjk (by
        have a1 := strAt_at hn hcj
        have a2 := strAt_at hn hk
        rw [e] at a1
        omega)
      simp [reF, hne]
theorem view_call {to : Str} (hr : Right l) (h : Traced l s) (hn : s.called.Nodup) {k : Nat} {frm : Str} (hk : s.called[k]? = some frm) :
    callV (viewR l s) k to = viewR l { s with called := s.called.set k to } ∧ Traced l { s with called := s.called.set k to } := by
  refine ⟨?_, ⟨h.own, by simp [h.called], h.flen, h.each⟩⟩
  have hkl := (List.getElem?_eq_some_iff.1 hk).1
  rw [h.called] at hkl
  have htk : l[k]? = some l[k] := List.getElem?_eq_getElem hkl
  have hvk : (viewR l s)[k]? = some (snAt s k l[k]) := by rw [view_get, htk]; rfl
  have hnm : (snAt s k l[k]).type.name = frm := by simp only [snAt]; exact getD_at hk
  unfold callV
  rw [hvk]
  simp only [hnm]
  apply List.ext_getElem?
  intro i
  rw [List.getElem?_map, view_get]
  by_cases hi : i < l.length
  rotate_left
  · have h1 : l[i]? = none := List.getElem?_eq_none (by omega)
    rw [h1, List.getElem?_set]
    have h2 : (viewR l s)[i]? = none := by rw [view_get, h1]; rfl
    by_cases hik : k = i
    · omega
    · rw [if_neg hik, h2]; rfl
  have hti : l[i]? = some l[i] := List.getElem?_eq_getElem hi
  have hmi : l[i] ∈ l := List.getElem_mem hi
  have hfl : (fldsR s i l[i]).map (fun x => (reF frm to x.1, x.2)) = fldsR { s with called := s.called.set k to } i l[i] := by
    unfold fldsR
    simp only
    rw [List.map_filterMap]
    exact fm_congr fun z hz => reF_view hr h hn hk hmi (List.of_mem_zip hz).1
  have hfl1 : ((fldsR s i l[i]).map (·.1)).map (reF frm to) = (fldsR { s with called := s.called.set k to } i l[i]).map (·.1) := by rw [← hfl]; simp [Function.comp_def]
  have hfl2 : (fldsR s i l[i]).map (·.2) = (fldsR { s with called := s.called.set k to } i l[i]).map (·.2) := by rw [← hfl]; simp [Function.comp_def]
  rw [hti]
  simp only [Option.map_some]
  by_cases hik : k = i
  · subst hik
    rw [List.getElem?_set_self (by rw [view_len]; exact hkl)]
    simp only [Option.map_some, Option.some.injEq, reS, nameS, snAt]
    have : (s.called.set k to).getD k ⟨#[]⟩ = to := by rw [List.getD, List.getElem?_set_self (by rw [h.called]; exact hkl)]; rfl
    rw [this, ← hfl1, ← hfl2]
  · have hvi : (viewR l s)[i]? = some (snAt s i l[i]) := by rw [view_get, hti]; rfl
    rw [List.getElem?_set_ne hik, hvi]
    simp only [Option.map_some, Option.some.injEq, reS, snAt]
    have : (s.called.set k to).getD i ⟨#[]⟩ = s.called.getD i ⟨#[]⟩ := by rw [List.getD, List.getElem?_set_ne hik, List.getD]
    rw [this, ← hfl1, ← hfl2]
theorem fldR_at {own called : List Str} {f : Fld} {n : Str} (hn : n ≠ ⟨#[]⟩) : fldR own called (f, n) = some (⟨n, f.kind, if f.kind = 1 then ⟨#[]⟩ else called.getD (strAt own f.type).toNat ⟨#[]⟩⟩, f.name) := by simp [fldR, hn]
theorem do_traced {c : Chg} (hr : Right l) (h : Traced l s) (hv : Right ((viewR l s).map (·.type))) : (doV (viewR l s) c).1 = (doR s c).1 ∧ ((doR s c).1 = 0 → (doV (viewR l s) c).2 = viewR l (doR s c).2 ∧ Traced l (doR s c).2) := by
  have hnd : s.called.Nodup := by
    have := hv.nodup
    rw [List.map_map] at this
    rw [← view_called h]
    exact this
  unfold doV doR
  rw [view_find h, view_find h]
  by_cases h1 : c.kind < 1 ∨ 3 < c.kind
  · rw [if_pos h1, if_pos (by omega)]
    exact ⟨rfl, fun h => by cases h⟩
  rw [if_neg h1, if_neg (by omega : ¬ (¬ c.kind = 1 ∧ ¬ c.kind = 2 ∧ ¬ c.kind = 3))]
  by_cases h2 : strAt s.called c.type < 0
  · rw [if_pos h2, if_pos h2]
    exact ⟨rfl, fun h => by cases h⟩
  rw [if_neg h2, if_neg h2]
  obtain ⟨k, hk, hck⟩ := strAt_get (l := s.called) (s := c.type) (by omega)
  rw [hk]
  simp only [Int.toNat_natCast]
  by_cases h3 : c.kind = 1
  · rw [if_pos h3, if_pos h3]
    by_cases h4 : named c.to = true ∧ ¬ 0 ≤ strAt s.called c.to
    · rw [if_pos h4, if_pos h4]
      exact ⟨rfl, fun _ => view_call hr h hnd hck⟩
    · rw [if_neg h4, if_neg h4]
      exact ⟨rfl, fun h => by cases h⟩
  rw [if_neg h3, if_neg h3]
  have hkl := (List.getElem?_eq_some_iff.1 hck).1
  have hkl2 := hkl
  rw [h.called] at hkl
  have htk : l[k]? = some l[k] := List.getElem?_eq_getElem hkl
  obtain ⟨fs, hfs⟩ : ∃ fs, s.fields[k]? = some fs := ⟨_, List.getElem?_eq_getElem (by rw [h.flen]; exact hkl)⟩
  have hvk : (viewR l s)[k]? = some (snAt s k l[k]) := by rw [view_get, htk]; rfl
  rw [hvk, hfs]
  simp only
  have hfind := find_seen h hv htk hfs
  have hlen := h.each k l[k] fs htk hfs
  by_cases h5 : strAt fs c.field < 0 ∨ c.field = ⟨#[]⟩
  · rw [if_pos h5, if_pos ((hfind c.field).2 h5)]
    exact ⟨rfl, fun h => by cases h⟩
  rw [if_neg h5, if_neg fun h0 => h5 ((hfind c.field).1 h0)]
  obtain ⟨h50, h51⟩ := not_or.1 h5
  obtain ⟨f, hff, hfc⟩ := strAt_get (l := fs) (s := c.field) (by omega)
  rw [hff]
  simp only [Int.toNat_natCast]
  have hfl := (List.getElem?_eq_some_iff.1 hfc).1
  have hx : l[k].fields[f]? = some l[k].fields[f] := List.getElem?_eq_getElem (by omega)
  generalize htt : l[k].fields[f] = x at *
  have hz : (l[k].fields.zip (s.fields.getD k []))[f]? = some (x, c.field) := by
    rw [getD_at hfs]
    exact List.getElem?_zip_eq_some.2 ⟨hx, hfc⟩
  obtain ⟨j, hj, hj1, hj2⟩ := fm_set (g := fldR s.own s.called) hz (fldR_at h51)
  have hgetk : ∀ fs', (s.fields.set k fs').getD k [] = fs' := fun fs' => by rw [List.getD, List.getElem?_set_self (by rw [h.flen]; exact hkl)]; rfl
  -- where the field is seen
  have hname : fieldF (snAt s k l[k]).type.fields c.field = (j : Int) := by
    have hmem : (snAt s k l[k]).type ∈ (viewR l s).map (·.type) := List.mem_map.2 ⟨_, List.mem_of_getElem? hvk, rfl⟩
    have hnod := (hv.fields _ hmem).nodup
    refine (fieldF_at (t := ⟨c.field, x.kind, if x.kind = 1 then ⟨#[]⟩ else s.called.getD (strAt s.own x.type).toNat ⟨#[]⟩⟩) hnod ?_)
    simp only [snAt, fldsR, List.getElem?_map, hj, Option.map_some]
  rw [hname]
  simp only [Int.toNat_natCast]
  by_cases h6 : c.kind = 3
  · rw [if_pos h6, if_pos h6]
    refine ⟨rfl, fun _ => view_set h htk hfs ?_ (by simp)⟩
    have hz2 := hj1 (x, ⟨#[]⟩) (by simp [fldR])
    rw [← zip_set_right (a := l[k].fields) hx, getD_at hfs] at hz2
    simp only [hideS, snAt, fldsR, hgetk]
    rw [hz2, getD_at hfs, map_eraseIdx, map_eraseIdx]
  rw [if_neg h6, if_neg h6]
  have h7 : (named c.to = true ∧ ¬ 0 ≤ fieldF (snAt s k l[k]).type.fields c.to) ↔ (named c.to = true ∧ ¬ 0 ≤ strAt fs c.to) := by
    refine and_congr_right fun hn => ?_
    have := hfind c.to
    have hne := named_ne hn
    simp only [hne, or_false] at this
    omega
  by_cases h8 : named c.to = true ∧ ¬ 0 ≤ strAt fs c.to
  · rw [if_pos h8, if_pos (h7.2 h8)]
    refine ⟨rfl, fun _ => view_set h htk hfs ?_ (by simp)⟩
    have hz2 := hj2 (x, c.to) _ (fldR_at (named_ne h8.1))
    rw [← zip_set_right (a := l[k].fields) hx, getD_at hfs] at hz2
    simp only [fieldS, snAt, fldsR, hgetk]
    rw [hz2, getD_at hfs, List.map_set, List.map_set]
    have hja : ((List.filterMap (fldR s.own s.called) (l[k].fields.zip fs)).map (·.1))[j]? = some ⟨c.field, x.kind, if x.kind = 1 then ⟨#[]⟩ else s.called.getD (strAt s.own x.type).toNat ⟨#[]⟩⟩ := by
      rw [getD_at hfs] at hj
      rw [List.getElem?_map, hj]; rfl
    have hjb : ((List.filterMap (fldR s.own s.called) (l[k].fields.zip fs)).map (·.2))[j]? = some x.name := by
      rw [getD_at hfs] at hj
      rw [List.getElem?_map, hj]; rfl
    congr 2
    · rw [modify_set hja]
    · exact (List.ext_getElem? fun i => by
        rw [List.getElem?_set]
        by_cases hji : j = i
        · subst hji
          have := (List.getElem?_eq_some_iff.1 hjb).1
          rw [if_pos rfl, if_pos this, hjb]
        · rw [if_neg hji]).symm
  · rw [if_neg h8, if_neg fun h0 => h8 (h7.1 h0)]
    exact ⟨rfl, fun h => by cases h⟩
theorem doAll_traced (hr : Right l) : ∀ {cs : List Chg} {s : RSn} {i : Nat}, Traced l s → Right ((viewR l s).map (·.type)) → (doAll (viewR l s) i cs).2 = (doAllR s i cs).2 ∧ ((doAllR s i cs).2.err = 0 → (doAll (viewR l s) i cs).1 = viewR l (doAllR s i cs).1 ∧ Traced l (doAllR s i cs).1)
  | [], s, i, h, hv => ⟨rfl, fun _ => ⟨rfl, h⟩⟩
  | c :: cs, s, i, h, hv => by
    obtain ⟨h1, h2⟩ := do_traced (c := c) hr h hv
    unfold doAll doAllR
    rw [h1]
    by_cases h0 : (doR s c).1 = 0
    · rw [if_pos h0, if_pos h0, (h2 h0).1]
      refine doAll_traced hr (h2 h0).2 ?_
      rw [← (h2 h0).1]
      exact do_right hv (by rw [h1]; exact h0)
    · rw [if_neg h0, if_neg h0]
      exact ⟨rfl, fun h3 => absurd h3 h0⟩
end
/-- what is seen, traced from own names, is what is seen -/
theorem see_traced (l : List Typ) (cs : List Chg) : (seeM l cs).2 = (seeR l cs).2 ∧ ((seeR l cs).2.err = 0 → (seeM l cs).1 = viewR l (seeR l cs).1 ∧ Traced l (seeR l cs).1 ∧ Right l) := by
  unfold seeM seeR
  by_cases h1 : (wrongT l).err ≠ 0
  · rw [if_pos h1, if_pos h1]
    exact ⟨rfl, fun h => absurd h h1⟩
  rw [if_neg h1, if_neg h1]
  by_cases h2 : 12 < cs.length
  · rw [if_pos h2, if_pos h2]
    exact ⟨rfl, fun h => by cases h⟩
  rw [if_neg h2, if_neg h2]
  have hr := right_iff.1 (Decidable.of_not_not h1)
  have hi := view_init hr
  rw [← hi]
  have hv : Right ((viewR l (initR l)).map (·.type)) := by rw [hi, seeInit_types]; exact hr
  obtain ⟨h3, h4⟩ := doAll_traced (cs := cs) (i := 0) hr (init_traced l) hv
  exact ⟨h3, fun h => ⟨(h4 h).1, (h4 h).2, hr⟩⟩
end Go.Proofs.Ytgckpmcdlciibac
