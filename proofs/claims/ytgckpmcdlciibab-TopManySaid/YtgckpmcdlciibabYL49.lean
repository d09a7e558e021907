/- One cell is written: what else lies in memory stays, for what that cell held is found nowhere else. -/
import Derived.Test.YtgckpmcdlciibabYL48
namespace Go.Proofs.Ytgckpmcdlciibab
open Go.RowKit
/-- the third cell of a value is written -/
structure Sto1 (vb vo : Nat) (kv u : Value) (w w' : World) : Prop where
  other : ∀ b o v, ¬ (b = vb ∧ o = vo + 2) → w.cell? ⟨b, o, none⟩ = some v → w'.cell? ⟨b, o, none⟩ = some v
  new : w'.cell? ⟨vb, vo + 2, none⟩ = some u
  c0 : w.cell? ⟨vb, vo, none⟩ = some (.string sUnder)
  c1 : w.cell? ⟨vb, vo + 1, none⟩ = some (.string sNil)
  c2 : w.cell? ⟨vb, vo + 2, none⟩ = some kv
  sl : ∃ a n c, kv = .slice a n c
section
variable {vb vo : Nat} {kv u : Value} {w w' : World} {S : Nat → Prop}
theorem Sto1.at (h : Sto1 vb vo kv u w w') {b o : Nat} {cs : List Value} (ha : At w b o cs) (hn : ∀ j v, cs[j]? = some v → b = vb → o + j = vo + 2 → False) : At w' b o cs := fun j v hj =>
  h.other _ _ _ (fun ⟨e1, e2⟩ => hn j v hj e1 e2) (ha j v hj)
/-- what a cell there holds -/
theorem Sto1.hit (h : Sto1 vb vo kv u w w') {b o j : Nat} {cs : List Value} {v : Value} (ha : At w b o cs) (hj : cs[j]? = some v) (e1 : b = vb) (e2 : o + j = vo + 2) : v = kv := by
  have h1 := ha j v hj
  rw [e1, e2, h.c2] at h1
  exact (Option.some.inj h1).symm
theorem Sto1.noStr (h : Sto1 vb vo kv u w w') (s : Str) : ¬ Value.string s = kv := fun e => by
  obtain ⟨a, n, c, e2⟩ := h.sl
  rw [e2] at e
  cases e
theorem Sto1.noInt (h : Sto1 vb vo kv u w w') (k : IntKind) (s : Int) : ¬ Value.int k s = kv := fun e => by
  obtain ⟨a, n, c, e2⟩ := h.sl
  rw [e2] at e
  cases e
theorem SliceOf.re {α : Type} {L : Lay α} {v : Value} {xs : List α} (h : SliceOf L S w v xs) (hf : ∀ x ∈ xs, ∀ b o cs, At w b o cs → L.is S w cs x → At w' b o cs ∧ L.is S w' cs x) : SliceOf L S w' v xs := by
  obtain ⟨a, c, rfl, h1, h2, h3⟩ := h
  refine ⟨a, c, rfl, h1, h2, fun hp => ?_⟩
  obtain ⟨b, o, rfl, hb, he⟩ := h3 hp
  refine ⟨b, o, rfl, hb, fun i x hx => ?_⟩
  obtain ⟨cs, hc, hi⟩ := he i x hx
  exact ⟨cs, hf x (List.mem_of_getElem? hx) _ _ cs hc hi⟩
theorem Sto1.str (h : Sto1 vb vo kv u w w') {v : Value} {xs : List Str} (hs : SliceOf strLay S w v xs) : SliceOf strLay S w' v xs := hs.re fun x _ b o cs ha hi => by
  have hi : cs = [.string x] := hi
  subst hi
  refine ⟨h.at ha fun j v hj e1 e2 => ?_, rfl⟩
  have := h.hit ha hj e1 e2
  match j, hj with
  | 0, hj => simp at hj; subst hj; exact h.noStr _ this
  | j + 1, hj => simp at hj
theorem Sto1.fld (h : Sto1 vb vo kv u w w') {v : Value} {xs : List Fld} (hs : SliceOf fldLay S w v xs) : SliceOf fldLay S w' v xs := hs.re fun x _ b o cs ha hi => by
  have hi : cs = [.string x.name, .int .i64 x.kind, .string x.type] := hi
  subst hi
  refine ⟨h.at ha fun j v hj e1 e2 => ?_, rfl⟩
  have := h.hit ha hj e1 e2
  match j, hj with
  | 0, hj => simp at hj; subst hj; exact h.noStr _ this
  | 1, hj => simp at hj; subst hj; exact h.noInt _ _ this
  | 2, hj => simp at hj; subst hj; exact h.noStr _ this
  | j + 3, hj => simp at hj
theorem Sto1.chg (h : Sto1 vb vo kv u w w') {v : Value} {xs : List Chg} (hs : SliceOf chgLay S w v xs) : SliceOf chgLay S w' v xs := hs.re fun x _ b o cs ha hi => by
  have hi : cs = [.int .i64 x.kind, .string x.type, .string x.field, .string x.to] := hi
  subst hi
  refine ⟨h.at ha fun j v hj e1 e2 => ?_, rfl⟩
  have := h.hit ha hj e1 e2
  match j, hj with
  | 0, hj => simp at hj; subst hj; exact h.noInt _ _ this
  | 1, hj => simp at hj; subst hj; exact h.noStr _ this
  | 2, hj => simp at hj; subst hj; exact h.noStr _ this
  | 3, hj => simp at hj; subst hj; exact h.noStr _ this
  | j + 4, hj => simp at hj
theorem Sto1.typ (h : Sto1 vb vo kv u w w') {v : Value} {xs : List Typ} (hs : SliceOf typLay S w v xs) (hn : ∀ t ∈ xs, t.name ≠ sNil) : SliceOf typLay S w' v xs := hs.re fun x hx b o cs ha hi => by
  obtain ⟨fv, rfl, hf⟩ := hi
  refine ⟨h.at ha fun j v hj e1 e2 => ?_, fv, rfl, h.fld hf⟩
  have hh := h.hit ha hj e1 e2
  match j, hj with
  | 0, hj => simp at hj; subst hj; exact h.noStr _ hh
  | 1, hj =>
    have h0 := ha 0 _ rfl
    have e3 : o + 0 = vo + 1 := by omega
    rw [e1, e3, h.c1] at h0
    simp only [Option.some.injEq, Value.string.injEq] at h0
    exact hn x hx h0.symm
  | j + 2, hj => simp at hj
/-- what a list of strings holds is one alone -/
theorem SliceOf.uniq {S' : Nat → Prop} {v : Value} {xs ys : List Str} (h : SliceOf strLay S w v xs) (h' : SliceOf strLay S' w v ys) : xs = ys := by
  obtain ⟨a, c, rfl, _, _, h3⟩ := h
  obtain ⟨a', c', e, _, _, h3'⟩ := h'
  simp only [Value.slice.injEq] at e
  obtain ⟨rfl, hl, rfl⟩ := e
  apply List.ext_getElem hl
  intro i h1 h2
  obtain ⟨b, o, rfl, _, he⟩ := h3 (by omega)
  obtain ⟨b', o', e, _, he'⟩ := h3' (by omega)
  simp only [Option.some.injEq, Addr.mk.injEq, and_true] at e
  obtain ⟨rfl, rfl⟩ := e
  obtain ⟨cs, hc, hi⟩ := he i xs[i] (List.getElem?_eq_getElem h1)
  obtain ⟨cs', hc', hi'⟩ := he' i ys[i] (List.getElem?_eq_getElem h2)
  have hi : cs = [.string xs[i]] := hi
  have hi' : cs' = [.string ys[i]] := hi'
  subst hi; subst hi'
  have q1 := hc 0 _ rfl
  have q2 := hc' 0 _ rfl
  rw [q1] at q2
  simpa using q2
theorem Sto1.val (h : Sto1 vb vo kv u w w') {S' : Nat → Prop} {k0 : List Str} (hk : SliceOf strLay S' w kv k0) {v : Value} {xs : List VVal} (hs : SliceOf valLay S w v xs) (hn : ∀ x ∈ xs, x.field = sUnder → x.keys ≠ k0) : SliceOf valLay S w' v xs := hs.re fun x hx b o cs ha hi => by
  obtain ⟨fv, rfl, hf⟩ := hi
  refine ⟨h.at ha fun j v hj e1 e2 => ?_, fv, rfl, h.str hf⟩
  have hh := h.hit ha hj e1 e2
  match j, hj with
  | 0, hj => simp at hj; subst hj; exact h.noStr _ hh
  | 1, hj => simp at hj; subst hj; exact h.noStr _ hh
  | 2, hj =>
    simp at hj
    subst hj
    have h0 := ha 0 _ rfl
    have e3 : o + 0 = vo := by omega
    rw [e1, e3, h.c0] at h0
    simp only [Option.some.injEq, Value.string.injEq] at h0
    subst hh
    exact hn x hx h0.symm (hf.uniq hk)
  | j + 3, hj => simp at hj
theorem Sto1.thgIs (h : Sto1 vb vo kv u w w') {x : Thg} {b o : Nat} {fv : Value} (ha : At w b o [.string x.type, .string x.key, fv]) (hn : x.type ≠ sUnder) : At w' b o [.string x.type, .string x.key, fv] := h.at ha fun j v hj e1 e2 => by
  have hh := h.hit ha hj e1 e2
  match j, hj with
  | 0, hj => simp at hj; subst hj; exact h.noStr _ hh
  | 1, hj => simp at hj; subst hj; exact h.noStr _ hh
  | 2, hj =>
    have h0 := ha 0 _ rfl
    have e3 : o + 0 = vo := by omega
    rw [e1, e3, h.c0] at h0
    simp only [Option.some.injEq, Value.string.injEq] at h0
    exact hn h0.symm
  | j + 3, hj => simp at hj
theorem Sto1.thg (h : Sto1 vb vo kv u w w') {S' : Nat → Prop} {k0 : List Str} (hk : SliceOf strLay S' w kv k0) {v : Value} {xs : List Thg} (hs : SliceOf thgLay S w v xs) (hn : ∀ x ∈ xs, x.type ≠ sUnder ∧ ∀ y ∈ x.vals, y.field = sUnder → y.keys ≠ k0) : SliceOf thgLay S w' v xs := hs.re fun x hx b o cs ha hi => by
  obtain ⟨fv, rfl, hf⟩ := hi
  exact ⟨h.thgIs ha (hn x hx).1, fv, rfl, h.val hk hf (hn x hx).2⟩
/-- the first thing of a list has the new keys -/
theorem Sto1.first (h : Sto1 vb vo kv u w w') {S' : Nat → Prop} {k0 ks : List Str} (hk : SliceOf strLay S' w kv k0) (hu : SliceOf strLay S w' u ks) {tb to n c vc : Nat} {x0 : Thg} {xs : List Thg} (hs : SliceOf thgLay S w (.slice (some ⟨tb, to, none⟩) n c) (x0 :: xs)) (hat : At w tb to [.string x0.type, .string x0.key, .slice (some ⟨vb, vo, none⟩) 1 vc]) (hvb : S vb) (hv1 : 1 ≤ vc) (hvm : vc ≤ maxLen)
    (h0 : x0.type ≠ sUnder) (hn : ∀ x ∈ xs, x.type ≠ sUnder ∧ ∀ y ∈ x.vals, y.field = sUnder → y.keys ≠ k0) : SliceOf thgLay S w' (.slice (some ⟨tb, to, none⟩) n c) (⟨x0.type, x0.key, [⟨sUnder, sNil, ks⟩]⟩ :: xs) := by
  obtain ⟨a, c', e, h1, h2, h3⟩ := hs
  simp only [Value.slice.injEq] at e
  obtain ⟨rfl, hl, rfl⟩ := e
  obtain ⟨b, o, e, hb, he⟩ := h3 (by simp)
  simp only [Option.some.injEq, Addr.mk.injEq, and_true] at e
  obtain ⟨rfl, rfl⟩ := e
  refine ⟨_, _, by rw [hl]; rfl, h1, h2, fun _ => ⟨tb, to, rfl, hb, fun i x hx => ?_⟩⟩
  cases i with
  | zero =>
    simp only [List.getElem?_cons_zero, Option.some.injEq] at hx
    subst hx
    have hat' : At w tb (to + 0 * thgLay.k) [.string x0.type, .string x0.key, .slice (some ⟨vb, vo, none⟩) 1 vc] := by rw [Nat.zero_mul]; exact hat
    refine ⟨_, h.thgIs hat' h0, _, rfl, ⟨_, _, rfl, hv1, hvm, fun _ => ⟨vb, vo, rfl, hvb, fun i y hy => ?_⟩⟩⟩
    cases i with
    | zero =>
      simp only [List.getElem?_cons_zero, Option.some.injEq] at hy
      subst hy
      refine ⟨[.string sUnder, .string sNil, u], fun j v hj => ?_, u, rfl, hu⟩
      rw [Nat.zero_mul, Nat.add_zero]
      match j, hj with
      | 0, hj => simp at hj; subst hj; exact h.other _ _ _ (fun e => by have := e.2; omega) h.c0
      | 1, hj => simp at hj; subst hj; exact h.other _ _ _ (fun e => by have := e.2; omega) h.c1
      | 2, hj => simp at hj; subst hj; exact h.new
      | j + 3, hj => simp at hj
    | succ i => simp at hy
  | succ i =>
    obtain ⟨cs, hc, fv, rfl, hf⟩ := he (i + 1) x (by simpa using hx)
    have hx' : x ∈ xs := List.mem_of_getElem? (by simpa using hx)
    exact ⟨_, h.thgIs hc (hn x hx').1, fv, rfl, h.val hk hf (hn x hx').2⟩
theorem sto1_of {t : TypeId} {cur : List Value} (hbt : But vb w w') (hb : Box w vb t cur) (hb' : Box w' vb t (cur.take (vo + 2) ++ [u] ++ cur.drop (vo + 2 + 1))) (hat : At w vb vo [.string sUnder, .string sNil, kv]) (hsl : ∃ a n c, kv = .slice a n c) : Sto1 vb vo kv u w w' := by
  have hcell : ∀ o, w.cell? ⟨vb, o, none⟩ = cur[o]? := fun o => by
    rw [cell_of_row _ _ _ cur.toArray t (0, 0) hb]
    simp
  have h2 := hat 2 _ rfl
  have hlt : vo + 2 < cur.length := by
    rw [hcell] at h2
    exact (List.getElem?_eq_some_iff.1 h2).1
  have hset : cur.take (vo + 2) ++ [u] ++ cur.drop (vo + 2 + 1) = cur.set (vo + 2) u := by
    rw [List.set_eq_take_append_cons_drop, if_pos hlt]
    simp
  rw [hset] at hb'
  have hcell' : ∀ o, w'.cell? ⟨vb, o, none⟩ = (cur.set (vo + 2) u)[o]? := fun o => by
    rw [cell_of_row _ _ _ (cur.set (vo + 2) u).toArray t (0, 0) hb']
    simp
  refine ⟨fun b o v hne hv => ?_, ?_, hat 0 _ rfl, hat 1 _ rfl, h2, hsl⟩
  · by_cases hbv : b = vb
    · subst hbv
      rw [hcell] at hv
      rw [hcell', List.getElem?_set_ne (fun e => hne ⟨rfl, e.symm⟩)]
      exact hv
    · rw [World.cell?_of_block (w := w) (hbt.block b (World.block_lt_of_cell? w _ hv) hbv)]
      exact hv
  · rw [hcell', List.getElem?_set_self hlt]
end
end Go.Proofs.Ytgckpmcdlciibab
