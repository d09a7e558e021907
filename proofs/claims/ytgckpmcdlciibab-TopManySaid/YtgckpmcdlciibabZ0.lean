/- Several texts in one: What is got of things, in memory: a map of keys, for each a row of one's own. Contracts of chapter 7: one pick, of all things at once. -/
import Derived.Test.YtgckpmcdlciibabZQ
import Derived.Test.YtgckpmcdlciibabZO
import Derived.Test.YtgckpmcdlciibabZW
import Derived.Test.YtgckpmcdlciibabZK
import Derived.Test.YtgckpmcdlciibabZX
namespace Go.Proofs.Ytgckpmcdlciibab
open Go.RowKit
theorem smallG_nil : ∀ m, smallG m []
  | 0 => trivial
  | _ + 1 => ⟨by simp, fun g hg => by simp at hg⟩
theorem smallG_thing {l : List Svc} (h : (allM l).2.err = 0) : ∀ (m : Nat) (p : Prt) (k : Str) (picks : List Pck), p ∈ (allM l).1 → goesM m (allM l).1 p.type.name picks = 0 → okSmall m picks → lvl m picks → smallG (m + 1) (thingS (semOf l (allM l).1) picks p.type.name k)
  | 0, p, k, picks, _, _, _, hl => by
    have hl : picks = [] := hl
    subst hl
    simp only [thingS]
    exact smallG_nil _
  | m + 1, p, k, picks, hp, hg, hs, hl => by
    obtain ⟨h1, h2⟩ := thing_small h (m + 1) p k picks hp hg hs hl
    refine ⟨h1, fun g hgm => ?_⟩
    have := h2 g hgm
    obtain ⟨a, b, c, d, sb, ss⟩ := g
    obtain ⟨h3, h4, h5⟩ := this
    refine ⟨?_, h4, fun s hs => ?_⟩
    · show smallG (m + 1) sb
      rcases h3 with rfl | ⟨q, sub, k', m', hm, h6, h7, h8, h9, rfl⟩
      · exact smallG_nil _
      · have hm : m = m' := by omega
        subst hm
        exact smallG_thing h m q k' sub h6 h7 h8 h9
    · obtain ⟨q, sub, k', m', hm, h6, h7, h8, h9, rfl⟩ := h5 s hs
      have hm : m = m' := by omega
      subst hm
      exact smallG_thing h m q k' sub h6 h7 h8 h9
theorem Own.keep' {α : Type} {L : Lay α} {el : TypeId} {B : Nat} {S S' : Nat → Prop} {w w' : World} {v : Value} {xs : List α} (h : Own L el B S w v xs) (hk : Keep S' w w') (hS : ∀ b, S b → b < w.heap.size → some b ≠ v.ownBlock → S' b) (hv : ∀ g, v.ownBlock = some g → S' g) : Own L el B S w' v xs := by
  obtain ⟨css, ho, hl, hi⟩ := h
  refine ⟨css, ⟨ho.1, ?_⟩, hl, fun i cs x h1 h2 => ?_⟩
  · rcases ho.2 with hn | ⟨g, cap, cur, rfl, hb, hg, hr⟩
    · exact .inl hn
    · exact .inr ⟨g, cap, cur, rfl, hb, (hk g (hv g rfl) (Array.getElem?_eq_some_iff.1 hg).1).trans hg, hr⟩
  · exact L.mono (L.keep (L.old (hi i cs x h1 h2)) fun b hb hlt => hk b (hS b hb.1.1 hb.2 hb.1.2) hlt) fun b hb => hb.1
/-- rows of things that are read only -/
structure RowsR (Fr : Nat → Prop) (w : World) (b9 : Nat) (keys : List Str) (th : Str → Bool) (f : Str → Str → Option VVal) : Prop where
  ex : ∃ bs : Nat → Nat × Nat, Fr b9 ∧ MapAt w b9 ((List.range keys.length).map fun i => (keys.getD i ⟨#[]⟩, Value.pointer (some ⟨(bs i).1, 0, none⟩))) ∧ ∀ (i : Nat) k, keys[i]? = some k → Fr (bs i).1 ∧ Fr (bs i).2 ∧ RowAt Fr w (bs i) (th k) (f k)
theorem RowsR.keep {Fr : Nat → Prop} {w w' : World} {b9 : Nat} {keys : List Str} {th : Str → Bool} {f : Str → Str → Option VVal} (h : RowsR Fr w b9 keys th f) (hk : Keep Fr w w') : RowsR Fr w' b9 keys th f := by
  obtain ⟨bs, h1, h2, h3⟩ := h.ex
  exact ⟨bs, h1, h2.keep hk h1, fun i k hi => ⟨(h3 i k hi).1, (h3 i k hi).2.1, (h3 i k hi).2.2.box.keep hk (h3 i k hi).1, (h3 i k hi).2.2.vals.keep hk (h3 i k hi).2.1 fun b hb _ => hb⟩⟩
theorem RowsR.up {Fr : Nat → Prop} {w w' : World} {b9 : Nat} {keys : List Str} {th : Str → Bool} {f : Str → Str → Option VVal} (h : RowsR Fr w b9 keys th f) (hu : Up w w') : RowsR Fr w' b9 keys th f := h.keep (.of_up hu)
theorem RowsR.get {Fr : Nat → Prop} {w : World} {b9 : Nat} {keys : List Str} {th : Str → Bool} {f : Str → Str → Option VVal} (h : RowsR Fr w b9 keys th f) {i : Nat} {k : Str} (hk : keys[i]? = some k) : ∃ (ents : List (Str × Value)) (x : Nat × Nat), MapAt w b9 ents ∧ mget ents k = some (.pointer (some ⟨x.1, 0, none⟩)) ∧ RowAt Fr w x (th k) (f k) := by
  obtain ⟨bs, h1, h2, h3⟩ := h.ex
  refine ⟨_, bs i, h2, mget_mem h2.1 (List.mem_map.2 ⟨i, List.mem_range.2 (List.getElem?_eq_some_iff.1 hk).1, ?_⟩), (h3 i k hk).2.2⟩
  rw [getD_get hk]
/-- what a map of what is got holds, of keys that matter -/
def SubsAt (m : Nat) (Fs : Nat → Prop) (w : World) (sm : Option Nat) (want : Str → Prop) (val : Str → Option (List Gt)) : Prop := match sm with
  | none => ∀ x, ¬ want x
  | some b => Fs b ∧ ∃ ents : List (Str × Value), MapAt w b ents ∧ ∀ x, want x → match val x with
    | none => mget ents x = none
    | some g => ∃ v, mget ents x = some v ∧ SliceOf (gtLay m) Fs w v g
theorem SubsAt.keep {m : Nat} {Fs : Nat → Prop} {w w' : World} {sm : Option Nat} {want : Str → Prop} {val : Str → Option (List Gt)} (h : SubsAt m Fs w sm want val) (hk : Keep Fs w w') : SubsAt m Fs w' sm want val := by
  cases sm with
  | none => exact h
  | some b =>
    obtain ⟨h1, ents, h2, h3⟩ := h
    refine ⟨h1, ents, h2.keep hk h1, fun x hx => ?_⟩
    have := h3 x hx
    cases hv : val x with
    | none => rw [hv] at this; exact this
    | some g =>
      rw [hv] at this
      obtain ⟨v, h4, h5⟩ := this
      exact ⟨v, h4, h5.keep hk⟩
/-- the rows of what is got, that grow -/
structure OutAt (m B : Nat) (w : World) (ob : Nat) (ks : List Str) (vs : Nat → Value) (gs : Nat → List Gt) (lab : Nat → Option Nat) : Prop where
  base : ∀ b, b < B → lab b = none
  map : MapAt w ob ((List.range ks.length).map fun i => (ks.getD i ⟨#[]⟩, vs i))
  own : ∀ i, i < ks.length → Own (gtLay m) 33 B (fun b => B ≤ b ∧ lab b = none) w (vs i) (gs i) ∧ ∀ x, (vs i).ownBlock = some x → lab x = some (i + 2)
  lob : lab ob = some 0
section
variable {m B : Nat} {w w' : World} {ob : Nat} {ks : List Str} {vs : Nat → Value} {gs : Nat → List Gt} {lab lab' : Nat → Option Nat} {S : Nat → Prop}
theorem OutAt.keep (h : OutAt m B w ob ks vs gs lab) (hk : Keep S w w') (hS : ∀ b, B ≤ b → b < w.heap.size → lab b ≠ some 1 → S b) : OutAt m B w' ob ks vs gs lab := by
  have hob : B ≤ ob := by
    by_cases h1 : ob < B
    · have := h.base ob h1; rw [h.lob] at this; cases this
    · omega
  refine ⟨h.base, h.map.keep hk (hS ob hob h.map.lt (by rw [h.lob]; simp)), fun i hi => ⟨(h.own i hi).1.keep' hk (fun b hb hlt _ => hS b hb.1 hlt (by rw [hb.2]; simp)) (fun g hg => hS g ((h.own i hi).1.lt g hg).1 ((h.own i hi).1.lt g hg).2 (by rw [(h.own i hi).2 g hg]; simp)), (h.own i hi).2⟩, h.lob⟩
theorem OutAt.up (h : OutAt m B w ob ks vs gs lab) (hu : Up w w') : OutAt m B w' ob ks vs gs lab := h.keep (S := fun _ => True) (.of_up hu) fun _ _ _ _ => trivial
theorem OutAt.obB (h : OutAt m B w ob ks vs gs lab) : B ≤ ob := by
  by_cases h1 : ob < B
  · have := h.base ob h1; rw [h.lob] at this; cases this
  · omega
/-- other labels on blocks that aren't there yet, or are nobody's -/
theorem OutAt.relab (h : OutAt m B w ob ks vs gs lab) (hb : ∀ b, b < B → lab' b = none) (hl : ∀ b, b < w.heap.size → lab' b = lab b) : OutAt m B w ob ks vs gs lab' :=
  ⟨hb, h.map, fun i hi => ⟨(h.own i hi).1.shift fun b hb hlt _ => ⟨hb.1, by rw [hl b hlt]; exact hb.2⟩, fun x hx => by rw [hl x ((h.own i hi).1.lt x hx).2]; exact (h.own i hi).2 x hx⟩, by rw [hl ob h.map.lt]; exact h.lob⟩
theorem OutAt.get (h : OutAt m B w ob ks vs gs lab) {i : Nat} {k : Str} (hk : ks[i]? = some k) : mget ((List.range ks.length).map fun i => (ks.getD i ⟨#[]⟩, vs i)) k = some (vs i) := by
  refine mget_mem h.map.1 (List.mem_map.2 ⟨i, List.mem_range.2 (List.getElem?_eq_some_iff.1 hk).1, ?_⟩)
  rw [getD_get hk]
theorem OutAt.none (_ : OutAt m B w ob ks vs gs lab) {k : Str} (hk : ¬ k ∈ ks) : mget ((List.range ks.length).map fun i => (ks.getD i ⟨#[]⟩, vs i)) k = none := mget_none fun x hx e => by
  obtain ⟨i, hi, rfl⟩ := List.mem_map.1 hx
  have hi := List.mem_range.1 hi
  refine hk ?_
  rw [← e, List.getD_eq_getElem?_getD, List.getElem?_eq_getElem hi]
  exact List.getElem_mem hi
/-- a row has grown -/
theorem OutAt.put (h : OutAt m B w ob ks vs gs lab) {i : Nat} {k : Str} (hk : ks[i]? = some k) {w1 w2 : World} {v' : Value} {g' : List Gt} (hg : w.grownBy w1 (vs i).ownBlock) (ho : Own (gtLay m) 33 B (fun b => B ≤ b ∧ lab b = Option.none) w1 v' g') (hv : ∀ x, v'.ownBlock = some x → (vs i).ownBlock = some x ∨ x = w.heap.size)
    (hbt : But ob w1 w2) (hm : MapAt w2 ob (mput ((List.range ks.length).map fun i => (ks.getD i ⟨#[]⟩, vs i)) k v')) (hB : B ≤ w.heap.size) :
    OutAt m B w2 ob ks (fun j => if j = i then v' else vs j) (fun j => if j = i then g' else gs j) (fun b => if v'.ownBlock = some b then some (i + 2) else lab b) := by
  have hi := (List.getElem?_eq_some_iff.1 hk).1
  have hold : ∀ b, b < w.heap.size → (if v'.ownBlock = some b then some (i + 2) else lab b) = lab b := fun b hb => by
    split
    · rename_i h1
      rcases hv b h1 with h2 | h2
      · exact ((h.own i hi).2 b h2).symm
      · omega
    · rfl
  have hobs := h.map.lt
  refine ⟨fun b hb => ?_, ?_, fun j hj => ?_, by rw [hold ob hobs]; exact h.lob⟩
  · rw [hold b (by omega)]; exact h.base b hb
  · have hnd := h.map.1
    have hget : ((List.range ks.length).map fun i => (ks.getD i ⟨#[]⟩, vs i))[i]? = some (k, vs i) := by
      rw [List.getElem?_map, List.getElem?_range hi]
      simp only [Option.map_some]
      rw [getD_get hk]
    rw [mput_old hnd hget] at hm
    have e : (List.range ks.length).map (fun j => (ks.getD j ⟨#[]⟩, if j = i then v' else vs j)) = ((List.range ks.length).map fun i => (ks.getD i ⟨#[]⟩, vs i)).set i (k, v') := by
      refine List.ext_getElem? fun a => ?_
      rw [List.getElem?_map]
      by_cases ha : i = a
      · subst ha
        rw [List.getElem?_set_self (by simpa using hi), List.getElem?_range hi]
        simp only [Option.map_some, if_true]
        rw [getD_get hk]
      · rw [List.getElem?_set_ne ha, List.getElem?_map]
        cases hr : (List.range ks.length)[a]? with
        | none => rfl
        | some c =>
          have : c = a := by
            have hc := (List.getElem?_eq_some_iff.1 hr)
            obtain ⟨h1, h2⟩ := hc
            simpa using h2.symm
          subst this
          simp only [Option.map_some]
          rw [if_neg (fun e => ha e.symm)]
    rw [e]
    exact hm
  · by_cases hji : j = i
    · subst hji
      simp only [if_true]
      refine ⟨((ho.shift (S' := fun b => B ≤ b ∧ (if v'.ownBlock = some b then some (j + 2) else lab b) = Option.none) fun b hb _ hne => ⟨hb.1, by rw [if_neg (fun e => hne e.symm)]; exact hb.2⟩)).keep' hbt.keep (fun b hb hlt hne e => ?_) (fun g hg e => ?_), fun x hx => by rw [if_pos hx]⟩
      · have h1 := hb.2
        rw [if_neg (fun e => hne e.symm), e, h.lob] at h1
        cases h1
      · rcases hv g hg with h1 | h1
        · have := (h.own j hi).2 g h1
          rw [e, h.lob] at this
          cases this
        · omega
    · simp only [if_neg hji]
      obtain ⟨h1, h2⟩ := h.own j hj
      have hne : ∀ x, (vs j).ownBlock = some x → (vs i).ownBlock ≠ some x := fun x hx hxi => by
        have e1 := h2 x hx
        rw [(h.own i hi).2 x hxi] at e1
        simp only [Option.some.injEq] at e1
        omega
      have hlt := h1.lt
      refine ⟨(((h1.shift (S' := fun b => (B ≤ b ∧ lab b = Option.none) ∧ b < w.heap.size) fun b hb hlt _ => ⟨hb, hlt⟩).keep' (Grown.keep hg) (fun b hb _ _ e => ?_) (fun g hg' e => hne g hg' e.symm)).keep' hbt.keep (fun b hb _ _ e => ?_) (fun g hg' e => ?_)).shift (fun b hb _ _ => ⟨hb.1.1, ?_⟩), fun x hx => by rw [hold x (hlt x hx).2]; exact h2 x hx⟩
      · have := (h.own i hi).2 b e.symm
        rw [hb.1.2] at this
        cases this
      · have h9 := hb.1.2
        rw [e, h.lob] at h9
        cases h9
      · have := h2 g hg'
        rw [e, h.lob] at this
        cases this
      · split
        · rename_i h3
          rcases hv b h3 with h4 | h4
          · have := (h.own i hi).2 b h4
            rw [hb.1.2] at this
            cases this
          · have := hb.2
            omega
        · exact hb.1.2
end
end Go.Proofs.Ytgckpmcdlciibab

namespace Go.Proofs.Ytgckpmcdlciibab
open Go.RowKit
def ThingsG (m : Nat) : Prop := ∀ {gb pb po d : Nat} {S S2 S3 Sk Sq : Nat → Prop} {lv pv fv ov hv kv keysv av0 : Value} {l : List Svc} {ps : List Prt} {p : Prt} {picks : List Pck} {asked : List Rq} {keys : List Str} {w0 : World} (w : World), InG S S2 pb po lv pv fv ov hv l ps p w0 → Up w0 w → SliceOf (pckLay m) S3 w0 kv picks → goesM m ps p.type.name picks = 0 → okSmall m picks → lvl m picks → lvl d picks → keys.length * 20 ^ d ≤ 25600000000 →
  Box w gb 172 [lv, pv, av0] → w0.heap.size ≤ gb → Own rqLay 52 w0.heap.size Sq w av0 asked → (∀ x, av0.ownBlock = some x → x ≠ gb) → ¬ Sq gb → (∀ b, w.heap.size ≤ b → Sq b) → asked.length + (asksM l ps p keys picks).length ≤ 1000 → SliceOf strLay Sk w keysv keys → (∀ b, Sk b → b ≠ gb ∧ some b ≠ av0.ownBlock) → keys.Nodup → keys ≠ [] →
  Calls Try.prog 85 #[.pointer (some ⟨gb, 0, none⟩), .pointer (some ⟨pb, po, none⟩), keysv, kv] w fun en w' => ∃ (ob : Nat) (av : Value), en = .returned (.map (some ob)) ∧ Els (fun b => b = gb ∨ some b = av0.ownBlock) w w' ∧ Box w' gb 172 [lv, pv, av] ∧ Own rqLay 52 w0.heap.size Sq w' av (asked ++ asksM l ps p keys picks) ∧ (∀ x, av.ownBlock = some x → av0.ownBlock = some x ∨ w.heap.size ≤ x) ∧
    SubsAt (m + 1) (fun b => w.heap.size ≤ b ∧ b < w'.heap.size ∧ some b ≠ av.ownBlock) w' (some ob) (fun k => k ∈ keys) (fun k => if thereM l p k = true then some (thingS (semOf l ps) picks p.type.name k) else none)
def PickG (m : Nat) : Prop := ∀ {gb pb po kb ko ob b9 B d j : Nat} {S S2 S3 Sk Tq Fr : Nat → Prop} {lv pv fv ov hv keysv av0 : Value} {l : List Svc} {ps : List Prt} {p : Prt} {q : Pck} {f : Fld} {cs : List Value} {asked : List Rq} {keys : List Str} {fm : Str → Str → Option VVal} {vs : Nat → Value} {gs : Nat → List Gt} {lab : Nat → Option Nat} {w0 : World} (w : World), InG S S2 pb po lv pv fv ov hv l ps p w0 → Up w0 w → At w0 kb ko cs → (pckLay (m + 1)).is S3 w0 cs q →
  fieldF p.type.fields q.field = (j : Int) → p.type.fields[j]? = some f → (f.kind = 1 ↔ q.picks = []) → (q.picks ≠ [] → goesM m ps f.type q.picks = 0) → okSmall m q.picks → lvl m q.picks → lvl d q.picks → keys.length * 20 ^ (d + 1) ≤ 25600000000 →
  Box w gb 172 [lv, pv, av0] → w0.heap.size ≤ gb → Own rqLay 52 w0.heap.size (fun b => Tq b ∧ lab b = none) w av0 asked → (∀ x, av0.ownBlock = some x → x ≠ gb) → ¬ Tq gb → (∀ b, B ≤ b → Tq b) → asked.length + (askP l ps q p keys).length ≤ 1000 → SliceOf strLay Sk w keysv keys → (∀ b, Sk b → b < B ∧ b ≠ gb ∧ some b ≠ av0.ownBlock) →
  RowsR Fr w b9 keys (thereM l p) fm → (∀ k ∈ keys, fm k q.field = valOf l p q.field k) → (∀ b, Fr b → b < w.heap.size ∧ b ≠ gb ∧ some b ≠ av0.ownBlock ∧ lab b = none) →
  OutAt (m + 2) B w ob (keys.filter (thereM l p)) vs gs lab → gb < B → B ≤ w.heap.size → (∀ x, av0.ownBlock = some x → x < B ∨ lab x = some 1) → (∀ b, w.heap.size ≤ b → lab b = none) → (∀ i, (gs i).length ≤ 60) → keys.Nodup →
  Calls Try.prog 122 #[.pointer (some ⟨gb, 0, none⟩), .pointer (some ⟨pb, po, none⟩), keysv, .pointer (some ⟨kb, ko, none⟩), .map (some b9), .map (some ob)] w fun en w' => ∃ (av : Value) (vs' : Nat → Value) (lab' : Nat → Option Nat), en = .returned (.tuple #[]) ∧ Els (fun b => b = gb ∨ some b = av0.ownBlock ∨ lab b ≠ none) w w' ∧ Box w' gb 172 [lv, pv, av] ∧ Own rqLay 52 w0.heap.size (fun b => Tq b ∧ lab' b = none) w' av (asked ++ askP l ps q p keys) ∧
    (∀ x, av.ownBlock = some x → av0.ownBlock = some x ∨ w.heap.size ≤ x) ∧ (∀ x, av.ownBlock = some x → x < B ∨ lab' x = some 1) ∧ OutAt (m + 2) B w' ob (keys.filter (thereM l p)) vs' (fun i => gs i ++ [pickS (semOf l ps) q p.type.name ((keys.filter (thereM l p)).getD i ⟨#[]⟩)]) lab' ∧ (∀ b, w'.heap.size ≤ b → lab' b = none) ∧ (∀ b, b < w.heap.size → lab' b = lab b)
theorem askP_eq (l : List Svc) (ps : List Prt) (q : Pck) (p : Prt) (keys : List Str) : askP l ps q p keys = match fldM p.type.fields q.field with
    | none => []
    | some f => if f.kind = 1 then [] else if nextM l p q.field keys = [] then [] else match partM ps f.type with
      | none => []
      | some t => asksM l ps t (nextM l p q.field keys) q.picks := by
  obtain ⟨a, fd, sub⟩ := q
  simp only [askP, Pck.field, Pck.picks]
  rfl
theorem filter_idx {α : Type} {l : List α} {g : α → Bool} {t : Nat} {x : α} (hx : l[t]? = some x) (hg : g x = true) : (l.filter g)[((l.take t).filter g).length]? = some x := by
  obtain ⟨hlt, rfl⟩ := List.getElem?_eq_some_iff.1 hx
  have e : l.filter g = (l.take t).filter g ++ (l.drop t).filter g := by rw [← List.filter_append, List.take_append_drop]
  rw [e, List.getElem?_append_right (Nat.le_refl _), Nat.sub_self, List.drop_eq_getElem_cons hlt, List.filter_cons, if_pos hg]
  rfl
def txtO (o : Option VVal) : Str := match o with
  | some v => v.text
  | none => ⟨#[]⟩
def keysO (o : Option VVal) : List Str := match o with
  | some v => v.keys
  | none => []
set_option maxHeartbeats 16000000 in
theorem gpick_any {m : Nat} (H : ThingsG m) : PickG m := by
  intro gb pb po kb ko ob b9 B d j S S2 S3 Sk Tq Fr lv pv fv ov hv keysv av0 l ps p q f cs asked keys fm vs gs lab w0 w hI hu hkat hkis hj hf hkind hgo hsm hlv hld hkl hgb hg0 hask hgq hTq hTq2 hal hk hSk hrows hfm hFr hout hgB hBw hav hlab h60 hn
  refine calls_of_sim Try.func122 rfl (Nat.le_of_ble_eq_true rfl) ?_
  obtain ⟨ka, kc, rfl, hknc, hkcm, _⟩ := id hk
  unfold maxLen at hkcm
  obtain ⟨qv, rfl, hqv⟩ := pckLay_succ hkis
  obtain ⟨qa, qc, rfl, _⟩ := id hqv
  obtain ⟨fa, fc, rfl, _⟩ := id hI.fields
  have hfl := (List.getElem?_eq_some_iff.1 hf).1
  have hgl := hgb.lt
  have hX0 : ∀ b, b < w0.heap.size → ¬ (b = gb ∨ some b = av0.ownBlock) := fun b hb h => by
    rcases h with rfl | h
    · omega
    · have := (hask.lt b h.symm).1; omega
  have hpat := hI.part.up hu
  have hkat1 := hkat.up hu
  obtain ⟨fb, fo, cs, rfl, _, hfat, rfl, _⟩ := (hI.fields.up hu).at hf
  have hfat : At w fb (fo + j * 3) _ := hfat
  obtain ⟨hk1, hk3, hkt⟩ := hI.ok.kind p hI.mem j f hf
  have hmem : p ∈ (allM l).1 := by rw [← hI.eq]; exact hI.mem
  have hfld : fldM p.type.fields q.field = some f := fldM_at hj hf
  repeat (first | refine RL.vv ?_ | refine RL.p ?_ | refine RL.nil ?_ | refine Sim.seq ?_ | refine Sim.region ?_ | refine Sim.block ?_ | refine Sim.skip ?_ | refine Sim.inBlock ?_ | refine Sim.exit rfl ?_ | refine Sim.condT rfl ?_ | refine Sim.condF rfl ?_)
  refine Sim.cutX (σ := Nat) (fun b12 => [(0, .pointer (some ⟨gb, 0, none⟩)), (1, .pointer (some ⟨pb, po, none⟩)), (2, .slice ka keys.length kc), (3, .pointer (some ⟨kb, ko, none⟩)), (4, .map (some b9)), (5, .map (some ob)), (12, .pointer (some ⟨b12, 0, none⟩))])
    (fun b12 w' => Up w w' ∧ w.heap.size ≤ b12 ∧ Box w' b12 86 [.string f.name, .int .i64 f.kind, .string f.type]) (fun k' next => ?_) ?_
  · have h0 := Up.drew w
    refine Sim.ord (Up w) ?_
    refine RO.tk 0 ?_
    refine RO.tk 1 ?_
    refine RO.tk 2 ?_
    refine RO.tk 3 ?_
    refine RO.tk 4 ?_
    refine RO.tk 5 ?_
    refine RO.tk 6 ?_
    refine RO.tk 7 ?_
    refine RO.tk 8 ?_
    refine RO.tk 9 ?_
    refine RO.tk 10 ?_
    refine RO.tk 11 ?_
    refine RO.tk 12 ?_
    refine RO.tk 13 ?_
    refine RO.two 14 17 ?_ ?_
    · refine RL.cu h0 (c_val (Field_any q.field _ (hI.fields.up (hu.trans h0))) (by rw [hj])) fun w1 h0 hh => ?_
      refine RL.ord h0 ?_
      refine RO.tk 15 ?_
      refine RO.tk 16 ?_
      refine RO.one 17 ?_
      refine RL.al h0 fun b12 w2 _ hle h0 _ hb => ?_
      refine RL.ord h0 ?_
      refine RO.one 18 ?_
      refine RL.st h0 hb hle fun w3 h0 _ hb => ?_
      refine RL.ord h0 ?_
      refine RO.done (RL.nil ?_)
      exact next b12 _ _ ⟨h0, hle, hb⟩ sb
    · refine RL.al h0 fun b12 w2 _ hle h0 _ hb => ?_
      refine RL.ord h0 ?_
      refine RO.one 14 ?_
      refine RL.cu h0 (c_val (Field_any q.field _ (hI.fields.up (hu.trans h0))) (by rw [hj])) fun w1 h0 hh => ?_
      have hb := hb.up hh
      refine RL.ord h0 ?_
      refine RO.tk 15 ?_
      refine RO.tk 16 ?_
      refine RO.one 18 ?_
      refine RL.st h0 hb hle fun w3 h0 _ hb => ?_
      refine RL.ord h0 ?_
      refine RO.done (RL.nil ?_)
      exact next b12 _ _ ⟨h0, hle, hb⟩ sb
  clear hpat hkat1 hfat
  rintro b12 w1 ⟨h01, hle12, hb12⟩
  have hl12 := hb12.lt
  have hu1 := hu.trans h01
  have ha12 := hb12.at
  repeat (first | refine RL.vv ?_ | refine RL.p ?_ | refine RL.nil ?_ | refine Sim.seq ?_ | refine Sim.region ?_ | refine Sim.block ?_ | refine Sim.skip ?_ | refine Sim.inBlock ?_ | refine Sim.exit rfl ?_ | refine Sim.condT rfl ?_ | refine Sim.condF rfl ?_)
  -- what it leads to, all at once
  refine Sim.cutX (σ := Option Nat × Value × Nat) (fun st => [(0, .pointer (some ⟨gb, 0, none⟩)), (1, .pointer (some ⟨pb, po, none⟩)), (2, .slice ka keys.length kc), (3, .pointer (some ⟨kb, ko, none⟩)), (4, .map (some b9)), (5, .map (some ob)), (12, .pointer (some ⟨b12, 0, none⟩)), (13, .map st.1)])
    (fun st w' => Els (fun b => b = gb ∨ some b = av0.ownBlock) w w' ∧ w1.heap.size ≤ w'.heap.size ∧ Box w' b12 86 [.string f.name, .int .i64 f.kind, .string f.type] ∧ Box w' gb 172 [lv, pv, st.2.1] ∧ Own rqLay 52 w0.heap.size (fun b => Tq b ∧ lab b = none) w' st.2.1 (asked ++ askP l ps q p keys) ∧ (∀ x, st.2.1.ownBlock = some x → av0.ownBlock = some x ∨ w1.heap.size ≤ x) ∧
      st.2.2 ≤ w'.heap.size ∧ SubsAt (m + 1) (fun b => w1.heap.size ≤ b ∧ b < st.2.2 ∧ some b ≠ st.2.1.ownBlock) w' st.1 (fun x => f.kind ≠ 1 ∧ x ∈ nextM l p q.field keys) (fun x => if (semOf l ps).there f.type x = true then some (thingS (semOf l ps) q.picks f.type x) else none)) (fun k' next => ?_) ?_
  · refine Sim.condP rfl (fun hk1' => ?_) (fun hk1' => ?_)
    rotate_left
    · have hk1' : f.kind = 1 := by omega
      have hak : askP l ps q p keys = [] := by rw [askP_eq, hfld]; simp only; rw [if_pos hk1']
      repeat (first | refine RL.vv ?_ | refine RL.p ?_ | refine RL.nil ?_ | refine Sim.seq ?_ | refine Sim.region ?_ | refine Sim.block ?_ | refine Sim.skip ?_ | refine Sim.inBlock ?_ | refine Sim.exit rfl ?_ | refine Sim.condT rfl ?_ | refine Sim.condF rfl ?_)
      exact next (none, av0, w1.heap.size) _ _ ⟨.of_up h01, Nat.le_refl _, hb12, hgb.up h01, by rw [hak, List.append_nil]; exact hask.up h01, fun x hx => .inl hx, Nat.le_refl _, fun x hx => hx.1 hk1'⟩ sb
    repeat (first | refine RL.vv ?_ | refine RL.p ?_ | refine RL.nil ?_ | refine Sim.seq ?_ | refine Sim.region ?_ | refine Sim.block ?_ | refine Sim.skip ?_ | refine Sim.inBlock ?_ | refine Sim.exit rfl ?_ | refine Sim.condT rfl ?_ | refine Sim.condF rfl ?_)
    refine Sim.loop (σ := Nat × Value) (fun st => [(0, .pointer (some ⟨gb, 0, none⟩)), (1, .pointer (some ⟨pb, po, none⟩)), (2, .slice ka keys.length kc), (3, .pointer (some ⟨kb, ko, none⟩)), (4, .map (some b9)), (5, .map (some ob)), (12, .pointer (some ⟨b12, 0, none⟩)), (13, .map none), (48, .slice ka keys.length kc), (49, .int .i64 (keys.length : Int)), (50, .int .i64 (st.1 : Int)), (14, st.2)])
      (fun st w' => st.1 ≤ keys.length ∧ Up w1 w' ∧ Own strLay 9 w1.heap.size Nn w' st.2 (dedup ((keys.take st.1).flatMap (leadsOf l p q.field)))) (fun st => keys.length - st.1) (0, .slice none 0 0) sb ⟨Nat.zero_le _, .refl _, Own.nil _ _ _ _ _⟩ ?_
    rintro ⟨t, nv⟩ w2 ⟨ht, h12, hon⟩ next1
    simp only at ht hon next1 ⊢
    have hu2 := hu1.trans h12
    have h02 := h01.trans h12
    have hk20 : keys.length * 20 ≤ 25600000000 := Nat.le_trans (Nat.mul_le_mul_left _ (by rw [Nat.pow_succ]; exact Nat.le_mul_of_pos_left 20 (Nat.pow_pos (by decide)))) hkl
    by_cases htl : t < keys.length
    · have hkx : keys[t]? = some keys[t] := List.getElem?_eq_getElem htl
      have hkm := List.getElem_mem htl
      obtain ⟨xb, xo, cs, rfl, _, hxat, rfl, _⟩ := (hk.up h02).at hkx
      have hxat : At w2 xb (xo + t * 1) _ := hxat
      have htk : (keys.take (t + 1)).flatMap (leadsOf l p q.field) = (keys.take t).flatMap (leadsOf l p q.field) ++ leadsOf l p q.field keys[t] := by
        rw [List.take_succ_eq_append_getElem htl, List.flatMap_append]
        simp
      have hfl20 := flat_leads hI.all hmem hj hf (keys.take t)
      rw [List.length_take] at hfl20
      have hfk := hfm keys[t] hkm
      have hrow0 := (hrows.up h02).get hkx
      generalize keys[t] = k at *
      obtain ⟨ents, x, hm9, hget, hrow⟩ := hrow0
      have har := hrow.box.at
      obtain ⟨en2, hmv, hev⟩ := hrow.vals
      have hevq := hev q.field
      rw [hfk] at hevq
      have hkat2 := hkat.up hu2
      cases hv : valOf l p q.field k with
      | none =>
        rw [hv] at hevq
        have hle0 : leadsOf l p q.field k = [] := by unfold leadsOf; rw [hv]
        rw [hle0, List.append_nil] at htk
        repeat (first | refine RL.vv ?_ | refine RL.p ?_ | refine RL.nil ?_ | refine Sim.seq ?_ | refine Sim.region ?_ | refine Sim.block ?_ | refine Sim.skip ?_ | refine Sim.inBlock ?_ | refine Sim.exit rfl ?_ | refine Sim.condT rfl ?_ | refine Sim.condF rfl ?_)
        refine Sim.q ?_
        repeat (first | refine RQ.vv ?_ | refine RQ.p ?_)
        refine RQ.vv ?_ (hy := fun wq hq => y_lookupV (k := k) (v := .pointer (some ⟨x.1, 0, none⟩)) Try.underlying9 (hm9.up hq) rfl rfl (by rw [hget]; rfl))
        repeat (first | refine RQ.vv ?_ | refine RQ.p ?_)
        refine RQ.vv ?_ (hy := fun wq hq => y_lookupV (k := q.field) (v := .agg #[.string ⟨#[]⟩, .string ⟨#[]⟩, .slice none 0 0]) Try.underlying9 (hmv.up hq) rfl rfl (by rw [hevq]; rfl))
        refine RQ.vv ?_ (hy := fun wq hq => y_field (v := .slice none 0 0) rfl (fun w => by kernel_rfl))
        repeat (first | refine RQ.vv ?_ | refine RQ.p ?_)
        refine RQ.nil fun w3 h23 => ?_
        repeat (first | refine RL.vv ?_ | refine RL.p ?_ | refine RL.nil ?_ | refine Sim.seq ?_ | refine Sim.region ?_ | refine Sim.block ?_ | refine Sim.skip ?_ | refine Sim.inBlock ?_ | refine Sim.exit rfl ?_ | refine Sim.condT rfl ?_ | refine Sim.condF rfl ?_)
        refine Sim.loop (σ := Unit) (fun _ => [(0, .pointer (some ⟨gb, 0, none⟩)), (1, .pointer (some ⟨pb, po, none⟩)), (2, .slice (some ⟨xb, xo, none⟩) keys.length kc), (3, .pointer (some ⟨kb, ko, none⟩)), (4, .map (some b9)), (5, .map (some ob)), (12, .pointer (some ⟨b12, 0, none⟩)), (13, .map none), (48, .slice (some ⟨xb, xo, none⟩) keys.length kc), (49, .int .i64 (keys.length : Int)), (50, .int .i64 (t : Int)), (14, nv), (66, .int .i64 ((0 : Nat) : Int)), (67, .int .i64 0)]) (fun _ w' => Up w2 w') (fun _ => 0) () sb h23 ?_
        rintro _ w4 h24 _
        repeat (first | refine RL.vv ?_ | refine RL.p ?_ | refine RL.nil ?_ | refine Sim.seq ?_ | refine Sim.region ?_ | refine Sim.block ?_ | refine Sim.skip ?_ | refine Sim.inBlock ?_ | refine Sim.exit rfl ?_ | refine Sim.condT rfl ?_ | refine Sim.condF rfl ?_)
        exact next1 (t + 1, nv) _ _ ⟨by first | omega | (simp only; omega), h12.trans h24, by simp only; rw [htk]; exact hon.up h24⟩ (by first | omega | (simp only; omega)) sb
      | some v =>
        rw [hv] at hevq
        obtain ⟨kv, hg2, hkv⟩ := hevq
        obtain ⟨va, vc, rfl, hvnc, hvcm, _⟩ := id hkv
        unfold maxLen at hvcm
        have hle0 : leadsOf l p q.field k = v.keys := by unfold leadsOf; rw [hv]
        rw [hle0] at htk
        obtain ⟨hvf, hth⟩ := valOf_for hI.all hmem hj hf hv
        have hv20 := hvf.keys
        repeat (first | refine RL.vv ?_ | refine RL.p ?_ | refine RL.nil ?_ | refine Sim.seq ?_ | refine Sim.region ?_ | refine Sim.block ?_ | refine Sim.skip ?_ | refine Sim.inBlock ?_ | refine Sim.exit rfl ?_ | refine Sim.condT rfl ?_ | refine Sim.condF rfl ?_)
        refine Sim.q ?_
        repeat (first | refine RQ.vv ?_ | refine RQ.p ?_)
        refine RQ.vv ?_ (hy := fun wq hq => y_lookupV (k := k) (v := .pointer (some ⟨x.1, 0, none⟩)) Try.underlying9 (hm9.up hq) rfl rfl (by rw [hget]; rfl))
        repeat (first | refine RQ.vv ?_ | refine RQ.p ?_)
        refine RQ.vv ?_ (hy := fun wq hq => y_lookupV (k := q.field) (v := .agg #[.string v.field, .string v.text, .slice va v.keys.length vc]) Try.underlying9 (hmv.up hq) rfl rfl (by rw [hg2]; rfl))
        refine RQ.vv ?_ (hy := fun wq hq => y_field (v := .slice va v.keys.length vc) rfl (fun w => by kernel_rfl))
        repeat (first | refine RQ.vv ?_ | refine RQ.p ?_)
        refine RQ.nil fun w3 h23 => ?_
        have h13 := h12.trans h23
        repeat (first | refine RL.vv ?_ | refine RL.p ?_ | refine RL.nil ?_ | refine Sim.seq ?_ | refine Sim.region ?_ | refine Sim.block ?_ | refine Sim.skip ?_ | refine Sim.inBlock ?_ | refine Sim.exit rfl ?_ | refine Sim.condT rfl ?_ | refine Sim.condF rfl ?_)
        refine Sim.loop (σ := Nat × Value) (fun st => [(0, .pointer (some ⟨gb, 0, none⟩)), (1, .pointer (some ⟨pb, po, none⟩)), (2, .slice (some ⟨xb, xo, none⟩) keys.length kc), (3, .pointer (some ⟨kb, ko, none⟩)), (4, .map (some b9)), (5, .map (some ob)), (12, .pointer (some ⟨b12, 0, none⟩)), (13, .map none), (48, .slice (some ⟨xb, xo, none⟩) keys.length kc), (49, .int .i64 (keys.length : Int)), (50, .int .i64 (t : Int)), (16, .string k), (65, .slice va v.keys.length vc), (66, .int .i64 (v.keys.length : Int)), (67, .int .i64 (st.1 : Int)), (14, st.2)])
          (fun st w' => st.1 ≤ v.keys.length ∧ Up w1 w' ∧ Own strLay 9 w1.heap.size Nn w' st.2 (dedup ((keys.take t).flatMap (leadsOf l p q.field) ++ v.keys.take st.1))) (fun st => v.keys.length - st.1) (0, nv) sb ⟨Nat.zero_le _, h13, by simpa using hon.up h23⟩ ?_
        clear hon har hmv hev hkat2 hxat hm9 hrow hget
        rintro ⟨n, nv2⟩ w4 ⟨hn', h14, hon⟩ next2
        simp only at hn' hon next2 ⊢
        have h04 := h01.trans h14
        by_cases hnl : n < v.keys.length
        · have hnx : v.keys[n]? = some v.keys[n] := List.getElem?_eq_getElem hnl
          obtain ⟨ents, x, hm9, hget, hrow⟩ := (hrows.up h04).get hkx
          have har := hrow.box.at
          have hth : thereM l p k = true := hth
          rw [hth] at har
          obtain ⟨en2, hmv, hev⟩ := hrow.vals
          have hkv4 : SliceOf strLay Fr w4 (.slice va v.keys.length vc) v.keys := (hkv.keep (w' := w4) fun b hb hlt => by
            have := (hFr b hb).1
            have e1 := h04.block this
            have e2 := h02.block this
            exact e1.trans e2.symm)
          obtain ⟨yb, yo, cs, rfl, _, hyat, rfl, _⟩ := hkv4.at hnx
          have hyat : At w4 yb (yo + n * 1) _ := hyat
          have hnk : dedup ((keys.take t).flatMap (leadsOf l p q.field) ++ v.keys.take (n + 1)) = addNew (dedup ((keys.take t).flatMap (leadsOf l p q.field) ++ v.keys.take n)) v.keys[n] := by
            rw [List.take_succ_eq_append_getElem hnl, ← List.append_assoc, dedup_snoc]
          have hdl := dedup_len ((keys.take t).flatMap (leadsOf l p q.field) ++ v.keys.take n)
          rw [List.length_append, List.length_take] at hdl
          generalize v.keys[n] = y at *
          generalize dedup ((keys.take t).flatMap (leadsOf l p q.field) ++ v.keys.take n) = acc at *
          obtain ⟨n1, n2, n3, rfl⟩ := hon.sh
          repeat (first | refine RL.vv ?_ | refine RL.p ?_ | refine RL.nil ?_ | refine Sim.seq ?_ | refine Sim.region ?_ | refine Sim.block ?_ | refine Sim.skip ?_ | refine Sim.inBlock ?_ | refine Sim.exit rfl ?_ | refine Sim.condT rfl ?_ | refine Sim.condF rfl ?_)
          refine RL.vv ?_ (hy := y_lookupV (k := k) (v := .pointer (some ⟨x.1, 0, none⟩)) Try.underlying9 hm9 rfl rfl (by rw [hget]; rfl))
          repeat (first | refine RL.vv ?_ | refine RL.p ?_ | refine RL.nil ?_ | refine Sim.seq ?_ | refine Sim.region ?_ | refine Sim.block ?_ | refine Sim.skip ?_ | refine Sim.inBlock ?_ | refine Sim.exit rfl ?_ | refine Sim.condT rfl ?_ | refine Sim.condF rfl ?_)
          refine RL.cs (Contains_Str y w4 ((hon.no (S' := Nn)).sl (S' := fun _ => True) (fun _ h _ _ => h.elim) fun _ _ => trivial)) ?_
          by_cases hc : 0 ≤ strAt acc y
          · rw [decide_eq_true hc]
            have e : addNew acc y = acc := if_pos (strAt_mem.1 hc)
            rw [e] at hnk
            repeat (first | refine RL.vv ?_ | refine RL.p ?_ | refine RL.nil ?_ | refine Sim.seq ?_ | refine Sim.region ?_ | refine Sim.block ?_ | refine Sim.skip ?_ | refine Sim.inBlock ?_ | refine Sim.exit rfl ?_ | refine Sim.condT rfl ?_ | refine Sim.condF rfl ?_)
            exact next2 (n + 1, .slice n1 n2 n3) _ _ ⟨by first | omega | (simp only; omega), h14, by simp only; rw [hnk]; exact hon⟩ (by first | omega | (simp only; omega)) sb
          · rw [decide_eq_false hc]
            have e : addNew acc y = acc ++ [y] := if_neg fun h => hc (strAt_mem.2 h)
            rw [e] at hnk
            repeat (first | refine RL.vv ?_ | refine RL.p ?_ | refine RL.nil ?_ | refine Sim.seq ?_ | refine Sim.region ?_ | refine Sim.block ?_ | refine Sim.skip ?_ | refine Sim.inBlock ?_ | refine Sim.exit rfl ?_ | refine Sim.condT rfl ?_ | refine Sim.condF rfl ?_)
            refine RL.bu (el := 9) [.string y] h14 fun b85 w5 he85 _ h15 h45 hb85 => ?_
            refine RL.app (L := strLay) (el := 9) (S := fun _ => True) (B := w1.heap.size) (ys := [y]) h15 ((hon.up h45).no (S' := fun _ => True)) (SliceOf.one hb85 ⟨trivial, hon.ne (Nat.le_of_eq he85.symm)⟩ rfl) (by simp only [List.length_cons, List.length_nil]; omega) (Nat.le_refl _) (by have := h15.size; omega) fun nv3 w6 h16 hon3 hg hvn => ?_
            repeat (first | refine RL.vv ?_ | refine RL.p ?_ | refine RL.nil ?_ | refine Sim.seq ?_ | refine Sim.region ?_ | refine Sim.block ?_ | refine Sim.skip ?_ | refine Sim.inBlock ?_ | refine Sim.exit rfl ?_ | refine Sim.condT rfl ?_ | refine Sim.condF rfl ?_)
            exact next2 (n + 1, nv3) _ _ ⟨by first | omega | (simp only; omega), h16, by simp only; rw [hnk]; exact hon3.no⟩ (by first | omega | (simp only; omega)) sb
        have : n = v.keys.length := by omega
        subst this
        rw [List.take_length, ← htk] at hon
        repeat (first | refine RL.vv ?_ | refine RL.p ?_ | refine RL.nil ?_ | refine Sim.seq ?_ | refine Sim.region ?_ | refine Sim.block ?_ | refine Sim.skip ?_ | refine Sim.inBlock ?_ | refine Sim.exit rfl ?_ | refine Sim.condT rfl ?_ | refine Sim.condF rfl ?_)
        exact next1 (t + 1, nv2) _ _ ⟨by first | omega | (simp only; omega), h14, hon⟩ (by first | omega | (simp only; omega)) sb
    have : t = keys.length := by omega
    subst this
    rw [List.take_length] at hon
    have hon : Own strLay 9 w1.heap.size Nn w2 nv (nextM l p q.field keys) := hon
    have hfl20 := flat_leads hI.all hmem hj hf keys
    have hdl := dedup_len (keys.flatMap (leadsOf l p q.field))
    have hdl : (nextM l p q.field keys).length ≤ (keys.flatMap (leadsOf l p q.field)).length := hdl
    have hnn : (nextM l p q.field keys).Nodup := dedup_nodup _
    clear next1
    by_cases hnx : nextM l p q.field keys = []
    · have hak : askP l ps q p keys = [] := by rw [askP_eq, hfld]; simp only; rw [if_neg hk1', if_pos hnx]
      have hnl : ¬ (0 : Int) < ((nextM l p q.field keys).length : Int) := by rw [hnx]; decide
      obtain ⟨n1, n3, rfl⟩ := hon.shape
      repeat (first | refine RL.vv ?_ | refine RL.p ?_ | refine RL.nil ?_ | refine Sim.seq ?_ | refine Sim.region ?_ | refine Sim.block ?_ | refine Sim.skip ?_ | refine Sim.inBlock ?_ | refine Sim.exit rfl ?_ | refine Sim.condT rfl ?_ | refine Sim.condF rfl ?_)
      exact next (none, av0, w1.heap.size) _ _ ⟨.of_up h02, h12.size, hb12.up h12, hgb.up h02, by rw [hak, List.append_nil]; exact hask.up h02, fun x hx => .inl hx, h12.size, fun x hx => by rw [hnx] at hx; exact absurd hx.2 (by simp)⟩ sb
    have hnl : (0 : Int) < ((nextM l p q.field keys).length : Int) := by have := List.length_pos_iff.2 hnx; omega
    obtain ⟨k, t, hkf, htk, htn⟩ := partM_name (hkt hk1')
    have hpt : partM ps f.type = some t := by rw [← htn]; exact partM_at hI.ok htk
    have hak : askP l ps q p keys = asksM l ps t (nextM l p q.field keys) q.picks := by rw [askP_eq, hfld]; simp only; rw [if_neg hk1', if_neg hnx, hpt]
    have hsn := (hon.no (S' := Nn)).sl (S' := fun b => w1.heap.size ≤ b) (fun _ h _ _ => h.elim) fun g hg => (hon.lt g hg).1
    obtain ⟨n1, n3, rfl⟩ := hon.shape
    obtain ⟨pa, pc, rfl, hpnc, hpcm, _⟩ := id hI.parts
    have hkl2 := (List.getElem?_eq_some_iff.1 htk).1
    obtain ⟨tb, to, cs, he, _, _, _, _⟩ := hI.parts.at htk
    subst he
    obtain ⟨fv2, ov2, hv2, hT⟩ := hI.to htk
    have hne : q.picks ≠ [] := fun e => hk1' (hkind.2 e)
    have hgb2 := hgb.up h02
    have hb12' := hb12.up h12
    repeat (first | refine RL.vv ?_ | refine RL.p ?_ | refine RL.nil ?_ | refine Sim.seq ?_ | refine Sim.region ?_ | refine Sim.block ?_ | refine Sim.skip ?_ | refine Sim.inBlock ?_ | refine Sim.exit rfl ?_ | refine Sim.condT rfl ?_ | refine Sim.condF rfl ?_)
    have hd := Up.drew w2
    have h1 : True := trivial
    have h2 : Up w0 w2.drew ∧ At w2.drew gb 1 [.slice (some ⟨tb, to, none⟩) ps.length pc] ∧ At w2.drew b12 0 [.string f.name, .int .i64 f.kind, .string f.type] := ⟨hu2.trans hd, (fun i v hi => by
      cases i with
      | zero => simp at hi; subst hi; exact (hgb2.up hd).at 1 _ rfl
      | succ i => simp at hi), (hb12'.up hd).at⟩
    refine Sim.ordD [18] (fun _ => True) (fun wq => Up w0 wq ∧ At wq gb 1 [.slice (some ⟨tb, to, none⟩) ps.length pc] ∧ At wq b12 0 [.string f.name, .int .i64 f.kind, .string f.type]) ?_ mixed
    refine RD.tm 0 ?_
    refine RD.tm 1 ?_
    refine RD.tm 2 ?_
    refine RD.tm 3 ?_
    refine RD.tm 4 ?_ (hy := fun wq hq => y_load0 rfl hq.2.1 rfl)
    refine RD.tm 5 ?_
    refine RD.tm 6 ?_
    refine RD.tm 7 ?_
    refine RD.tm 8 ?_ (hy := fun wq hq => y_load0 rfl hq.2.1 rfl)
    refine RD.tm 9 ?_
    refine RD.tm 10 ?_ (hy := fun wq hq => y_loadF rfl hq.2.2 rfl)
    refine RD.tm 13 ?_
    refine RD.tm 14 ?_
    refine RD.tm 15 ?_
    refine RD.tm 16 ?_
    refine RD.tm 17 ?_ (hy := fun wq hq => y_loadF rfl (hkat.up hq.1) rfl)
    refine RD.one 11 ?_
    refine RL.cu (.refl _) (c_val (PFind_any f.type _ (hI.parts.up (hu2.trans hd))) (by rw [hkf])) fun w3 _ h23 => ?_
    have h24 := hd.trans h23
    have hgb3 := hgb2.up h24
    have hb123 := hb12'.up h24
    have h03 := h02.trans h24
    have hS2 : Up w0 w3 ∧ At w3 gb 1 [.slice (some ⟨tb, to, none⟩) ps.length pc] ∧ At w3 b12 0 [.string f.name, .int .i64 f.kind, .string f.type] := ⟨hu.trans h03, (fun i v hi => by
      cases i with
      | zero => simp at hi; subst hi; exact hgb3.at 1 _ rfl
      | succ i => simp at hi), hb123.at⟩
    refine RL.od hS2 trivial ?_
    refine RD.tm 12 ?_
    refine RD.one 18 ?_
    have hs03 := h03.size
    refine RL.cx (H w3 hT (hu.trans h03) hqv (by rw [htn]; exact hgo hne) hsm hlv hld (by
      have e1 : (nextM l p q.field keys).length ≤ 20 * keys.length := by omega
      have e2 := Nat.mul_le_mul_right (20 ^ d) e1
      rw [Nat.pow_succ] at hkl
      rw [Nat.mul_comm (20 ^ d) 20, ← Nat.mul_assoc, Nat.mul_comm keys.length 20] at hkl
      exact Nat.le_trans e2 hkl) hgb3 hg0 (hask.up h03) hgq (fun h => hTq h.1) (fun b hb => ⟨hTq2 b (by omega), hlab b (by omega)⟩) (by rw [← hak]; exact hal) (hsn.up h24) (fun b hb => ⟨by have := h01.size; omega, fun e => by have := (hask.lt b e.symm).2; have := h01.size; omega⟩) hnn hnx) ?_
    rintro _ w4 ⟨ob2, av, rfl, hE, hgb4, hask4, hav4, hsub⟩
    refine ⟨_, rfl, ?_⟩
    have hE04 : Els (fun b => b = gb ∨ some b = av0.ownBlock) w w4 := (Els.of_up h03).trans hE
    have hu4 := hE04.up hu hX0
    have hb124 : Box w4 b12 86 [.string f.name, .int .i64 f.kind, .string f.type] := hb123.keep (hE.keepS (S := fun b => b = b12) fun b hb hlt h => by
      rcases h with h | h
      · omega
      · have := (hask.lt b h.symm).2; omega) rfl
    refine RL.ox ⟨hu4, (fun i v hi => by
      cases i with
      | zero => simp at hi; subst hi; exact hgb4.at 1 _ rfl
      | succ i => simp at hi), hb124.at⟩ ?_
    refine RD.on 19 ⟨hu4, (fun i v hi => by
      cases i with
      | zero => simp at hi; subst hi; exact hgb4.at 1 _ rfl
      | succ i => simp at hi), hb124.at⟩ ?_
    refine RD.done (RL.nil ?_)
    have hs34 := hE.size
    have hs13 : w1.heap.size ≤ w3.heap.size := Nat.le_trans h12.size h24.size
    refine next (some ob2, av, w4.heap.size) _ _ ⟨hE04, by first | omega | (simp only; omega), hb124, hgb4, by rw [hak]; exact hask4, fun x hx => ?_, Nat.le_refl _, ?_⟩ sb
    · rcases hav4 x hx with h | h
      · exact .inl h
      · exact .inr (by first | omega | (simp only; omega))
    · obtain ⟨h5, ents, h6, h7⟩ := hsub
      refine ⟨⟨by omega, h5.2.1, h5.2.2⟩, ents, h6, fun x hx => ?_⟩
      have h8 := h7 x hx.2
      have hth : (semOf l ps).there f.type x = thereM l t x := by simp only [semOf, hpt]
      dsimp only at h8 ⊢
      rw [hth]
      by_cases ht : thereM l t x = true
      · rw [if_pos ht] at h8 ⊢
        obtain ⟨v, h9, h10⟩ := h8
        exact ⟨v, h9, by rw [← htn]; exact h10.mono fun b hb => ⟨by omega, hb.2.1, hb.2.2⟩⟩
      · rw [if_neg ht] at h8 ⊢
        exact h8
  clear ha12 hb12
  rintro ⟨sm, av, Zs⟩ w2 ⟨hE2, hs12, hb12, hgb2, hask2, hav2, hZs, hsub⟩
  simp only at hgb2 hask2 hav2 hZs hsub ⊢
  generalize hlab1 : (fun b => if av.ownBlock = some b ∧ B ≤ b then some 1 else lab b) = lab1
  have hl1 : ∀ b, lab1 b = if av.ownBlock = some b ∧ B ≤ b then some 1 else lab b := fun b => by rw [← hlab1]
  have hl1w : ∀ b, b < w.heap.size → lab1 b = lab b := fun b hb => by
    rw [hl1]
    split
    · rename_i h
      rcases hav2 b h.1 with h1 | h1
      · rcases hav b h1 with h2 | h2
        · omega
        · exact h2.symm
      · have := h01.size; omega
    · rfl
  have hl1B : ∀ b, b < B → lab1 b = none := fun b hb => by rw [hl1, if_neg (by omega)]; exact hout.base b hb
  have hl1hi : ∀ b, w2.heap.size ≤ b → lab1 b = none := fun b hb => by
    rw [hl1, if_neg]
    · exact hlab b (by have := hE2.size; omega)
    · intro h; have := (hask2.lt b h.1).2; omega
  have hav1 : ∀ x, av.ownBlock = some x → x < B ∨ lab1 x = some 1 := fun x hx => by
    by_cases h : x < B
    · exact .inl h
    · exact .inr (by rw [hl1, if_pos ⟨hx, by omega⟩])
  have hout2 := (hout.relab (lab' := lab1) hl1B hl1w).keep (hE2.keepS (S := fun b => B ≤ b ∧ b < w.heap.size ∧ lab1 b ≠ some 1) fun b hb _ h => by
    rcases h with h | h
    · omega
    · rcases hav b h.symm with h1 | h1
      · omega
      · exact hb.2.2 (by rw [hl1w b hb.2.1]; exact h1)) fun b h1 h2 h3 => ⟨h1, h2, h3⟩
  have hask2 := hask2.shift (S' := fun b => (Tq b ∧ lab1 b = none) ∧ b < w2.heap.size) fun b hb hlt hne => ⟨⟨hb.1, by rw [hl1, if_neg (fun h => hne h.1.symm)]; exact hb.2⟩, hlt⟩
  have hrows2 := hrows.keep (hE2.keepS fun b hb _ h => by
    rcases h with h | h
    · exact (hFr b hb).2.1 h
    · exact (hFr b hb).2.2.1 h)
  have hk2 := hk.keep (hE2.keepS fun b hb _ h => by
    rcases h with h | h
    · exact (hSk b hb).2.1 h
    · exact (hSk b hb).2.2 h)
  have hu2 := hE2.up hu hX0
  have hwE := hE2.size
  have hgl2 := hgb2.lt
  have hl122 : b12 < w2.heap.size := hb12.lt
  have hE2' := hE2
  clear hrows hk hout hgb hask hlab1 hE2
  repeat (first | refine RL.vv ?_ | refine RL.p ?_ | refine RL.nil ?_ | refine Sim.seq ?_ | refine Sim.region ?_ | refine Sim.block ?_ | refine Sim.skip ?_ | refine Sim.inBlock ?_ | refine Sim.exit rfl ?_ | refine Sim.condT rfl ?_ | refine Sim.condF rfl ?_)
  refine Sim.loop (σ := Nat × (Nat → Value) × (Nat → Option Nat)) (fun st => [(2, .slice ka keys.length kc), (3, .pointer (some ⟨kb, ko, none⟩)), (4, .map (some b9)), (5, .map (some ob)), (12, .pointer (some ⟨b12, 0, none⟩)), (13, .map sm), (111, .slice ka keys.length kc), (112, .int .i64 (keys.length : Int)), (113, .int .i64 (st.1 : Int))])
    (fun st w' => st.1 ≤ keys.length ∧ Els (fun b => lab1 b ≠ none ∧ lab1 b ≠ some 1) w2 w' ∧ OutAt (m + 2) B w' ob (keys.filter (thereM l p)) st.2.1 (fun i => if i < ((keys.take st.1).filter (thereM l p)).length then gs i ++ [pickS (semOf l ps) q p.type.name ((keys.filter (thereM l p)).getD i ⟨#[]⟩)] else gs i) st.2.2 ∧ (∀ b, b < w2.heap.size → st.2.2 b = lab1 b) ∧ (∀ b, w'.heap.size ≤ b → st.2.2 b = none)) (fun st => keys.length - st.1) (0, vs, lab1) sb
    ⟨Nat.zero_le _, .refl _ _, by simpa using hout2, fun _ _ => rfl, hl1hi⟩ ?_
  clear hout2
  rintro ⟨t, vs3, lab3⟩ w3 ⟨ht, hE3, hout, hl3, hl3hi⟩ next3
  simp only at ht hout hl3 hl3hi next3 ⊢
  have hO0 : ∀ b, b < B → ¬ (lab1 b ≠ none ∧ lab1 b ≠ some 1) := fun b hb h => h.1 (hl1B b hb)
  have hu3 := hE3.up hu2 fun b hb => hO0 b (by have := hu.size; omega)
  have hgb3 := hgb2.keep (hE3.keepS (S := fun b => b = gb) fun b hb _ => by subst hb; exact hO0 _ hgB) rfl
  have hs23 := hE3.size
  by_cases htl : t < keys.length
  rotate_left
  · have : t = keys.length := by omega
    subst this
    rw [List.take_length] at hout
    have hout : OutAt (m + 2) B w3 ob (keys.filter (thereM l p)) vs3 (fun i => gs i ++ [pickS (semOf l ps) q p.type.name ((keys.filter (thereM l p)).getD i ⟨#[]⟩)]) lab3 := ⟨hout.base, hout.map, fun i hi => by have := hout.own i hi; simpa only [if_pos hi] using this, hout.lob⟩
    have hask3 := (hask2.keep' (hE3.keepS (S := fun b => lab1 b = none ∨ lab1 b = some 1) fun b hb _ h => by rcases hb with hb | hb; exact h.1 hb; exact h.2 hb) (fun b hb _ _ => .inl hb.1.2) (fun g hg => by
      rcases hav1 g hg with h | h
      · exact .inl (hl1B g h)
      · exact .inr h)).shift (S' := fun b => Tq b ∧ lab3 b = none) fun b hb _ _ => ⟨hb.1.1, by rw [hl3 b hb.2]; exact hb.1.2⟩
    have hEE : Els (fun b => b = gb ∨ some b = av0.ownBlock ∨ lab b ≠ none) w w3 := by
      refine ((hE2'.weak fun b _ h => ?_).trans' (X' := fun b => lab1 b ≠ none ∧ lab1 b ≠ some 1) hE3 fun b hb h => ?_)
      · rcases h with h | h
        · exact .inl h
        · exact .inr (.inl h)
      · exact .inr (.inr (by rw [← hl1w b hb]; exact h.1))
    repeat (first | refine RL.vv ?_ | refine RL.p ?_ | refine RL.nil ?_ | refine Sim.seq ?_ | refine Sim.region ?_ | refine Sim.block ?_ | refine Sim.skip ?_ | refine Sim.inBlock ?_ | refine Sim.exit rfl ?_ | refine Sim.condT rfl ?_ | refine Sim.condF rfl ?_)
    exact Sim.fin0 Try.func122 rfl ⟨av, vs3, lab3, rfl, hEE, hgb3, hask3, fun x hx => by
      rcases hav2 x hx with h | h
      · exact .inl h
      · exact .inr (by have := h01.size; omega), fun x hx => by
      rcases hav1 x hx with h | h
      · exact .inl h
      · exact .inr (by rw [hl3 x (hask2.lt x hx).2]; exact h), hout, hl3hi, fun b hb => by rw [hl3 b (by omega)]; exact hl1w b hb⟩
  have hXhi : ∀ b, w.heap.size ≤ b → ¬ (lab1 b ≠ none ∧ lab1 b ≠ some 1) := fun b hb h => by
    rw [hl1, hlab b hb] at h
    split at h
    · exact h.2 rfl
    · exact h.1 rfl
  have hkx : keys[t]? = some keys[t] := List.getElem?_eq_getElem htl
  have hkm := List.getElem_mem htl
  obtain ⟨xb, xo, cs, rfl, _, hxat, rfl, _⟩ := (hk2.keep (hE3.keepS fun b hb _ => hO0 b (hSk b hb).1)).at hkx
  have hxat : At w3 xb (xo + t * 1) _ := hxat
  have hb123 : Box w3 b12 86 [.string f.name, .int .i64 f.kind, .string f.type] := hb12.keep (hE3.keepS (S := fun b => b = b12) fun b hb _ => by subst hb; exact hXhi _ hle12) rfl
  have hkat3 := hkat.up hu3
  have hsub3 := hsub.keep (hE3.keepS fun b hb _ => hXhi b (by have := h01.size; omega))
  have hrows3 := hrows2.keep (hE3.keepS fun b hb _ h => h.1 (by rw [hl1w b (hFr b hb).1]; exact (hFr b hb).2.2.2))
  have hfk := hfm keys[t] hkm
  have hfs := filter_snoc (g := thereM l p) hkx
  have hmn := fun y => (mem_next (l := l) (p := p) (f := q.field) (keys := keys) (x := y)).2
  have hvf := fun v => valOf_for (key := keys[t]) (v := v) hI.all hmem hj hf
  have hsf : (semOf l ps).fld p.type.name q.field = some f := by
    simp only [semOf, partM_mem hI.ok hI.mem, hj, Int.toNat_natCast, hf]
    rw [if_neg (by omega)]
  have hsv : (semOf l ps).val p.type.name q.field keys[t] = valOf l p q.field keys[t] := by
    simp only [semOf, partM_mem hI.ok hI.mem, valOf]
  have hps := pickS_def (semOf l ps) q p.type.name keys[t]
  rw [hsf] at hps
  simp only [hsv] at hps
  have hwant : ∀ y ∈ keysO (valOf l p q.field keys[t]), f.kind ≠ 1 ∧ y ∈ nextM l p q.field keys := fun y hy => by
    cases ho : valOf l p q.field keys[t] with
    | none => rw [ho] at hy; cases hy
    | some v =>
      rw [ho] at hy
      exact ⟨fun h1 => (by rw [keysO, (hvf v ho).1.word h1] at hy; cases hy), hmn y ⟨keys[t], hkm, v, ho, hy⟩⟩
  have hk20 : (keysO (valOf l p q.field keys[t])).length ≤ 20 := by
    cases ho : valOf l p q.field keys[t] with
    | none => simp [keysO]
    | some v => exact (hvf v ho).1.keys
  have hps1 : f.kind ≠ 2 → pickS (semOf l ps) q p.type.name keys[t] = .mk (calledM q) f.kind (!(valOf l p q.field keys[t]).isSome) (txtO (valOf l p q.field keys[t])) [] (((keysO (valOf l p q.field keys[t])).filter ((semOf l ps).there f.type)).map fun x => thingS (semOf l ps) q.picks f.type x) := fun h2 => by
    rw [hps]
    cases ho : valOf l p q.field keys[t] with
    | none => rfl
    | some v =>
      simp only
      by_cases h1 : f.kind = 1
      · rw [if_pos h1, keysO, (hvf v ho).1.word h1]; rfl
      · rw [if_neg h1, if_neg h2, txtO, (hvf v ho).1.text h1]; rfl
  have hps2 : f.kind = 2 → txtO (valOf l p q.field keys[t]) = ⟨#[]⟩ ∧ pickS (semOf l ps) q p.type.name keys[t] = oneOf (calledM q) (((keysO (valOf l p q.field keys[t])).filter ((semOf l ps).there f.type)).map fun x => thingS (semOf l ps) q.picks f.type x) := fun h2 => by
    rw [hps]
    cases ho : valOf l p q.field keys[t] with
    | none => exact ⟨rfl, by simp only [h2]; rfl⟩
    | some v =>
      have h1 : f.kind ≠ 1 := by omega
      simp only
      rw [if_neg h1, if_pos h2]
      exact ⟨(hvf v ho).1.text h1, rfl⟩
  obtain ⟨ents, x, hm9, hget, hrow⟩ := hrows3.get hkx
  have har := hrow.box.at
  obtain ⟨en2, hmv, hev⟩ := hrow.vals
  have hevq := hev q.field
  rw [hfk] at hevq
  have hidx := fun h => filter_idx (g := thereM l p) hkx h
  clear hsv hps hvf hmn hev hfk hrows3 hrow hsub hb12
  generalize hkk : keys[t] = k at *
  generalize ho : valOf l p q.field k = o at *
  obtain ⟨fd, kv, hlook, hlok, hkvs⟩ : ∃ fd kv, (mget en2 q.field).getD (.agg #[.string ⟨#[]⟩, .string ⟨#[]⟩, .slice none 0 0]) = .agg #[.string fd, .string (txtO o), kv] ∧ (mget en2 q.field).isSome = o.isSome ∧ SliceOf strLay Fr w3 kv (keysO o) := by
    cases o with
    | none => simp only at hevq; rw [hevq]; exact ⟨_, _, rfl, rfl, SliceOf.nil _ _ _⟩
    | some v => obtain ⟨kv, h1, h2⟩ := hevq; rw [h1]; exact ⟨_, _, rfl, rfl, h2⟩
  clear hevq
  obtain ⟨va, vc, rfl, hvnc, hvcm, _⟩ := id hkvs
  unfold maxLen at hvcm
  have ha12 := hb123.at
  repeat (first | refine RL.vv ?_ | refine RL.p ?_ | refine RL.nil ?_ | refine Sim.seq ?_ | refine Sim.region ?_ | refine Sim.block ?_ | refine Sim.skip ?_ | refine Sim.inBlock ?_ | refine Sim.exit rfl ?_ | refine Sim.condT rfl ?_ | refine Sim.condF rfl ?_)
  refine RL.vv ?_ (hy := y_lookupV (k := k) (v := .pointer (some ⟨x.1, 0, none⟩)) Try.underlying9 hm9 rfl rfl (by rw [hget]; rfl))
  cases hth : thereM l p k with
  | false =>
    rw [hth] at har hfs
    simp only [Bool.false_eq_true, if_false, List.append_nil] at hfs
    repeat (first | refine RL.vv ?_ | refine RL.p ?_ | refine RL.nil ?_ | refine Sim.seq ?_ | refine Sim.region ?_ | refine Sim.block ?_ | refine Sim.skip ?_ | refine Sim.inBlock ?_ | refine Sim.exit rfl ?_ | refine Sim.condT rfl ?_ | refine Sim.condF rfl ?_)
    exact next3 (t + 1, vs3, lab3) _ _ ⟨by first | omega | (simp only; omega), hE3, by simp only; rw [hfs]; exact hout, hl3, hl3hi⟩ (by first | omega | (simp only; omega)) sb
  | true =>
  rw [hth] at har hfs
  simp only [if_true] at hfs
  have hidx := hidx hth
  have hget3 := hout.get hidx
  obtain ⟨hown, hownl⟩ := hout.own _ (List.getElem?_eq_some_iff.1 hidx).1
  rw [if_neg (Nat.lt_irrefl _)] at hown
  have hbl : keys.getD t ⟨#[]⟩ = k := getD_get hkx
  repeat (first | refine RL.vv ?_ | refine RL.p ?_ | refine RL.nil ?_ | refine Sim.seq ?_ | refine Sim.region ?_ | refine Sim.block ?_ | refine Sim.skip ?_ | refine Sim.inBlock ?_ | refine Sim.exit rfl ?_ | refine Sim.condT rfl ?_ | refine Sim.condF rfl ?_)
  refine Sim.ord (Up w3) ?_
  refine RO.tk 0 ?_
  refine RO.tk 1 ?_
  refine RO.tk 2 ?_ (hy := fun wq hq => y_lookupV (k := k) (v := .pointer (some ⟨x.1, 0, none⟩)) Try.underlying9 (hm9.up hq) rfl rfl (by rw [hget]; rfl))
  refine RO.tk 3 ?_
  refine RO.tk 4 ?_
  refine RO.tk 5 ?_
  refine RO.tk 6 ?_
  refine RO.tk 7 ?_
  refine RO.tk 8 ?_
  refine RO.tk 9 ?_
  refine RO.tk 10 ?_ (hy := fun wq hq => y_lookupOk (k := q.field) (v := .agg #[.string fd, .string (txtO o), .slice va (keysO o).length vc]) (c := o.isSome) Try.underlying9 (hmv.up hq) rfl rfl hlook hlok)
  refine RO.tk 11 ?_
  refine RO.tk 12 ?_
  refine RO.tk 13 ?_
  refine RO.one 14 ?_
  refine RL.al (Up.drew w3) fun b21 w4 _ hle21 h0 _ hb21 => ?_
  refine RL.ord h0 ?_
  refine RO.one 15 ?_
  refine RL.st h0 hb21 hle21 fun w5 h35 _ hb21 => ?_
  have hb21 : Box w5 b21 _ [.string fd, .string (txtO o), .slice va (keysO o).length vc] := hb21
  refine RL.ord h35 ?_
  refine RO.tk 16 ?_
  refine RO.done (RL.nil ?_)
  have hl21 := hb21.lt
  have hs35 := h35.size
  clear hm9 hmv har hlook hlok hkat3 hxat hget
  have ha12 := ha12.up h35
  have hkat3 := hkat.up (hu3.trans h35)
  have ha21 := hb21.at
  repeat (first | refine RL.vv ?_ | refine RL.p ?_ | refine RL.nil ?_ | refine Sim.seq ?_ | refine Sim.region ?_ | refine Sim.block ?_ | refine Sim.skip ?_ | refine Sim.inBlock ?_ | refine Sim.exit rfl ?_ | refine Sim.condT rfl ?_ | refine Sim.condF rfl ?_)
  refine Sim.cutX (σ := Nat) (fun b23 => [(2, .slice (some ⟨xb, xo, none⟩) keys.length kc), (3, .pointer (some ⟨kb, ko, none⟩)), (4, .map (some b9)), (5, .map (some ob)), (12, .pointer (some ⟨b12, 0, none⟩)), (13, .map sm), (111, .slice (some ⟨xb, xo, none⟩) keys.length kc), (112, .int .i64 (keys.length : Int)), (113, .int .i64 (t : Int)), (20, .string k), (21, .pointer (some ⟨b21, 0, none⟩)), (23, .pointer (some ⟨b23, 0, none⟩))])
    (fun b23 w' => Up w5 w' ∧ w5.heap.size ≤ b23 ∧ Box w' b21 62 [.string fd, .string (txtO o), .slice va (keysO o).length vc] ∧ Box w' b23 33 [.string (calledM q), .int .i64 f.kind, .bool (!o.isSome), .string (txtO o), .slice none 0 0, .slice none 0 0]) (fun k' next => ?_) ?_
  · refine Sim.ord (Up w5) ?_
    refine RO.tk 0 ?_
    refine RO.tk 1 ?_
    refine RO.tk 2 ?_
    refine RO.tk 4 ?_
    refine RO.tk 5 ?_
    refine RO.tk 6 ?_
    refine RO.tk 7 ?_
    refine RO.tk 8 ?_
    refine RO.tk 9 ?_
    have h0 := Up.drew w5
    refine RO.two 3 11 ?_ ?_
    · refine RL.cu h0 (Called_any q _ _) fun w6 h0 _ => ?_
      refine RL.ord h0 ?_
      refine RO.tk 10 ?_ (hy := fun wq hq => y_build (v := .agg #[.string (calledM q), .int .i64 f.kind, .bool (!o.isSome), .string (txtO o), .slice none 0 0, .slice none 0 0]) rfl (fun w => by kernel_rfl))
      refine RO.one 11 ?_
      refine RL.al h0 fun b23 w7 _ hle23 h0 _ hb23 => ?_
      refine RL.ord h0 ?_
      refine RO.one 12 ?_
      refine RL.st h0 hb23 hle23 fun w8 h0 _ hb23 => ?_
      refine RL.ord h0 ?_
      refine RO.done (RL.nil ?_)
      exact next b23 _ _ ⟨h0, hle23, hb21.up h0, hb23⟩ sb
    · refine RL.al h0 fun b23 w7 _ hle23 h0 _ hb23 => ?_
      refine RL.ord h0 ?_
      refine RO.one 3 ?_
      refine RL.cu h0 (Called_any q _ _) fun w6 h0 hh => ?_
      have hb23 := hb23.up hh
      refine RL.ord h0 ?_
      refine RO.tk 10 ?_ (hy := fun wq hq => y_build (v := .agg #[.string (calledM q), .int .i64 f.kind, .bool (!o.isSome), .string (txtO o), .slice none 0 0, .slice none 0 0]) rfl (fun w => by kernel_rfl))
      refine RO.one 12 ?_
      refine RL.st h0 hb23 hle23 fun w8 h0 _ hb23 => ?_
      refine RL.ord h0 ?_
      refine RO.done (RL.nil ?_)
      exact next b23 _ _ ⟨h0, hle23, hb21.up h0, hb23⟩ sb
  clear ha12 hkat3 ha21 hb21
  rintro b23 w4 ⟨h54, hle23, hb21, hb23⟩
  have hl23 := hb23.lt
  have ha21 := hb21.at
  have h34 := h35.trans h54
  have hs54 := h54.size
  repeat (first | refine RL.vv ?_ | refine RL.p ?_ | refine RL.nil ?_ | refine Sim.seq ?_ | refine Sim.region ?_ | refine Sim.block ?_ | refine Sim.skip ?_ | refine Sim.inBlock ?_ | refine Sim.exit rfl ?_ | refine Sim.condT rfl ?_ | refine Sim.condF rfl ?_)
  clear ha21
  refine Sim.loop (σ := Nat × Value) (fun st => [(2, .slice (some ⟨xb, xo, none⟩) keys.length kc), (3, .pointer (some ⟨kb, ko, none⟩)), (4, .map (some b9)), (5, .map (some ob)), (12, .pointer (some ⟨b12, 0, none⟩)), (13, .map sm), (111, .slice (some ⟨xb, xo, none⟩) keys.length kc), (112, .int .i64 (keys.length : Int)), (113, .int .i64 (t : Int)), (20, .string k), (23, .pointer (some ⟨b23, 0, none⟩)), (150, .slice va (keysO o).length vc), (151, .int .i64 ((keysO o).length : Int)), (152, .int .i64 (st.1 : Int))])
    (fun st w' => st.1 ≤ (keysO o).length ∧ Up w5 w' ∧ w4.heap.size ≤ w'.heap.size ∧ Box w' b23 33 [.string (calledM q), .int .i64 f.kind, .bool (!o.isSome), .string (txtO o), .slice none 0 0, st.2] ∧
      Own (gtLay (m + 1)).slice 24 w4.heap.size (fun b => w4.heap.size ≤ b) w' st.2 ((((keysO o).take st.1).filter ((semOf l ps).there f.type)).map fun x => thingS (semOf l ps) q.picks f.type x)) (fun st => (keysO o).length - st.1) (0, .slice none 0 0) sb ⟨Nat.zero_le _, h54, Nat.le_refl _, hb23, Own.nil _ _ _ _ _⟩ ?_
  clear hb21 hb23
  rintro ⟨i, sv⟩ w6 ⟨hi, hu, hs46, hb23, hown1⟩ next
  simp only at hi hb23 hown1 next ⊢
  by_cases hlt : i < (keysO o).length
  · have hx : (keysO o)[i]? = some (keysO o)[i] := List.getElem?_eq_getElem hlt
    obtain ⟨yb, yo, cs, rfl, _, hyat, rfl, _⟩ := (hkvs.up (h35.trans hu)).at hx
    have hyat : At w6 yb (yo + i * 1) _ := hyat
    have hsn := filter_snoc (g := (semOf l ps).there f.type) hx
    have hwx := hwant (keysO o)[i] (List.getElem_mem hlt)
    generalize (keysO o)[i] = y at *
    cases sm with
    | none => exact absurd hwx (hsub3 y)
    | some smb =>
    have hne : q.picks ≠ [] := fun e => hwx.1 (hkind.2 e)
    obtain ⟨hsmb, sents, hsm6, hsv⟩ := hsub3.keep (.of_up (h35.trans hu))
    have hsv := hsv y hwx
    dsimp only at hsv
    cases ht : (semOf l ps).there f.type y with
    | false =>
      rw [ht] at hsn hsv
      simp only [Bool.false_eq_true, if_false, List.append_nil] at hsn hsv
      repeat (first | refine RL.vv ?_ | refine RL.p ?_ | refine RL.nil ?_ | refine Sim.seq ?_ | refine Sim.region ?_ | refine Sim.block ?_ | refine Sim.skip ?_ | refine Sim.inBlock ?_ | refine Sim.exit rfl ?_ | refine Sim.condT rfl ?_ | refine Sim.condF rfl ?_)
      refine RL.vv ?_ (hy := y_lookupOk (k := y) (v := .slice none 0 0) (c := false) Try.underlying9 hsm6 rfl rfl (by rw [hsv]; rfl) (by rw [hsv]; rfl))
      repeat (first | refine RL.vv ?_ | refine RL.p ?_ | refine RL.nil ?_ | refine Sim.seq ?_ | refine Sim.region ?_ | refine Sim.block ?_ | refine Sim.skip ?_ | refine Sim.inBlock ?_ | refine Sim.exit rfl ?_ | refine Sim.condT rfl ?_ | refine Sim.condF rfl ?_)
      exact next (i + 1, sv) _ _ ⟨by first | omega | (simp only; omega), hu, hs46, hb23, by simp only; rw [hsn]; exact hown1⟩ (by first | omega | (simp only; omega)) sb
    | true =>
      rw [ht] at hsn hsv
      simp only [if_true] at hsn hsv
      obtain ⟨gv, hg1, hg2⟩ := hsv
      obtain ⟨ga, gc, rfl, _⟩ := id hg2
      have hlen : (((keysO o).take i).filter ((semOf l ps).there f.type)).length ≤ 20 := Nat.le_trans (List.length_filter_le _ _) (by rw [List.length_take]; omega)
      have hsmg : smallG (m + 1) (thingS (semOf l ps) q.picks f.type y) := by
        obtain ⟨_, tp, _, htk, htn⟩ := partM_name (hkt hwx.1)
        have := smallG_thing hI.all m tp y q.picks (by rw [← hI.eq]; exact List.mem_of_getElem? htk) (by rw [← hI.eq, htn]; exact hgo hne) hsm hlv
        rw [← hI.eq, htn] at this
        exact this
      repeat (first | refine RL.vv ?_ | refine RL.p ?_ | refine RL.nil ?_ | refine Sim.seq ?_ | refine Sim.region ?_ | refine Sim.block ?_ | refine Sim.skip ?_ | refine Sim.inBlock ?_ | refine Sim.exit rfl ?_ | refine Sim.condT rfl ?_ | refine Sim.condF rfl ?_)
      refine RL.vv ?_ (hy := y_lookupOk (k := y) (v := .slice ga (thingS (semOf l ps) q.picks f.type y).length gc) (c := true) Try.underlying9 hsm6 rfl rfl (by rw [hg1]; rfl) (by rw [hg1]; rfl))
      repeat (first | refine RL.vv ?_ | refine RL.p ?_ | refine RL.nil ?_ | refine Sim.seq ?_ | refine Sim.region ?_ | refine Sim.block ?_ | refine Sim.skip ?_ | refine Sim.inBlock ?_ | refine Sim.exit rfl ?_ | refine Sim.condT rfl ?_ | refine Sim.condF rfl ?_)
      have h2 : Up w5 w6.drew := hu.trans (Up.drew _)
      have h1 : Up w5 w6.drew ∧ At w6.drew b23 0 [.string (calledM q), .int .i64 f.kind, .bool (!o.isSome), .string (txtO o), .slice none 0 0, sv] := ⟨h2, hb23.at.up (Up.drew _)⟩
      refine Sim.ordD [7] (fun wq => Up w5 wq ∧ At wq b23 0 [.string (calledM q), .int .i64 f.kind, .bool (!o.isSome), .string (txtO o), .slice none 0 0, sv]) (Up w5) ?_ mixed
      refine RD.tk 0 ?_
      refine RD.tk 1 ?_ (hy := fun wq hq => y_loadF rfl hq.2 rfl)
      refine RD.tk 2 ?_
      refine RD.one 3 ?_
      refine RL.cx (gown_any (m + 1) w6.drew (hg2.up (Up.drew _)) hsmg) ?_
      rintro _ w7 ⟨tv, rfl, h67, hto⟩
      refine ⟨_, rfl, ?_⟩
      obtain ⟨ta, tn, tc, rfl⟩ := hto.sh
      have hu7 := h2.trans h67
      have hb23 := (hb23.up (Up.drew _)).up h67
      refine RL.od hu7 ⟨hu7, hb23.at⟩ ?_
      refine RD.one 4 ?_
      refine RL.bu (el := 24) [.slice ta tn tc] hu7 fun b167 w8 he _ hu8 h78 hb167 => ?_
      have hb23 := hb23.up h78
      refine RL.od hu8 ⟨hu8, hb23.at⟩ ?_
      refine RD.one 5 ?_
      have hs67 : w6.heap.size ≤ w7.heap.size := h67.size
      have hown7 := (hown1.up (Up.drew _)).up h67
      have hto8 := hto.up h78
      refine RL.app (L := (gtLay (m + 1)).slice) (el := 24) (S := fun b => w4.heap.size ≤ b) (B := w4.heap.size) (ys := [thingS (semOf l ps) q.picks f.type y]) hu8 (hown7.up h78) (SliceOf.one hb167 ⟨by omega, hown7.ne (Nat.le_of_eq he.symm)⟩ ⟨_, rfl, hto8.sl (fun b hb _ _ => ⟨by have : w6.heap.size ≤ b := hb; omega, hown1.ne hb⟩) fun g hg => by
          have := (hto8.lt g hg).1
          exact ⟨by have : w6.heap.size ≤ g := this; omega, hown1.ne this⟩⟩) (by simp only [List.length_map, List.length_cons, List.length_nil]; omega) hs54 (by have := h78.size; omega) fun sv' w9 hu9 hown2 hg hv => ?_
      have hb23 := hb23.grown hg (hown1.ne' hl23)
      refine RL.od hu9 ⟨hu9, hb23.at⟩ ?_
      refine RD.tk 6 ?_ (h1 := ⟨hu9, hb23.at⟩)
      refine RD.one 7 ?_
      obtain ⟨v1, v2, v3, rfl⟩ := hown2.sh
      refine RL.st hu9 hb23 hle23 fun w10 hu10 hbt hb23 => ?_
      refine RL.ox hu10 ?_
      refine RD.done (RL.nil ?_)
      have hown3 := hown2.but hbt (fun k hk => by omega) (fun g hg => by have := (hown2.lt g hg).1; omega)
      repeat (first | refine RL.vv ?_ | refine RL.p ?_ | refine RL.nil ?_ | refine Sim.seq ?_ | refine Sim.region ?_ | refine Sim.block ?_ | refine Sim.skip ?_ | refine Sim.inBlock ?_ | refine Sim.exit rfl ?_ | refine Sim.condT rfl ?_ | refine Sim.condF rfl ?_)
      exact next (i + 1, .slice v1 v2 v3) _ _ ⟨by first | omega | (simp only; omega), hu10, by have := hbt.size; have := h78.size; have := hg.size; first | omega | (simp only; omega), hb23, by simp only; rw [hsn, List.map_append]; exact hown3⟩ (by first | omega | (simp only; omega)) sb
  have hin : i = (keysO o).length := by omega
  subst hin
  rw [List.take_length] at hown1
  generalize (((keysO o).filter ((semOf l ps).there f.type)).map fun x => thingS (semOf l ps) q.picks f.type x) = subs at *
  clear next
  have hsl : SliceOf (gtLay (m + 1)).slice (fun b => w3.heap.size ≤ b ∧ b ≠ b23) w6 sv subs := hown1.sl (fun b hb _ _ => ⟨by omega, by omega⟩) fun g hg => by
    have := (hown1.lt g hg).1
    exact ⟨by omega, by omega⟩
  clear hown1
  obtain ⟨sa, sc, rfl, hsnc, hscm, _⟩ := id hsl
  unfold maxLen at hscm
  have ha12 := (hb123.up (h35.trans hu)).at
  repeat (first | refine RL.vv ?_ | refine RL.p ?_ | refine RL.nil ?_ | refine Sim.seq ?_ | refine Sim.region ?_ | refine Sim.block ?_ | refine Sim.skip ?_ | refine Sim.inBlock ?_ | refine Sim.exit rfl ?_ | refine Sim.condT rfl ?_ | refine Sim.condF rfl ?_)
  refine Sim.cutX (σ := Bool × Value × Value) (fun _ => [(2, .slice (some ⟨xb, xo, none⟩) keys.length kc), (3, .pointer (some ⟨kb, ko, none⟩)), (4, .map (some b9)), (5, .map (some ob)), (12, .pointer (some ⟨b12, 0, none⟩)), (13, .map sm), (111, .slice (some ⟨xb, xo, none⟩) keys.length kc), (112, .int .i64 (keys.length : Int)), (113, .int .i64 (t : Int)), (20, .string k), (23, .pointer (some ⟨b23, 0, none⟩))])
    (fun st w' => Up w5 w' ∧ Box w' b23 33 [.string (calledM q), .int .i64 f.kind, .bool st.1, .string (txtO o), st.2.1, st.2.2] ∧ (gtLay (m + 2)).is (fun b => w3.heap.size ≤ b ∧ b ≠ b23) w' [.string (calledM q), .int .i64 f.kind, .bool st.1, .string (txtO o), st.2.1, st.2.2] (pickS (semOf l ps) q p.type.name k)) (fun k' next => ?_) ?_
  · refine Sim.condP rfl (fun hk2 => ?_) (fun hk2 => ?_)
    rotate_left
    · have hps1 := hps1 hk2
      repeat (first | refine RL.vv ?_ | refine RL.p ?_ | refine RL.nil ?_ | refine Sim.seq ?_ | refine Sim.region ?_ | refine Sim.block ?_ | refine Sim.skip ?_ | refine Sim.inBlock ?_ | refine Sim.exit rfl ?_ | refine Sim.condT rfl ?_ | refine Sim.condF rfl ?_)
      exact next (!o.isSome, .slice none 0 0, .slice sa subs.length sc) _ _ ⟨hu, hb23, by rw [hps1]; exact gt_succ.2 ⟨_, _, rfl, SliceOf.nil _ _ _, hsl⟩⟩ sb
    obtain ⟨htx, hps2⟩ := hps2 hk2
    cases subs with
    | nil =>
      have h0 : ((([] : List (List Gt)).length : Nat) : Int) = 0 := rfl
      have ha := hb23.at
      repeat (first | refine RL.vv ?_ | refine RL.p ?_ | refine RL.nil ?_ | refine Sim.seq ?_ | refine Sim.region ?_ | refine Sim.block ?_ | refine Sim.skip ?_ | refine Sim.inBlock ?_ | refine Sim.exit rfl ?_ | refine Sim.condT rfl ?_ | refine Sim.condF rfl ?_)
      refine RL.st hu hb23 hle23 fun w7 hu7 hbt hb23 => ?_
      have hb23 : Box w7 b23 _ [.string (calledM q), .int .i64 f.kind, .bool true, .string (txtO o), .slice none 0 0, .slice sa 0 sc] := hb23
      clear ha
      repeat (first | refine RL.vv ?_ | refine RL.p ?_ | refine RL.nil ?_ | refine Sim.seq ?_ | refine Sim.region ?_ | refine Sim.block ?_ | refine Sim.skip ?_ | refine Sim.inBlock ?_ | refine Sim.exit rfl ?_ | refine Sim.condT rfl ?_ | refine Sim.condF rfl ?_)
      refine RL.st hu7 hb23 hle23 fun w8 hu8 hbt hb23 => ?_
      have hb23 : Box w8 b23 _ [.string (calledM q), .int .i64 f.kind, .bool true, .string (txtO o), .slice none 0 0, .slice none 0 0] := hb23
      repeat (first | refine RL.vv ?_ | refine RL.p ?_ | refine RL.nil ?_ | refine Sim.seq ?_ | refine Sim.region ?_ | refine Sim.block ?_ | refine Sim.skip ?_ | refine Sim.inBlock ?_ | refine Sim.exit rfl ?_ | refine Sim.condT rfl ?_ | refine Sim.condF rfl ?_)
      exact next (true, .slice none 0 0, .slice none 0 0) _ _ ⟨hu8, hb23, by rw [hps2, htx, hk2]; exact gt_succ.2 ⟨_, _, rfl, SliceOf.nil _ _ _, SliceOf.nil _ _ _⟩⟩ sb
    | cons s0 r =>
      have h0 : ¬ (((s0 :: r).length : Nat) : Int) = 0 := by simp only [List.length_cons]; omega
      have ha := hb23.at
      repeat (first | refine RL.vv ?_ | refine RL.p ?_ | refine RL.nil ?_ | refine Sim.seq ?_ | refine Sim.region ?_ | refine Sim.block ?_ | refine Sim.skip ?_ | refine Sim.inBlock ?_ | refine Sim.exit rfl ?_ | refine Sim.condT rfl ?_ | refine Sim.condF rfl ?_)
      refine RL.st hu hb23 hle23 fun w7 hu7 hbt hb23 => ?_
      have hb23 : Box w7 b23 _ [.string (calledM q), .int .i64 f.kind, .bool false, .string (txtO o), .slice none 0 0, .slice sa (s0 :: r).length sc] := hb23
      have hsl := hsl.bt hbt fun k hk => hk.2
      obtain ⟨g0, go, cs, rfl, _, hgat, ⟨gv, rfl, hgv⟩, h0l⟩ := hsl.at (i := 0) (x := s0) rfl
      have hgat : At w7 g0 (go + 0 * 1) _ := hgat
      obtain ⟨ga, gc, rfl, _⟩ := id hgv
      have hzi : 0 < (s0 :: r).length := by simp
      clear ha
      repeat (first | refine RL.vv ?_ | refine RL.p ?_ | refine RL.nil ?_ | refine Sim.seq ?_ | refine Sim.region ?_ | refine Sim.block ?_ | refine Sim.skip ?_ | refine Sim.inBlock ?_ | refine Sim.exit rfl ?_ | refine Sim.condT rfl ?_ | refine Sim.condF rfl ?_)
      refine RL.st hu7 hb23 hle23 fun w8 hu8 hbt hb23 => ?_
      have hb23 : Box w8 b23 _ [.string (calledM q), .int .i64 f.kind, .bool false, .string (txtO o), .slice ga s0.length gc, .slice (some ⟨g0, go, none⟩) (s0 :: r).length sc] := hb23
      have hgv := hgv.bt hbt fun k hk => hk.2
      clear hgat
      repeat (first | refine RL.vv ?_ | refine RL.p ?_ | refine RL.nil ?_ | refine Sim.seq ?_ | refine Sim.region ?_ | refine Sim.block ?_ | refine Sim.skip ?_ | refine Sim.inBlock ?_ | refine Sim.exit rfl ?_ | refine Sim.condT rfl ?_ | refine Sim.condF rfl ?_)
      refine RL.st hu8 hb23 hle23 fun w9 hu9 hbt hb23 => ?_
      have hb23 : Box w9 b23 _ [.string (calledM q), .int .i64 f.kind, .bool false, .string (txtO o), .slice ga s0.length gc, .slice none 0 0] := hb23
      have hgv := hgv.bt hbt fun k hk => hk.2
      repeat (first | refine RL.vv ?_ | refine RL.p ?_ | refine RL.nil ?_ | refine Sim.seq ?_ | refine Sim.region ?_ | refine Sim.block ?_ | refine Sim.skip ?_ | refine Sim.inBlock ?_ | refine Sim.exit rfl ?_ | refine Sim.condT rfl ?_ | refine Sim.condF rfl ?_)
      exact next (false, .slice ga s0.length gc, .slice none 0 0) _ _ ⟨hu9, hb23, by rw [hps2, htx, hk2]; exact gt_succ.2 ⟨_, _, rfl, hgv, SliceOf.nil _ _ _⟩⟩ sb
  clear hu hs46 hb23 hsl ha12 hsub3 hwant hk20 hps1 hps2
  rintro ⟨nl, u1, u2⟩ w6 ⟨h56, hb23, hgt⟩
  simp only at hb23 hgt ⊢
  generalize hgg : pickS (semOf l ps) q p.type.name k = g at *
  obtain ⟨_, _, hcs, hu1', hu2'⟩ := gt_succ.1 hgt
  obtain ⟨a1, c1, rfl, _⟩ := id hu1'
  obtain ⟨a2, c2, rfl, _⟩ := id hu2'
  simp only [List.cons.injEq] at hcs
  obtain ⟨_, _, _, _, rfl, rfl, _⟩ := hcs
  clear hu1' hu2'
  have h36 := h35.trans h56
  have hu6 := hu3.trans h36
  have hs36 := h36.size
  have hout6 := hout.up h36
  have ha23 := hb23.at
  have hi := (List.getElem?_eq_some_iff.1 hidx).1
  have hg60 := h60 ((keys.take t).filter (thereM l p)).length
  have hsB : B ≤ w3.heap.size := by omega
  repeat (first | refine RL.vv ?_ | refine RL.p ?_ | refine RL.nil ?_ | refine Sim.seq ?_ | refine Sim.region ?_ | refine Sim.block ?_ | refine Sim.skip ?_ | refine Sim.inBlock ?_ | refine Sim.exit rfl ?_ | refine Sim.condT rfl ?_ | refine Sim.condF rfl ?_)
  refine RL.vv ?_ (hy := y_lookupV (k := k) (v := vs3 ((keys.take t).filter (thereM l p)).length) Try.underlying9 hout6.map rfl rfl (by rw [hget3]; rfl))
  repeat (first | refine RL.vv ?_ | refine RL.p ?_ | refine RL.nil ?_ | refine Sim.seq ?_ | refine Sim.region ?_ | refine Sim.block ?_ | refine Sim.skip ?_ | refine Sim.inBlock ?_ | refine Sim.exit rfl ?_ | refine Sim.condT rfl ?_ | refine Sim.condF rfl ?_)
  refine RL.bu (el := 33) [.string (calledM q), .int .i64 f.kind, .bool nl, .string (txtO o), .slice a1 g.sub.length c1, .slice a2 g.subs.length c2] hu6 fun b194 w7 he194 _ hu7 h67 hb194 => ?_
  have hown6 := hown.up h36
  have hne : ∀ b, w3.heap.size ≤ b → some b ≠ (vs3 ((keys.take t).filter (thereM l p)).length).ownBlock := fun b hb => hown.ne hb
  have hgt7 : (gtLay (m + 2)).is (fun b => w3.heap.size ≤ b ∧ b ≠ b23) w7 [.string (calledM q), .int .i64 f.kind, .bool nl, .string (txtO o), .slice a1 g.sub.length c1, .slice a2 g.subs.length c2] g := (gtLay (m + 2)).keep hgt (.of_up h67)
  have hel : (gtLay (m + 2)).is (fun b => (B ≤ b ∧ lab3 b = none) ∧ some b ≠ (vs3 ((keys.take t).filter (thereM l p)).length).ownBlock) w7 [.string (calledM q), .int .i64 f.kind, .bool nl, .string (txtO o), .slice a1 g.sub.length c1, .slice a2 g.subs.length c2] g := (gtLay (m + 2)).mono hgt7 fun b hb => ⟨⟨by omega, hl3hi _ hb.1⟩, hne _ hb.1⟩
  refine RL.app (L := gtLay (m + 2)) (el := 33) (S := fun b => B ≤ b ∧ lab3 b = none) (B := B) (ys := [g]) hu7 (hown6.up h67) (SliceOf.one hb194 ⟨⟨by omega, hl3hi _ (by omega)⟩, hne _ (by omega)⟩ hel) (by simp only [List.length_cons, List.length_nil]; omega) (by omega) (by have := h67.size; omega) fun v' w8 hu8 hown8 hg hv => ?_
  have hout7 := hout6.up h67
  have hob := hout.obB
  have hob0 := hout.lob
  have hm8 : MapAt w8 ob ((List.range (keys.filter (thereM l p)).length).map fun i => ((keys.filter (thereM l p)).getD i ⟨#[]⟩, vs3 i)) := hout7.map.keep (Grown.keep hg) fun e => by
    have := hownl _ e.symm
    rw [hob0] at this
    cases this
  refine RL.mset (el := 24) (k := k) Try.underlying9 hu8 hm8 (by omega) fun w9 hu9 hbt hm => ?_
  have hout9 := hout7.put hidx hg hown8 hv hbt hm (by have := h67.size; omega)
  have hs67 := h67.size
  have hs78 := hg.size
  have hs89 := hbt.size
  repeat (first | refine RL.vv ?_ | refine RL.p ?_ | refine RL.nil ?_ | refine Sim.seq ?_ | refine Sim.region ?_ | refine Sim.block ?_ | refine Sim.skip ?_ | refine Sim.inBlock ?_ | refine Sim.exit rfl ?_ | refine Sim.condT rfl ?_ | refine Sim.condF rfl ?_)
  refine next3 (t + 1, fun j => if j = ((keys.take t).filter (thereM l p)).length then v' else vs3 j, fun b => if v'.ownBlock = some b then some (((keys.take t).filter (thereM l p)).length + 2) else lab3 b) _ _ ⟨by first | omega | (simp only; omega), ?_, ⟨hout9.base, hout9.map, fun j hj => ?_, hout9.lob⟩, fun b hb => ?_, fun b hb => ?_⟩ (by first | omega | (simp only; omega)) sb
  · refine (hE3.trans (.of_up (h36.trans h67))).trans' (X' := fun b => b = ob ∨ some b = (vs3 ((keys.take t).filter (thereM l p)).length).ownBlock) ((Els.of_grown hg fun g hg => .inr hg.symm).trans (.of_but hbt (.inl rfl))) fun b hb h => ?_
    rw [← hl3 b hb]
    rcases h with rfl | h
    · rw [hob0]; simp
    · rw [hownl b h.symm]; simp
  · have := hout9.own j hj
    refine ⟨?_, this.2⟩
    have h1 := this.1
    rw [hfs, List.length_append, List.length_singleton]
    by_cases hji : j = ((keys.take t).filter (thereM l p)).length
    · subst hji
      rw [if_pos (by omega), List.getD_eq_getElem?_getD, hidx, Option.getD_some, hgg]
      simpa only [if_true] using h1
    · simp only [if_neg hji] at h1 ⊢
      by_cases hjl : j < ((keys.take t).filter (thereM l p)).length
      · rw [if_pos hjl] at h1
        rw [if_pos (by omega)]
        exact h1
      · rw [if_neg hjl] at h1
        rw [if_neg (by omega)]
        exact h1
  · simp only
    split
    · rename_i h1
      rcases hv b h1 with h2 | h2
      · rw [← hl3 b hb]; exact (hownl b h2).symm
      · omega
    · exact hl3 b hb
  · simp only
    split
    · rename_i h1
      have := (hown8.lt b h1).2
      omega
    · exact hl3hi b (by omega)
end Go.Proofs.Ytgckpmcdlciibab
