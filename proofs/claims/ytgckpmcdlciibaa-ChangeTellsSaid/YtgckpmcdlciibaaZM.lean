/- Several texts in one: Plain functions of chapter 3: what is wrong with services. Plain laws of chapter 3: what a right service is. Plain laws of chapter 5: of right services what is found has each field that was asked for. The closed fact of chapter 5. -/
import Derived.Test.YtgckpmcdlciibaaZD
import Derived.Test.YtgckpmcdlciibaaZP
import Derived.Test.YtgckpmcdlciibaaZJ
import Derived.Test.YtgckpmcdlciibaaZG
import Derived.Test.YtgckpmcdlciibaaZB
namespace Go.Proofs.Ytgckpmcdlciibaa
def svcErr (s : Svc) : Int := if (seeM s.types s.changes).2.err = 0 then (thgsErr s.types s.things).err else (seeM s.types s.changes).2.err
def wrongS (l : List Svc) : Flt :=
  if 5 < l.length then ⟨4, 0⟩ else match firstBad (fun _ s => svcErr s) 0 l with
    | some (i, e) => ⟨e, i⟩
    | none => ⟨0, 0⟩
theorem wrongS_ok {l : List Svc} (h : (wrongS l).err = 0) : l.length ≤ 5 ∧ ∀ (j : Nat) s, l[j]? = some s → svcErr s = 0 := by
  unfold wrongS at h
  split at h
  · cases h
  rename_i h5
  split at h
  · rename_i i e he
    obtain ⟨_, _, _, _, _, hne, _⟩ := firstBad_some he
    exact absurd h hne
  · rename_i he
    exact ⟨by omega, fun j s hj => firstBad_eq_none he j s hj⟩
end Go.Proofs.Ytgckpmcdlciibaa

namespace Go.Proofs.Ytgckpmcdlciibaa
structure ValOk (f : Fld) (v : VVal) : Prop where
  name : v.field = f.name
  word : f.kind = 1 → v.keys = []
  text : f.kind ≠ 1 → v.text = ⟨#[]⟩
  one : f.kind = 2 → v.keys.length ≤ 1
  keys : v.keys.length ≤ 20
  size : v.text.size ≤ 40
  named : ∀ k ∈ v.keys, named k = true
theorem valErr_iff {f : Fld} {v : VVal} : valErr f v = 0 ↔ ValOk f v := by
  unfold valErr
  constructor
  · intro h
    by_cases h1 : v.field = f.name
    · rw [if_pos h1] at h
      by_cases h2 : (f.kind = 1 ∧ 0 < v.keys.length) ∨ (¬ f.kind = 1 ∧ ¬ v.text = ⟨#[]⟩)
      · rw [if_pos h2] at h; cases h
      rw [if_neg h2] at h
      by_cases h3 : (f.kind = 2 ∧ 1 < v.keys.length) ∨ 20 < v.keys.length
      · rw [if_pos h3] at h; cases h
      rw [if_neg h3] at h
      by_cases h4 : 40 < v.text.size
      · rw [if_pos h4] at h; cases h
      rw [if_neg h4] at h
      by_cases h5 : v.keys.all Go.Proofs.Ytgckpmcdlciibaa.named = true
      · refine ⟨h1, fun hk => ?_, fun hk => ?_, fun hk => ?_, by omega, by omega, fun k hk => List.all_eq_true.1 h5 k hk⟩
        · refine List.eq_nil_of_length_eq_zero ?_
          by_cases h6 : 0 < v.keys.length
          · exact absurd (.inl ⟨hk, h6⟩) h2
          · omega
        · by_cases h6 : v.text = ⟨#[]⟩
          · exact h6
          · exact absurd (.inr ⟨hk, h6⟩) h2
        · by_cases h6 : 1 < v.keys.length
          · exact absurd (.inl ⟨hk, h6⟩) h3
          · omega
      · rw [if_neg h5] at h; cases h
    · rw [if_neg h1] at h; cases h
  · intro h
    have h7 : v.keys.all Go.Proofs.Ytgckpmcdlciibaa.named = true := List.all_eq_true.2 h.named
    have hk := h.keys
    have hs := h.size
    rw [if_pos h.name, if_neg, if_neg, if_neg (by omega), if_pos h7]
    · rintro (⟨h1, h2⟩ | h2)
      · have := h.one h1; omega
      · omega
    · rintro (⟨h1, h2⟩ | ⟨h1, h2⟩)
      · rw [h.word h1] at h2; exact absurd h2 (by decide)
      · exact h2 (h.text h1)
/-- just one value for each field, in order -/
structure ValsOk (fs : List Fld) (vs : List VVal) : Prop where
  len : vs.length = fs.length
  each : ∀ (i : Nat) f v, fs[i]? = some f → vs[i]? = some v → ValOk f v
theorem valsErr_iff {fs : List Fld} {vs : List VVal} : valsErr fs vs = 0 ↔ ValsOk fs vs := by
  unfold valsErr
  constructor
  · intro h
    by_cases h1 : vs.length = fs.length
    · rw [if_pos h1] at h
      split at h
      · rename_i i e he
        obtain ⟨_, _, _, _, _, hne, _⟩ := firstBad_some he
        exact absurd h hne
      rename_i he
      refine ⟨h1, fun i f v hf hv => ?_⟩
      have := firstBad_eq_none he i v hv
      rw [Nat.zero_add, hf] at this
      exact valErr_iff.1 this
    · rw [if_neg h1] at h; cases h
  · intro h
    rw [if_pos h.len, firstBad_none]
    intro j v hv
    have hlt := (List.getElem?_eq_some_iff.1 hv).1
    rw [List.getElem?_eq_getElem (by rw [← h.len]; exact hlt)]
    exact valErr_iff.2 (h.each j _ v (List.getElem?_eq_getElem _) hv)
theorem ValsOk.names {fs : List Fld} {vs : List VVal} (h : ValsOk fs vs) : vs.map (·.field) = fs.map (·.name) := by
  refine List.ext_getElem (by simp [h.len]) fun i h1 h2 => ?_
  simp only [List.length_map] at h1 h2
  simp only [List.getElem_map]
  exact (h.each i _ _ (List.getElem?_eq_getElem h2) (List.getElem?_eq_getElem h1)).name
theorem filter_one {vs : List VVal} (h : (vs.map (·.field)).Nodup) {v : VVal} (hv : v ∈ vs) : (vs.filter fun u => decide (u.field = v.field)) = [v] := by
  induction vs with
  | nil => simp at hv
  | cons x vs ih =>
    rw [List.map_cons, List.nodup_cons] at h
    rw [List.filter_cons]
    rcases List.mem_cons.1 hv with rfl | hv'
    · simp only [decide_true, if_true]
      congr 1
      refine List.filter_eq_nil_iff.2 fun u hu hd => h.1 ?_
      rw [← of_decide_eq_true hd]
      exact List.mem_map_of_mem hu
    · have : ¬ x.field = v.field := fun e => h.1 (by rw [e]; exact List.mem_map_of_mem hv')
      simp only [this, decide_false, Bool.false_eq_true, if_false]
      exact ih h.2 hv'
structure RightS (s : Svc) : Prop where
  types : Right s.types
  see : (seeM s.types s.changes).2.err = 0
  len : s.things.length ≤ 60
  things : ∀ x ∈ s.things, named x.key = true ∧ ∃ (j : Nat) (t : Typ), findT s.types x.type = (j : Int) ∧ s.types[j]? = some t ∧ t.name = x.type ∧ ValsOk t.fields x.vals
  once : ∀ (i : Nat) x, s.things[i]? = some x → ¬ 0 ≤ thingAt (s.things.take i) x.type x.key
theorem svcErr_iff {s : Svc} : svcErr s = 0 ↔ RightS s := by
  unfold svcErr
  constructor
  · intro h
    by_cases h1 : (seeM s.types s.changes).2.err = 0
    · rw [if_pos h1] at h
      obtain ⟨h2, h3⟩ := thgsErr_ok.1 h
      have hr := right_iff.1 (seeM_cases h1).1
      refine ⟨hr, h1, by omega, fun x hx => ?_, fun i x hx => ?_⟩
      · obtain ⟨i, hi⟩ := List.getElem?_of_mem hx
        have h4 := h3 i x hi
        unfold thgErr at h4
        split at h4
        · cases h4
        rename_i h5
        obtain ⟨j, t, hj, ht, hn, _⟩ := findT_get h5
        split at h4
        · rename_i h6
          rw [hj, Int.toNat_natCast, ht] at h4
          exact ⟨h6.1, j, t, hj, ht, hn, valsErr_iff.1 h4⟩
        · cases h4
      · have h4 := h3 i x hx
        unfold thgErr at h4
        split at h4
        · cases h4
        split at h4
        · rename_i h6
          exact h6.2
        · cases h4
    · rw [if_neg h1] at h; exact absurd h h1
  · intro h
    rw [if_pos h.see]
    refine thgsErr_ok.2 ⟨by have := h.len; omega, fun i x hx => ?_⟩
    obtain ⟨h1, j, t, hj, ht, _, hv⟩ := h.things x (List.mem_of_getElem? hx)
    unfold thgErr
    rw [if_neg (by omega), if_pos ⟨h1, h.once i x hx⟩, hj, Int.toNat_natCast, ht]
    exact valsErr_iff.2 hv
theorem wrongS_iff {l : List Svc} : (wrongS l).err = 0 ↔ l.length ≤ 5 ∧ ∀ s ∈ l, RightS s := by
  constructor
  · intro h
    obtain ⟨h1, h2⟩ := wrongS_ok h
    refine ⟨h1, fun s hs => ?_⟩
    obtain ⟨i, hi⟩ := List.getElem?_of_mem hs
    exact svcErr_iff.1 (h2 i s hi)
  · rintro ⟨h1, h2⟩
    unfold wrongS
    rw [if_neg (by omega), firstBad_none fun j s hj => svcErr_iff.2 (h2 s (List.mem_of_getElem? hj))]
end Go.Proofs.Ytgckpmcdlciibaa

namespace Go.Proofs.Ytgckpmcdlciibaa
theorem ValsOk.get {fs : List Fld} {vs : List VVal} (h : ValsOk fs vs) (hn : (fs.map (·.name)).Nodup) {f : Str} (hf : f ∈ fs.map (·.name)) : ∃ v ∈ vs, v.field = f ∧ (vs.filter fun u => decide (u.field = f)) = [v] := by
  rw [← h.names] at hf hn
  obtain ⟨v, hv, rfl⟩ := List.mem_map.1 hf
  exact ⟨v, hv, rfl, filter_one hn hv⟩
theorem thingM_mem {xs : List Thg} {t k : Str} {x : Thg} (h : thingM xs t k = some x) : x ∈ xs ∧ x.type = t ∧ x.key = k := by
  unfold thingM at h
  split at h
  · cases h
  rename_i h0
  obtain ⟨j, y, hj, hy, hp, _⟩ := firstIdx_lt (l := xs) (p := fun x => decide (x.type = t ∧ x.key = k)) (by unfold thingAt at h0; omega)
  have hj : thingAt xs t k = (j : Int) := hj
  rw [hj, Int.toNat_natCast, hy] at h
  cases h
  exact ⟨List.mem_of_getElem? hy, (of_decide_eq_true hp).1, (of_decide_eq_true hp).2⟩
theorem flatMap_fields {h : Str → List VVal} : ∀ {fs : List Str}, (∀ f ∈ fs, ∃ v : VVal, h f = [v] ∧ v.field = f) → (fs.flatMap h).map (·.field) = fs
  | [], _ => rfl
  | f :: fs, hh => by
    obtain ⟨v, h1, h2⟩ := hh f (by simp)
    rw [List.flatMap_cons, h1, List.map_append, flatMap_fields fun g hg => hh g (by simp [hg])]
    simp [h2]
theorem rqTail_mem {fs : List Fld} {fl kl : List Str} (h : rqTail fs fl kl = 0) : ∀ f ∈ fl, f ∈ fs.map (·.name) := fun f hf => by
  obtain ⟨i, hi⟩ := List.getElem?_of_mem hf
  have := (rqTail_zero h).1 i f hi
  unfold rqErr at this
  split at this
  · cases this
  · rename_i h0
    exact find_mem.1 (by unfold fieldF at h0; omega)
/-- a right service's thing has each field of its type once -/
theorem thing_fields {s : Svc} (h : RightS s) {t : Typ} {n k : Str} {x : Thg} (ht : s.types[(findT s.types n).toNat]? = some t) (hx : thingM s.things n k = some x) : ValsOk t.fields x.vals ∧ (t.fields.map (·.name)).Nodup := by
  obtain ⟨h1, h2, _⟩ := thingM_mem hx
  obtain ⟨_, j, t', h3, h4, _, h5⟩ := h.things x h1
  rw [h2] at h3
  rw [h3, Int.toNat_natCast, h4] at ht
  cases ht
  exact ⟨h5, (h.types.fields _ (List.mem_of_getElem? h4)).nodup⟩
theorem serve_fields {l : List Svc} {q : Rq} (he : (answerM l q).2 = 0) (hw : (wrongS l).err = 0) :
    (answerM l q).1.found.length = q.keys.length ∧ (answerM l q).1.vals.length = q.keys.length ∧ ∀ (i : Nat) b vs, (answerM l q).1.found[i]? = some b → (answerM l q).1.vals[i]? = some vs → (b = false → vs = []) ∧ (b = true → vs.map (·.field) = q.fields) := by
  unfold answerM at he ⊢
  by_cases h0 : wrongRq l q = 0
  rotate_left
  · rw [if_neg h0] at he; exact absurd he h0
  rw [if_pos h0] at he ⊢
  obtain ⟨s, t, h1, h2, h3, h4, h5⟩ := wrongRq_zero h0
  rw [h2] at he ⊢
  have hr := (wrongS_iff.1 hw).2 s (List.mem_of_getElem? h2)
  refine ⟨by simp, by simp, fun i b vs hb hv => ?_⟩
  simp only [List.getElem?_map, Option.map_eq_some_iff] at hb hv
  obtain ⟨k, hk, rfl⟩ := hb
  obtain ⟨k', hk', rfl⟩ := hv
  rw [hk] at hk'
  cases hk'
  unfold ansKey
  simp only
  cases hx : thingM s.things q.type k with
  | none => exact ⟨fun _ => rfl, fun h => by cases h⟩
  | some x =>
    refine ⟨(by intro h; cases h), fun _ => ?_⟩
    obtain ⟨h6, h7⟩ := thing_fields hr h4 hx
    refine flatMap_fields fun f hf => ?_
    obtain ⟨v, _, h8, h9⟩ := h6.get h7 (rqTail_mem h5 f hf)
    exact ⟨v, h9, h8⟩
theorem answerM_err {l : List Svc} {q : Rq} (h : ¬ (answerM l q).2 = 0) : (answerM l q).1 = ⟨[], []⟩ := by
  unfold answerM at h ⊢
  split
  · rename_i h0
    rw [if_pos h0] at h
    split
    · rfl
    · rename_i s hs
      rw [hs] at h
      exact absurd rfl h
  · rfl
end Go.Proofs.Ytgckpmcdlciibaa

namespace Go.Proofs.Ytgckpmcdlciibaa
open Go.RowKit
def zUser : Str := ⟨#[117, 115, 101, 114]⟩
def zName : Str := ⟨#[110, 97, 109, 101]⟩
def zAnn : Str := ⟨#[97, 110, 110]⟩
def zBob : Str := ⟨#[98, 111, 98]⟩
def zAnnT : Str := ⟨#[65, 110, 110]⟩
def zNone : Str := ⟨#[]⟩
def dOne : List Svc := [⟨[⟨zUser, [⟨zName, 1, zNone⟩]⟩], [], [⟨zUser, zAnn, [⟨zName, zAnnT, []⟩]⟩]⟩]
def qOne : Rq := ⟨0, zUser, [zBob, zAnn], [zName]⟩
set_option maxHeartbeats 400000 in
theorem one5_any (w : World) : Calls Try.prog 56 #[] w fun en w' => ∃ v, en = .returned v ∧ Up w w' ∧ SliceOf svcLay All w' v dOne := by
  refine calls_of_sim Try.func56 rfl (Nat.le_of_ble_eq_true rfl) ?_
  repeat (first | refine RL.vv ?_ | refine RL.p ?_ | refine RL.nil ?_ | refine Sim.seq ?_ | refine Sim.region ?_ | refine Sim.block ?_ | refine Sim.skip ?_ | refine Sim.inBlock ?_ | refine Sim.exit rfl ?_ | refine Sim.condT rfl ?_ | refine Sim.condF rfl ?_)
  refine RL.val trivial rfl (y_build (v := .agg #[.string zName, .int .i64 1, .string zNone]) rfl (fun w => by kernel_rfl)) ?_
  refine RL.bu (el := 118) [.string zName, .int .i64 1, .string zNone] (.refl w) fun b1 w1 _ _ hu _ hb1 => ?_
  have h1 : SliceOf fldLay All w1 _ [⟨zName, 1, zNone⟩] := SliceOf.one hb1 trivial rfl
  refine RL.val trivial rfl (y_build (v := .agg #[.string zUser, .slice (some ⟨b1, 0, none⟩) 1 1]) rfl (fun w => by kernel_rfl)) ?_
  refine RL.bu (el := 55) [.string zUser, .slice (some ⟨b1, 0, none⟩) 1 1] hu fun b2 w2 _ _ hu h hb2 => ?_
  have h2 : SliceOf typLay All w2 _ [⟨zUser, [⟨zName, 1, zNone⟩]⟩] := SliceOf.one hb2 trivial ⟨_, rfl, h1.up h⟩
  refine RL.val trivial rfl (y_build (v := .agg #[.string zName, .string zAnnT, .slice none 0 0]) rfl (fun w => by kernel_rfl)) ?_
  refine RL.bu (el := 105) [.string zName, .string zAnnT, .slice none 0 0] hu fun b3 w3 _ _ hu h hb3 => ?_
  have h2 := h2.up h
  have h3 : SliceOf valLay All w3 _ [⟨zName, zAnnT, []⟩] := SliceOf.one hb3 trivial ⟨_, rfl, SliceOf.nil _ _ _⟩
  refine RL.val trivial rfl (y_build (v := .agg #[.string zUser, .string zAnn, .slice (some ⟨b3, 0, none⟩) 1 1]) rfl (fun w => by kernel_rfl)) ?_
  refine RL.bu (el := 103) [.string zUser, .string zAnn, .slice (some ⟨b3, 0, none⟩) 1 1] hu fun b4 w4 _ _ hu h hb4 => ?_
  have h2 := h2.up h
  have h4 : SliceOf thgLay All w4 _ [⟨zUser, zAnn, [⟨zName, zAnnT, []⟩]⟩] := SliceOf.one hb4 trivial ⟨_, rfl, h3.up h⟩
  refine RL.val trivial rfl (y_build (v := .agg #[.slice (some ⟨b2, 0, none⟩) 1 1, .slice none 0 0, .slice (some ⟨b4, 0, none⟩) 1 1]) rfl (fun w => by kernel_rfl)) ?_
  refine RL.bu (el := 100) [.slice (some ⟨b2, 0, none⟩) 1 1, .slice none 0 0, .slice (some ⟨b4, 0, none⟩) 1 1] hu fun b5 w5 _ _ hu h hb5 => ?_
  have h5 : SliceOf svcLay All w5 _ dOne := SliceOf.one hb5 trivial ⟨_, _, _, rfl, h2.up h, SliceOf.nil _ _ _, h4.up h⟩
  repeat (first | refine RL.vv ?_ | refine RL.p ?_ | refine RL.nil ?_ | refine Sim.seq ?_ | refine Sim.region ?_ | refine Sim.block ?_ | refine Sim.skip ?_ | refine Sim.inBlock ?_ | refine Sim.exit rfl ?_ | refine Sim.condT rfl ?_ | refine Sim.condF rfl ?_)
  exact Sim.ret1 Try.func56 rfl rfl ⟨_, rfl, hu, h5⟩
theorem okOne : ∀ s ∈ dOne, okSvc s := by
  simp only [okSvc, okL, okWT, okWX, okWV, okFld, okChg, okS]
  decide +kernel
theorem ansOne : answerM dOne qOne = (⟨[false, true], [[], [⟨zName, zAnnT, []⟩]]⟩, 0) := by decide +kernel
set_option maxHeartbeats 1000000 in
theorem alive5_any (w : World) : Calls Try.prog 20 #[] w fun en w' => en = .returned (.bool true) ∧ Up w w' := by
  refine calls_of_sim Try.func20 rfl (Nat.le_of_ble_eq_true rfl) ?_
  repeat (first | refine RL.vv ?_ | refine RL.p ?_ | refine RL.nil ?_ | refine Sim.seq ?_ | refine Sim.region ?_ | refine Sim.block ?_ | refine Sim.skip ?_ | refine Sim.inBlock ?_ | refine Sim.exit rfl ?_ | refine Sim.condT rfl ?_ | refine Sim.condF rfl ?_)
  refine RL.cx (one5_any w) ?_
  rintro _ w1 ⟨v, rfl, hu, hl⟩
  refine ⟨_, rfl, ?_⟩
  obtain ⟨la, lc, rfl, _⟩ := id hl
  refine RL.bu (el := 9) ([.string zBob] ++ [.string zAnn]) hu fun b1 w2 _ _ hu h hb1 => ?_
  have hl := hl.up h
  refine RL.bu (el := 9) [.string zName] hu fun b2 w3 _ _ hu h hb2 => ?_
  have hl := hl.up h
  have hk : SliceOf strLay All w3 (.slice (some ⟨b1, 0, none⟩) 2 2) [zBob, zAnn] := SliceOf.lit2 _ _ _ _ (hb1.up h).at trivial rfl rfl
  have hf : SliceOf strLay All w3 (.slice (some ⟨b2, 0, none⟩) 1 1) [zName] := SliceOf.one hb2 trivial rfl
  refine RL.val trivial rfl (y_build (v := .agg #[.int .i64 0, .string zUser, .slice (some ⟨b1, 0, none⟩) 2 2, .slice (some ⟨b2, 0, none⟩) 1 1]) rfl (fun w => by kernel_rfl)) ?_
  refine RL.cx (SAnswer_any qOne w3 hl hk hf okOne (by decide)) ?_
  rintro _ w4 ⟨a, b, rfl, h34, hr⟩
  refine ⟨_, rfl, ?_⟩
  have hu := hu.trans h34
  rw [ansOne] at hr ⊢
  obtain ⟨aa, ac, rfl⟩ := hr.1.shape
  obtain ⟨ba, bc, rfl⟩ := hr.2.1.shape
  clear hk hf hl hb1 hb2 h h34
  have hfs := (hr.1.no (S' := No)).sl (S' := All) (fun _ h _ _ => h.elim) (fun _ _ => trivial)
  have hvs := hr.2.1.sl (S' := All) (fun _ _ _ _ => trivial) (fun _ _ => trivial)
  obtain ⟨fb, fo, cs, rfl, _, hf0, rfl, _⟩ := hfs.at (i := 0) (x := false) rfl
  obtain ⟨fb', fo', cs, he, _, hf1, rfl, _⟩ := hfs.at (i := 1) (x := true) rfl
  simp only [Option.some.injEq, Addr.mk.injEq] at he
  obtain ⟨rfl, rfl, _⟩ := he
  obtain ⟨vb, vo, cs, rfl, _, hv1, ⟨xv, rfl, hxv⟩, _⟩ := hvs.at (i := 1) (x := [⟨zName, zAnnT, []⟩]) rfl
  obtain ⟨xa, xc, rfl, _⟩ := id hxv
  obtain ⟨xb, xo, cs, rfl, _, hx0, ⟨kv, rfl, _⟩, _⟩ := hxv.at (i := 0) (x := ⟨zName, zAnnT, []⟩) rfl
  have hf0 : At w4 fb (fo + 0 * 1) _ := hf0
  have hf1 : At w4 fb (fo + 1 * 1) _ := hf1
  have hv1 : At w4 vb (vo + 1 * 1) _ := hv1
  have hx0 : At w4 xb (xo + 0 * 3) _ := hx0
  repeat (first | refine RL.vv ?_ | refine RL.p ?_ | refine RL.nil ?_ | refine Sim.seq ?_ | refine Sim.region ?_ | refine Sim.block ?_ | refine Sim.skip ?_ | refine Sim.inBlock ?_ | refine Sim.exit rfl ?_ | refine Sim.condT rfl ?_ | refine Sim.condF rfl ?_)
  refine RL.al (.refl w4) fun b3 w5 _ hle3 h45 _ hb3 => ?_
  repeat (first | refine RL.vv ?_ | refine RL.p ?_ | refine RL.nil ?_ | refine Sim.seq ?_ | refine Sim.region ?_ | refine Sim.block ?_ | refine Sim.skip ?_ | refine Sim.inBlock ?_ | refine Sim.exit rfl ?_ | refine Sim.condT rfl ?_ | refine Sim.condF rfl ?_)
  refine RL.st h45 hb3 hle3 fun w6 h46 hbt hb3 => ?_
  have hu := hu.trans h46
  have hf0 := hf0.up h46
  have hf1 := hf1.up h46
  have hv1 := hv1.up h46
  have hx0 := hx0.up h46
  clear hr hfs hvs hxv h45 hbt
  have ha3 := hb3.at
  have hT : zAnnT = ⟨#[65, 110, 110]⟩ := rfl
  repeat (first | refine RL.vv ?_ | refine RL.p ?_ | refine RL.nil ?_ | refine Sim.seq ?_ | refine Sim.region ?_ | refine Sim.block ?_ | refine Sim.skip ?_ | refine Sim.inBlock ?_ | refine Sim.exit rfl ?_ | refine Sim.condT rfl ?_ | refine Sim.condF rfl ?_)
  exact Sim.ret1 Try.func20 rfl rfl ⟨rfl, hu⟩
end Go.Proofs.Ytgckpmcdlciibaa
