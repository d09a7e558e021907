/- Several texts in one: Plain functions of chapter 3: what is wrong with services. Plain laws of chapter 3: what a right service is. Plain laws of chapter 5: of right services what is found has each field that was asked for. Contracts of chapter 3: what is wrong with services. -/
import Derived.Test.YtgckpmcdlciibabZD
import Derived.Test.YtgckpmcdlciibabZP
import Derived.Test.YtgckpmcdlciibabZJ
import Derived.Test.YtgckpmcdlciibabZI
namespace Go.Proofs.Ytgckpmcdlciibab
def svcErr (s : Svc) : Int := if (seeM s.types s.changes).2.err = 0 then (thgsErr s.types s.things).err else (seeM s.types s.changes).2.err
def wrongS (l : List Svc) : Flt :=
  if 5 < l.length then ⟨4, 0⟩ else match firstBad (fun _ s => svcErr s) 0 l with
    | some (i, e) => ⟨e, i⟩
    | none => ⟨0, 0⟩
theorem wrongS_ok {l : List Svc} (h : (wrongS l).err = 0) : l.length ≤ 5 ∧ ∀ (j : Nat) s, l[j]? = some s → svcErr s = 0 := by
  unfold wrongS at h
  split at h
  · cases h
  rename_i h5
  split at h
  · rename_i i e he
    obtain ⟨_, _, _, _, _, hne, _⟩ := firstBad_some he
    exact absurd h hne
  · rename_i he
    exact ⟨by omega, fun j s hj => firstBad_eq_none he j s hj⟩
end Go.Proofs.Ytgckpmcdlciibab

namespace Go.Proofs.Ytgckpmcdlciibab
structure ValOk (f : Fld) (v : VVal) : Prop where
  name : v.field = f.name
  word : f.kind = 1 → v.keys = []
  text : f.kind ≠ 1 → v.text = ⟨#[]⟩
  one : f.kind = 2 → v.keys.length ≤ 1
  keys : v.keys.length ≤ 20
  size : v.text.size ≤ 40
  named : ∀ k ∈ v.keys, named k = true
theorem valErr_iff {f : Fld} {v : VVal} : valErr f v = 0 ↔ ValOk f v := by
  unfold valErr
  constructor
  · intro h
    by_cases h1 : v.field = f.name
    · rw [if_pos h1] at h
      by_cases h2 : (f.kind = 1 ∧ 0 < v.keys.length) ∨ (¬ f.kind = 1 ∧ ¬ v.text = ⟨#[]⟩)
      · rw [if_pos h2] at h; cases h
      rw [if_neg h2] at h
      by_cases h3 : (f.kind = 2 ∧ 1 < v.keys.length) ∨ 20 < v.keys.length
      · rw [if_pos h3] at h; cases h
      rw [if_neg h3] at h
      by_cases h4 : 40 < v.text.size
      · rw [if_pos h4] at h; cases h
      rw [if_neg h4] at h
      by_cases h5 : v.keys.all Go.Proofs.Ytgckpmcdlciibab.named = true
      · refine ⟨h1, fun hk => ?_, fun hk => ?_, fun hk => ?_, by omega, by omega, fun k hk => List.all_eq_true.1 h5 k hk⟩
        · refine List.eq_nil_of_length_eq_zero ?_
          by_cases h6 : 0 < v.keys.length
          · exact absurd (.inl ⟨hk, h6⟩) h2
          · omega
        · by_cases h6 : v.text = ⟨#[]⟩
          · exact h6
          · exact absurd (.inr ⟨hk, h6⟩) h2
        · by_cases h6 : 1 < v.keys.length
          · exact absurd (.inl ⟨hk, h6⟩) h3
          · omega
      · rw [if_neg h5] at h; cases h
    · rw [if_neg h1] at h; cases h
  · intro h
    have h7 : v.keys.all Go.Proofs.Ytgckpmcdlciibab.named = true := List.all_eq_true.2 h.named
    have hk := h.keys
    have hs := h.size
    rw [if_pos h.name, if_neg, if_neg, if_neg (by omega), if_pos h7]
    · rintro (⟨h1, h2⟩ | h2)
      · have := h.one h1; omega
      · omega
    · rintro (⟨h1, h2⟩ | ⟨h1, h2⟩)
      · rw [h.word h1] at h2; exact absurd h2 (by decide)
      · exact h2 (h.text h1)
/-- just one value for each field, in order -/
structure ValsOk (fs : List Fld) (vs : List VVal) : Prop where
  len : vs.length = fs.length
  each : ∀ (i : Nat) f v, fs[i]? = some f → vs[i]? = some v → ValOk f v
theorem valsErr_iff {fs : List Fld} {vs : List VVal} : valsErr fs vs = 0 ↔ ValsOk fs vs := by
  unfold valsErr
  constructor
  · intro h
    by_cases h1 : vs.length = fs.length
    · rw [if_pos h1] at h
      split at h
      · rename_i i e he
        obtain ⟨_, _, _, _, _, hne, _⟩ := firstBad_some he
        exact absurd h hne
      rename_i he
      refine ⟨h1, fun i f v hf hv => ?_⟩
      have := firstBad_eq_none he i v hv
      rw [Nat.zero_add, hf] at this
      exact valErr_iff.1 this
    · rw [if_neg h1] at h; cases h
  · intro h
    rw [if_pos h.len, firstBad_none]
    intro j v hv
    have hlt := (List.getElem?_eq_some_iff.1 hv).1
    rw [List.getElem?_eq_getElem (by rw [← h.len]; exact hlt)]
    exact valErr_iff.2 (h.each j _ v (List.getElem?_eq_getElem _) hv)
theorem ValsOk.names {fs : List Fld} {vs : List VVal} (h : ValsOk fs vs) : vs.map (·.field) = fs.map (·.name) := by
  refine List.ext_getElem (by simp [h.len]) fun i h1 h2 => ?_
  simp only [List.length_map] at h1 h2
  simp only [List.getElem_map]
  exact (h.each i _ _ (List.getElem?_eq_getElem h2) (List.getElem?_eq_getElem h1)).name
theorem filter_one {vs : List VVal} (h : (vs.map (·.field)).Nodup) {v : VVal} (hv : v ∈ vs) : (vs.filter fun u => decide (u.field = v.field)) = [v] := by
  induction vs with
  | nil => simp at hv
  | cons x vs ih =>
    rw [List.map_cons, List.nodup_cons] at h
    rw [List.filter_cons]
    rcases List.mem_cons.1 hv with rfl | hv'
    · simp only [decide_true, if_true]
      congr 1
      refine List.filter_eq_nil_iff.2 fun u hu hd => h.1 ?_
      rw [← of_decide_eq_true hd]
      exact List.mem_map_of_mem hu
    · have : ¬ x.field = v.field := fun e => h.1 (by rw [e]; exact List.mem_map_of_mem hv')
      simp only [this, decide_false, Bool.false_eq_true, if_false]
      exact ih h.2 hv'
structure RightS (s : Svc) : Prop where
  types : Right s.types
  see : (seeM s.types s.changes).2.err = 0
  len : s.things.length ≤ 60
  things : ∀ x ∈ s.things, named x.key = true ∧ ∃ (j : Nat) (t : Typ), findT s.types x.type = (j : Int) ∧ s.types[j]? = some t ∧ t.name = x.type ∧ ValsOk t.fields x.vals
  once : ∀ (i : Nat) x, s.things[i]? = some x → ¬ 0 ≤ thingAt (s.things.take i) x.type x.key
theorem svcErr_iff {s : Svc} : svcErr s = 0 ↔ RightS s := by
  unfold svcErr
  constructor
  · intro h
    by_cases h1 : (seeM s.types s.changes).2.err = 0
    · rw [if_pos h1] at h
      obtain ⟨h2, h3⟩ := thgsErr_ok.1 h
      have hr := right_iff.1 (seeM_cases h1).1
      refine ⟨hr, h1, by omega, fun x hx => ?_, fun i x hx => ?_⟩
      · obtain ⟨i, hi⟩ := List.getElem?_of_mem hx
        have h4 := h3 i x hi
        unfold thgErr at h4
        split at h4
        · cases h4
        rename_i h5
        obtain ⟨j, t, hj, ht, hn, _⟩ := findT_get h5
        split at h4
        · rename_i h6
          rw [hj, Int.toNat_natCast, ht] at h4
          exact ⟨h6.1, j, t, hj, ht, hn, valsErr_iff.1 h4⟩
        · cases h4
      · have h4 := h3 i x hx
        unfold thgErr at h4
        split at h4
        · cases h4
        split at h4
        · rename_i h6
          exact h6.2
        · cases h4
    · rw [if_neg h1] at h; exact absurd h h1
  · intro h
    rw [if_pos h.see]
    refine thgsErr_ok.2 ⟨by have := h.len; omega, fun i x hx => ?_⟩
    obtain ⟨h1, j, t, hj, ht, _, hv⟩ := h.things x (List.mem_of_getElem? hx)
    unfold thgErr
    rw [if_neg (by omega), if_pos ⟨h1, h.once i x hx⟩, hj, Int.toNat_natCast, ht]
    exact valsErr_iff.2 hv
theorem wrongS_iff {l : List Svc} : (wrongS l).err = 0 ↔ l.length ≤ 5 ∧ ∀ s ∈ l, RightS s := by
  constructor
  · intro h
    obtain ⟨h1, h2⟩ := wrongS_ok h
    refine ⟨h1, fun s hs => ?_⟩
    obtain ⟨i, hi⟩ := List.getElem?_of_mem hs
    exact svcErr_iff.1 (h2 i s hi)
  · rintro ⟨h1, h2⟩
    unfold wrongS
    rw [if_neg (by omega), firstBad_none fun j s hj => svcErr_iff.2 (h2 s (List.mem_of_getElem? hj))]
end Go.Proofs.Ytgckpmcdlciibab

namespace Go.Proofs.Ytgckpmcdlciibab
theorem ValsOk.get {fs : List Fld} {vs : List VVal} (h : ValsOk fs vs) (hn : (fs.map (·.name)).Nodup) {f : Str} (hf : f ∈ fs.map (·.name)) : ∃ v ∈ vs, v.field = f ∧ (vs.filter fun u => decide (u.field = f)) = [v] := by
  rw [← h.names] at hf hn
  obtain ⟨v, hv, rfl⟩ := List.mem_map.1 hf
  exact ⟨v, hv, rfl, filter_one hn hv⟩
theorem thingM_mem {xs : List Thg} {t k : Str} {x : Thg} (h : thingM xs t k = some x) : x ∈ xs ∧ x.type = t ∧ x.key = k := by
  unfold thingM at h
  split at h
  · cases h
  rename_i h0
  obtain ⟨j, y, hj, hy, hp, _⟩ := firstIdx_lt (l := xs) (p := fun x => decide (x.type = t ∧ x.key = k)) (by unfold thingAt at h0; omega)
  have hj : thingAt xs t k = (j : Int) := hj
  rw [hj, Int.toNat_natCast, hy] at h
  cases h
  exact ⟨List.mem_of_getElem? hy, (of_decide_eq_true hp).1, (of_decide_eq_true hp).2⟩
end Go.Proofs.Ytgckpmcdlciibab

namespace Go.Proofs.Ytgckpmcdlciibab
open Go.RowKit
set_option maxHeartbeats 2000000 in
theorem MWrong_any {S : Nat → Prop} {lv : Value} {l : List Svc} (w : World) (hl : SliceOf svcLay S w lv l) :
    Calls Try.prog 27 #[lv] w fun en w' => en = .returned (fltV (wrongS l)) ∧ Up w w' := by
  refine calls_of_sim Try.func27 rfl (Nat.le_of_ble_eq_true rfl) ?_
  obtain ⟨la, lc, rfl, hlnc, hlcm, _⟩ := id hl
  unfold maxLen at hlcm
  unfold fltV
  repeat (first | refine RL.vv ?_ | refine RL.p ?_ | refine RL.nil ?_ | refine Sim.seq ?_ | refine Sim.region ?_ | refine Sim.block ?_ | refine Sim.skip ?_ | refine Sim.inBlock ?_ | refine Sim.exit rfl ?_ | refine Sim.condT rfl ?_ | refine Sim.condF rfl ?_)
  refine RL.al (.refl w) fun b2 w1 _ hle2 hu1 _ hb2 => ?_
  by_cases h5 : (5 : Int) < l.length
  · repeat (first | refine RL.vv ?_ | refine RL.p ?_ | refine RL.nil ?_ | refine Sim.seq ?_ | refine Sim.region ?_ | refine Sim.block ?_ | refine Sim.skip ?_ | refine Sim.inBlock ?_ | refine Sim.exit rfl ?_ | refine Sim.condT rfl ?_ | refine Sim.condF rfl ?_)
    refine RL.val trivial rfl (y_build (v := .agg #[.int .i64 4, .int .i64 0]) rfl (fun w => by kernel_rfl)) ?_
    refine RL.st hu1 hb2 hle2 fun w2 hu2 _ hb2 => ?_
    repeat (first | refine RL.vv ?_ | refine RL.p ?_ | refine RL.nil ?_ | refine Sim.seq ?_ | refine Sim.region ?_ | refine Sim.block ?_ | refine Sim.skip ?_ | refine Sim.inBlock ?_ | refine Sim.exit rfl ?_ | refine Sim.condT rfl ?_ | refine Sim.condF rfl ?_)
    exact Sim.retC Try.func27 rfl rfl hb2.at rfl ⟨by rw [wrongS, if_pos (by omega)]; rfl, hu2⟩
  have hwr : wrongS l = _ := if_neg (by omega)
  repeat (first | refine RL.vv ?_ | refine RL.p ?_ | refine RL.nil ?_ | refine Sim.seq ?_ | refine Sim.region ?_ | refine Sim.block ?_ | refine Sim.skip ?_ | refine Sim.inBlock ?_ | refine Sim.exit rfl ?_ | refine Sim.condT rfl ?_ | refine Sim.condF rfl ?_)
  refine Sim.loop (σ := Nat) (fun i => [(0, .slice la l.length lc), (2, .pointer (some ⟨b2, 0, none⟩)), (11, .slice la l.length lc), (12, .int .i64 (l.length : Int)), (13, .int .i64 (i : Int))])
    (fun i w' => i ≤ l.length ∧ Up w w' ∧ Box w' b2 41 [.int .i64 0, .int .i64 0] ∧ ∀ (j : Nat) s, j < i → l[j]? = some s → svcErr s = 0) (fun i => l.length - i) 0 sb ⟨Nat.zero_le _, hu1, hb2, fun j s hj => absurd hj (Nat.not_lt_zero _)⟩ ?_
  clear hu1 hb2
  rintro i w2 ⟨hi, hu, hb2, hno⟩ next
  by_cases hlt : i < l.length
  rotate_left
  · repeat (first | refine RL.vv ?_ | refine RL.p ?_ | refine RL.nil ?_ | refine Sim.seq ?_ | refine Sim.region ?_ | refine Sim.block ?_ | refine Sim.skip ?_ | refine Sim.inBlock ?_ | refine Sim.exit rfl ?_ | refine Sim.condT rfl ?_ | refine Sim.condF rfl ?_)
    refine RL.val trivial rfl (y_build (v := .agg #[.int .i64 0, .int .i64 0]) rfl (fun w => by kernel_rfl)) ?_
    refine RL.st hu hb2 hle2 fun w3 hu3 _ hb2 => ?_
    repeat (first | refine RL.vv ?_ | refine RL.p ?_ | refine RL.nil ?_ | refine Sim.seq ?_ | refine Sim.region ?_ | refine Sim.block ?_ | refine Sim.skip ?_ | refine Sim.inBlock ?_ | refine Sim.exit rfl ?_ | refine Sim.condT rfl ?_ | refine Sim.condF rfl ?_)
    exact Sim.retC Try.func27 rfl rfl hb2.at rfl ⟨by rw [hwr, firstBad_none fun j s hj => hno j s (by have := (List.getElem?_eq_some_iff.1 hj).1; omega) hj]; rfl, hu3⟩
  have hx : l[i]? = some l[i] := List.getElem?_eq_getElem hlt
  obtain ⟨vb, vo, cs, rfl, _, hat, ⟨v1, v2, v3, rfl, hv1, hv2, hv3⟩, _⟩ := hl.at hx
  have hat : At w vb (vo + i * 3) _ := hat
  have bad : ∀ e, svcErr l[i] = e → e ≠ 0 → wrongS l = ⟨e, i⟩ := fun e he h => by rw [hwr, firstBad_hit (g := fun _ s => svcErr s) hx hno (by simp only [he]; exact h)]; simp only [he]
  have good := goodTo (g := fun _ s => svcErr s) hx hno
  unfold svcErr at bad good
  generalize l[i] = s at *
  obtain ⟨a1, c1, rfl, _⟩ := id hv1
  obtain ⟨a2, c2, rfl, _⟩ := id hv2
  obtain ⟨a3, c3, rfl, _⟩ := id hv3
  repeat (first | refine RL.vv ?_ | refine RL.p ?_ | refine RL.nil ?_ | refine Sim.seq ?_ | refine Sim.region ?_ | refine Sim.block ?_ | refine Sim.skip ?_ | refine Sim.inBlock ?_ | refine Sim.exit rfl ?_ | refine Sim.condT rfl ?_ | refine Sim.condF rfl ?_)
  refine RL.al (.refl w2) fun b4 w3 _ hle4 h23 _ hb4 => ?_
  repeat (first | refine RL.vv ?_ | refine RL.p ?_ | refine RL.nil ?_ | refine Sim.seq ?_ | refine Sim.region ?_ | refine Sim.block ?_ | refine Sim.skip ?_ | refine Sim.inBlock ?_ | refine Sim.exit rfl ?_ | refine Sim.condT rfl ?_ | refine Sim.condF rfl ?_)
  refine RL.st h23 hb4 hle4 fun w4 h24 _ hb4 => ?_
  have hb4 : Box w4 b4 _ [.slice a1 s.types.length c1, .slice a2 s.changes.length c2, .slice a3 s.things.length c3] := hb4
  have hu := hu.trans h24
  have hb2 := hb2.up h24
  have ha4 := hb4.at
  clear h23 h24
  repeat (first | refine RL.vv ?_ | refine RL.p ?_ | refine RL.nil ?_ | refine Sim.seq ?_ | refine Sim.region ?_ | refine Sim.block ?_ | refine Sim.skip ?_ | refine Sim.inBlock ?_ | refine Sim.exit rfl ?_ | refine Sim.condT rfl ?_ | refine Sim.condF rfl ?_)
  refine RL.cx (See_any w4 (hv1.up hu) (hv2.up hu)) ?_
  rintro _ w5 ⟨v, rfl, h45, hds, lab, hv⟩
  refine ⟨_, rfl, ?_⟩
  unfold fltV
  have hu := hu.trans h45
  have hb2 := hb2.up h45
  have hb4 := hb4.up h45
  clear hv h45 ha4
  repeat (first | refine RL.vv ?_ | refine RL.p ?_ | refine RL.nil ?_ | refine Sim.seq ?_ | refine Sim.region ?_ | refine Sim.block ?_ | refine Sim.skip ?_ | refine Sim.inBlock ?_ | refine Sim.exit rfl ?_ | refine Sim.condT rfl ?_ | refine Sim.condF rfl ?_)
  refine RL.al (.refl w5) fun b6 w6 he6 hle6 h56 _ hb6 => ?_
  repeat (first | refine RL.vv ?_ | refine RL.p ?_ | refine RL.nil ?_ | refine Sim.seq ?_ | refine Sim.region ?_ | refine Sim.block ?_ | refine Sim.skip ?_ | refine Sim.inBlock ?_ | refine Sim.exit rfl ?_ | refine Sim.condT rfl ?_ | refine Sim.condF rfl ?_)
  refine RL.st h56 hb6 hle6 fun w7 h57 _ hb6 => ?_
  have hu := hu.trans h57
  have hne : b2 ≠ b6 := by have := hb2.lt; omega
  have hw6 : w.heap.size ≤ b6 := Nat.le_trans hle2 (by have := hb2.lt; omega)
  have hb2 := hb2.up h57
  have ha4 := hb4.at.up h57
  have ha6 := hb6.at
  clear h56 h57 hb4
  by_cases he : (seeM s.types s.changes).2.err = 0
  · rw [if_pos he] at bad good
    repeat (first | refine RL.vv ?_ | refine RL.p ?_ | refine RL.nil ?_ | refine Sim.seq ?_ | refine Sim.region ?_ | refine Sim.block ?_ | refine Sim.skip ?_ | refine Sim.inBlock ?_ | refine Sim.exit rfl ?_ | refine Sim.condT rfl ?_ | refine Sim.condF rfl ?_)
    refine RL.cu hu (Things_any w7 (hv1.up hu) (hv3.up hu)) fun w8 hu8 h78 => ?_
    unfold fltV
    refine RL.st hu8 (hb6.up h78) hw6 fun w9 hu9 hbt hb6 => ?_
    have hb2 := (hb2.up h78).but hbt hne
    have ha6 := hb6.at
    by_cases ht : (thgsErr s.types s.things).err = 0
    · repeat (first | refine RL.vv ?_ | refine RL.p ?_ | refine RL.nil ?_ | refine Sim.seq ?_ | refine Sim.region ?_ | refine Sim.block ?_ | refine Sim.skip ?_ | refine Sim.inBlock ?_ | refine Sim.exit rfl ?_ | refine Sim.condT rfl ?_ | refine Sim.condF rfl ?_)
      exact next (i + 1) _ _ ⟨by omega, hu9, hb2, good ht⟩ (by omega) sb
    · repeat (first | refine RL.vv ?_ | refine RL.p ?_ | refine RL.nil ?_ | refine Sim.seq ?_ | refine Sim.region ?_ | refine Sim.block ?_ | refine Sim.skip ?_ | refine Sim.inBlock ?_ | refine Sim.exit rfl ?_ | refine Sim.condT rfl ?_ | refine Sim.condF rfl ?_)
      refine RL.val trivial rfl (y_build (v := .agg #[.int .i64 (thgsErr s.types s.things).err, .int .i64 (i : Int)]) rfl (fun w => by kernel_rfl)) ?_
      refine RL.st hu9 hb2 hle2 fun w10 hu10 _ hb2 => ?_
      repeat (first | refine RL.vv ?_ | refine RL.p ?_ | refine RL.nil ?_ | refine Sim.seq ?_ | refine Sim.region ?_ | refine Sim.block ?_ | refine Sim.skip ?_ | refine Sim.inBlock ?_ | refine Sim.exit rfl ?_ | refine Sim.condT rfl ?_ | refine Sim.condF rfl ?_)
      exact Sim.retC Try.func27 rfl rfl hb2.at rfl ⟨by rw [bad _ rfl ht]; rfl, hu10⟩
  · rw [if_neg he] at bad
    repeat (first | refine RL.vv ?_ | refine RL.p ?_ | refine RL.nil ?_ | refine Sim.seq ?_ | refine Sim.region ?_ | refine Sim.block ?_ | refine Sim.skip ?_ | refine Sim.inBlock ?_ | refine Sim.exit rfl ?_ | refine Sim.condT rfl ?_ | refine Sim.condF rfl ?_)
    refine RL.val trivial rfl (y_build (v := .agg #[.int .i64 (seeM s.types s.changes).2.err, .int .i64 (i : Int)]) rfl (fun w => by kernel_rfl)) ?_
    refine RL.st hu hb2 hle2 fun w10 hu10 _ hb2 => ?_
    repeat (first | refine RL.vv ?_ | refine RL.p ?_ | refine RL.nil ?_ | refine Sim.seq ?_ | refine Sim.region ?_ | refine Sim.block ?_ | refine Sim.skip ?_ | refine Sim.inBlock ?_ | refine Sim.exit rfl ?_ | refine Sim.condT rfl ?_ | refine Sim.condF rfl ?_)
    exact Sim.retC Try.func27 rfl rfl hb2.at rfl ⟨by rw [bad _ rfl he]; rfl, hu10⟩
end Go.Proofs.Ytgckpmcdlciibab
