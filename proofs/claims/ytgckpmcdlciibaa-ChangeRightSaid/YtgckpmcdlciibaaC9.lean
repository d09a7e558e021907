import Derived.Test.YtgckpmcdlciibaaC8
namespace Go.Proofs.Ytgckpmcdlciibaa
open Go.RowKit

def valG (fs : List Fld) (i : Nat) (v : VVal) : Int := match fs[i]? with
  | some f => valErr f v
  | none => 0
theorem valsErr_len {fs : List Fld} {l : List VVal} (h : ¬ l.length = fs.length) : valsErr fs l = 4 := if_neg h
theorem valsErr_eq {fs : List Fld} {l : List VVal} (h : l.length = fs.length) : valsErr fs l = match firstBad (valG fs) 0 l with
    | some (_, e) => e
    | none => 0 := if_pos h
theorem valErr_name {f : Fld} {v : VVal} (h : ¬ v.field = f.name) : valErr f v = 6 := if_neg h
theorem valErr_fit {f : Fld} {v : VVal} (h : v.field = f.name) (h2 : (f.kind = 1 ∧ 0 < v.keys.length) ∨ (¬ f.kind = 1 ∧ ¬ v.text = ⟨#[]⟩)) : valErr f v = 7 := by
  rw [valErr, if_pos h, if_pos h2]
theorem valErr_many {f : Fld} {v : VVal} (h : v.field = f.name) (h2 : ¬ ((f.kind = 1 ∧ 0 < v.keys.length) ∨ (¬ f.kind = 1 ∧ ¬ v.text = ⟨#[]⟩))) (h3 : (f.kind = 2 ∧ 1 < v.keys.length) ∨ 20 < v.keys.length) : valErr f v = 4 := by
  rw [valErr, if_pos h, if_neg h2, if_pos h3]
theorem valErr_rest {f : Fld} {v : VVal} (h : v.field = f.name) (h2 : ¬ ((f.kind = 1 ∧ 0 < v.keys.length) ∨ (¬ f.kind = 1 ∧ ¬ v.text = ⟨#[]⟩))) (h3 : ¬ ((f.kind = 2 ∧ 1 < v.keys.length) ∨ 20 < v.keys.length)) : valErr f v = if 40 < v.text.size then 3 else if v.keys.all named then 0 else 6 := by
  rw [valErr, if_pos h, if_neg h2, if_neg h3]
theorem fits_of {f : Fld} {v : VVal} (h2 : ¬ ((f.kind = 1 ∧ 0 < v.keys.length) ∨ (¬ f.kind = 1 ∧ ¬ v.text = ⟨#[]⟩))) (h3 : ¬ ((f.kind = 2 ∧ 1 < v.keys.length) ∨ 20 < v.keys.length)) :
    (f.kind = 1 ∧ ¬ f.kind = 2 ∧ ¬ (0 : Int) < v.keys.length ∧ ¬ (20 : Int) < v.keys.length) ∨ (¬ f.kind = 1 ∧ f.kind = 2 ∧ v.text = ⟨#[]⟩ ∧ ¬ (1 : Int) < v.keys.length ∧ ¬ (20 : Int) < v.keys.length) ∨ (¬ f.kind = 1 ∧ ¬ f.kind = 2 ∧ v.text = ⟨#[]⟩ ∧ ¬ (20 : Int) < v.keys.length) := by
  by_cases h : f.kind = 1
  · exact .inl ⟨h, by omega, fun hh => h2 (.inl ⟨h, by omega⟩), fun hh => h3 (.inr (by omega))⟩
  · have ht : v.text = ⟨#[]⟩ := by
      by_cases hh : v.text = ⟨#[]⟩
      · exact hh
      · exact absurd (.inr ⟨h, hh⟩) h2
    by_cases hk : f.kind = 2
    · exact .inr (.inl ⟨h, hk, ht, fun hh => h3 (.inl ⟨hk, by omega⟩), fun hh => h3 (.inr (by omega))⟩)
    · exact .inr (.inr ⟨h, hk, ht, fun hh => h3 (.inr (by omega))⟩)

/-- ContainsFunc(keys, not a name) -/
theorem ContainsNot_any {S : Nat → Prop} {v : Value} {l : List Str} (w : World) (hl : SliceOf strLay S w v l) :
    Calls Try.prog 102 #[v, .func (.func 103) #[] #[]] w fun en w' => en = .returned (.bool (!l.all named)) ∧ Up w w' := by
  obtain ⟨cells, hel, his⟩ := hl.elems
  refine (ContainsFunc_Str (xs := fun i => .string (l.getD i default)) (p := fun i => !named (l.getD i default)) hel (fun i hi => ?_) fun i hi w' hu => ?_).mono ?_
  · have h1 : cells i = [.string l[i]] := his i l[i] (List.getElem?_eq_getElem hi)
    rw [h1]
    simp [List.getD, List.getElem?_eq_getElem hi]
  · exact vals1_any (l.getD i default) w'
  · rintro _ w' ⟨rfl, hu⟩
    refine ⟨?_, hu⟩
    congr 2
    rw [Bool.eq_iff_iff]
    simp only [decide_eq_true_eq, idx_nonneg, Bool.not_eq_true', List.all_eq_false]
    constructor
    · rintro ⟨i, hi, h⟩
      refine ⟨l[i], List.getElem_mem hi, ?_⟩
      simpa [List.getD, List.getElem?_eq_getElem hi] using h
    · rintro ⟨x, hx, h⟩
      obtain ⟨i, hi, rfl⟩ := List.getElem_of_mem hx
      exact ⟨i, hi, by simpa [List.getD, List.getElem?_eq_getElem hi] using h⟩

set_option maxHeartbeats 2000000 in
theorem vals_any {S S' : Nat → Prop} {v fv : Value} {l : List VVal} {t : Typ} {tb to : Nat} (w : World) (hl : SliceOf valLay S w v l) (hat : At w tb to [.string t.name, fv]) (hf : SliceOf fldLay S' w fv t.fields) :
    Calls Try.prog 67 #[.pointer (some ⟨tb, to, none⟩), v] w fun en w' => en = .returned (.int .i64 (valsErr t.fields l)) ∧ Up w w' := by
  refine calls_of_sim Try.func67 rfl (Nat.le_of_ble_eq_true rfl) ?_
  obtain ⟨a, c, rfl, hnc, hcm, hel⟩ := id hl
  obtain ⟨fa, fc, rfl, hfnc, hfcm, hfel⟩ := id hf
  unfold maxLen at hcm hfcm
  by_cases hlen : (l.length : Int) = t.fields.length
  · have hve := valsErr_eq (fs := t.fields) (l := l) (by omega)
    repeat (first | refine RL.vv ?_ | refine RL.p ?_ | refine RL.nil ?_ | refine Sim.seq ?_ | refine Sim.region ?_ | refine Sim.block ?_ | refine Sim.skip ?_ | refine Sim.inBlock ?_ | refine Sim.exit rfl ?_ | refine Sim.condT rfl ?_ | refine Sim.condF rfl ?_)
    refine Sim.loop (σ := Nat) (fun i => [(0, .pointer (some ⟨tb, to, none⟩)), (16, .slice a l.length c), (17, .int .i64 (l.length : Int)), (18, .int .i64 (i : Int))]) (fun i w' => i ≤ l.length ∧ Up w w' ∧ ∀ (j : Nat) x, j < i → l[j]? = some x → valG t.fields j x = 0) (fun i => l.length - i) 0 sb ⟨Nat.zero_le _, Up.refl _, fun j x hj => absurd hj (Nat.not_lt_zero _)⟩ ?_
    rintro i w1 ⟨hi, hu, hno⟩ next
    by_cases hlt : i < l.length
    · have hx : l[i]? = some l[i] := List.getElem?_eq_getElem hlt
      obtain ⟨b, o, cs, rfl, _, hat1, ⟨kv, rfl, hkv⟩, _⟩ := hl.at hx
      obtain ⟨ka, kc, rfl, _⟩ := id hkv
      have hat1 : At w b (o + i * 3) _ := hat1
      have hx2 : t.fields[i]? = some t.fields[i] := List.getElem?_eq_getElem (by omega)
      obtain ⟨b2, o2, cs2, rfl, _, hat2, rfl, _⟩ := hf.at hx2
      have hat2 : At w b2 (o2 + i * 3) _ := hat2
      have hg : valG t.fields i l[i] = valErr t.fields[i] l[i] := by rw [valG, hx2]
      have bad : ∀ r, valErr t.fields[i] l[i] = r → r ≠ 0 → valsErr t.fields l = r := fun r hr hne => by rw [hve, firstBad_hit hx hno (by rw [hg, hr]; exact hne)]; simp only [hg, hr]
      have good : valErr t.fields[i] l[i] = 0 → _ := fun h => goodTo (g := valG t.fields) hx hno (hg.trans h)
      generalize l[i] = x at *
      have hif : i < t.fields.length := by omega
      generalize t.fields[i] = f at *
      clear hno hg
      repeat (first | refine RL.vv ?_ | refine RL.p ?_ | refine RL.nil ?_ | refine Sim.seq ?_ | refine Sim.region ?_ | refine Sim.block ?_ | refine Sim.skip ?_ | refine Sim.inBlock ?_ | refine Sim.exit rfl ?_ | refine Sim.condT rfl ?_ | refine Sim.condF rfl ?_)
      refine RL.alloc trivial rfl fun w2 hu2 hb6 _ => ?_
      repeat (first | refine RL.vv ?_ | refine RL.p ?_ | refine RL.nil ?_ | refine Sim.seq ?_ | refine Sim.region ?_ | refine Sim.block ?_ | refine Sim.skip ?_ | refine Sim.inBlock ?_ | refine Sim.exit rfl ?_ | refine Sim.condT rfl ?_ | refine Sim.condF rfl ?_)
      refine RL.store trivial rfl rfl hb6 rfl rfl (by simp [Value.oneCell']) (Nat.le_of_ble_eq_true rfl) rfl fun w3 hc3 hb6 => ?_
      have hu := (hu.trans hu2).but hc3 hu.size
      clear hu2 hc3
      repeat (first | refine RL.vv ?_ | refine RL.p ?_ | refine RL.nil ?_ | refine Sim.seq ?_ | refine Sim.region ?_ | refine Sim.block ?_ | refine Sim.skip ?_ | refine Sim.inBlock ?_ | refine Sim.exit rfl ?_ | refine Sim.condT rfl ?_ | refine Sim.condF rfl ?_)
      refine RL.alloc trivial rfl fun w4 hu4 hb7 _ => ?_
      refine RL.store trivial rfl rfl hb7 rfl rfl (by simp [Value.oneCell']) (Nat.le_of_ble_eq_true rfl) rfl fun w5 hc5 hb7 => ?_
      have hb6 := (hb6.up hu4).keep hc5.keep (by have := hb6.lt; omega)
      have hu := (hu.trans hu4).but hc5 hu.size
      clear hu4 hc5
      by_cases hn : x.field = f.name
      · by_cases h2 : (f.kind = 1 ∧ 0 < x.keys.length) ∨ (¬ f.kind = 1 ∧ ¬ x.text = ⟨#[]⟩)
        · rcases h2 with ⟨h2, h3⟩ | ⟨h2, h3⟩
          · have h4 : (0 : Int) < x.keys.length := by omega
            repeat (first | refine RL.vv ?_ | refine RL.p ?_ | refine RL.nil ?_ | refine Sim.seq ?_ | refine Sim.region ?_ | refine Sim.block ?_ | refine Sim.skip ?_ | refine Sim.inBlock ?_ | refine Sim.exit rfl ?_ | refine Sim.condT rfl ?_ | refine Sim.condF rfl ?_)
            exact Sim.ret1 Try.func67 rfl rfl ⟨by rw [bad 7 (valErr_fit hn (.inl ⟨h2, h3⟩)) (by decide)], hu⟩
          · repeat (first | refine RL.vv ?_ | refine RL.p ?_ | refine RL.nil ?_ | refine Sim.seq ?_ | refine Sim.region ?_ | refine Sim.block ?_ | refine Sim.skip ?_ | refine Sim.inBlock ?_ | refine Sim.exit rfl ?_ | refine Sim.condT rfl ?_ | refine Sim.condF rfl ?_)
            exact Sim.ret1 Try.func67 rfl rfl ⟨by rw [bad 7 (valErr_fit hn (.inr ⟨h2, h3⟩)) (by decide)], hu⟩
        by_cases h3 : (f.kind = 2 ∧ 1 < x.keys.length) ∨ 20 < x.keys.length
        · have hr := bad 4 (valErr_many hn h2 h3) (by decide)
          have ha : (f.kind = 1 ∧ ¬ (0 : Int) < x.keys.length) ∨ (¬ f.kind = 1 ∧ x.text = ⟨#[]⟩) := by
            by_cases h : f.kind = 1
            · exact .inl ⟨h, fun hh => h2 (.inl ⟨h, by omega⟩)⟩
            · exact .inr ⟨h, Classical.byContradiction fun hh => h2 (.inr ⟨h, hh⟩)⟩
          clear h2 bad good next
          rcases ha with ⟨h2, h4⟩ | ⟨h2, h4⟩
          · exact absurd h3 (by omega)
          · by_cases h5 : f.kind = 2
            · by_cases h6 : (1 : Int) < x.keys.length
              · repeat (first | refine RL.vv ?_ | refine RL.p ?_ | refine RL.nil ?_ | refine Sim.seq ?_ | refine Sim.region ?_ | refine Sim.block ?_ | refine Sim.skip ?_ | refine Sim.inBlock ?_ | refine Sim.exit rfl ?_ | refine Sim.condT rfl ?_ | refine Sim.condF rfl ?_)
                exact Sim.ret1 Try.func67 rfl rfl ⟨by rw [hr], hu⟩
              · exact absurd h3 (by omega)
            · have h6 : (20 : Int) < x.keys.length := by omega
              repeat (first | refine RL.vv ?_ | refine RL.p ?_ | refine RL.nil ?_ | refine Sim.seq ?_ | refine Sim.region ?_ | refine Sim.block ?_ | refine Sim.skip ?_ | refine Sim.inBlock ?_ | refine Sim.exit rfl ?_ | refine Sim.condT rfl ?_ | refine Sim.condF rfl ?_)
              exact Sim.ret1 Try.func67 rfl rfl ⟨by rw [hr], hu⟩
        have hrest := valErr_rest hn h2 h3
        have hfits := fits_of h2 h3
        clear h2 h3
        rw [hrest] at bad good
        clear hrest
        by_cases h4 : (40 : Int) < x.text.size
        · rw [if_pos (by omega)] at bad
          clear good next
          rcases hfits with ⟨f1, f2, f3, f4⟩ | ⟨f1, f2, f3, f4, f5⟩ | ⟨f1, f2, f3, f4⟩ <;>
          · repeat (first | refine RL.vv ?_ | refine RL.p ?_ | refine RL.nil ?_ | refine Sim.seq ?_ | refine Sim.region ?_ | refine Sim.block ?_ | refine Sim.skip ?_ | refine Sim.inBlock ?_ | refine Sim.exit rfl ?_ | refine Sim.condT rfl ?_ | refine Sim.condF rfl ?_)
            exact Sim.ret1 Try.func67 rfl rfl ⟨by rw [bad 3 rfl (by decide)], hu⟩
        rw [if_neg (by omega)] at bad good
        rcases Bool.eq_false_or_eq_true (x.keys.all named) with h5 | h5
        · rw [if_pos h5] at good
          rcases hfits with ⟨f1, f2, f3, f4⟩ | ⟨f1, f2, f3, f4, f5⟩ | ⟨f1, f2, f3, f4⟩ <;>
          · repeat (first | refine RL.vv ?_ | refine RL.p ?_ | refine RL.nil ?_ | refine Sim.seq ?_ | refine Sim.region ?_ | refine Sim.block ?_ | refine Sim.skip ?_ | refine Sim.inBlock ?_ | refine Sim.exit rfl ?_ | refine Sim.condT rfl ?_ | refine Sim.condF rfl ?_)
            refine RL.call trivial rfl (c_static rfl) (c_val (ContainsNot_any w5 (hkv.up hu)) (by rw [h5])) ?_
            rintro _ w9 ⟨rfl, hu9⟩
            refine ⟨_, rfl, ?_⟩
            repeat (first | refine RL.vv ?_ | refine RL.p ?_ | refine RL.nil ?_ | refine Sim.seq ?_ | refine Sim.region ?_ | refine Sim.block ?_ | refine Sim.skip ?_ | refine Sim.inBlock ?_ | refine Sim.exit rfl ?_ | refine Sim.condT rfl ?_ | refine Sim.condF rfl ?_)
            exact next (i + 1) _ _ ⟨by omega, hu.trans hu9, good rfl⟩ (by omega) sb
        · rw [if_neg (by rw [h5]; decide)] at bad
          clear good next
          rcases hfits with ⟨f1, f2, f3, f4⟩ | ⟨f1, f2, f3, f4, f5⟩ | ⟨f1, f2, f3, f4⟩ <;>
          · repeat (first | refine RL.vv ?_ | refine RL.p ?_ | refine RL.nil ?_ | refine Sim.seq ?_ | refine Sim.region ?_ | refine Sim.block ?_ | refine Sim.skip ?_ | refine Sim.inBlock ?_ | refine Sim.exit rfl ?_ | refine Sim.condT rfl ?_ | refine Sim.condF rfl ?_)
            refine RL.call trivial rfl (c_static rfl) (c_val (ContainsNot_any w5 (hkv.up hu)) (by rw [h5])) ?_
            rintro _ w9 ⟨rfl, hu9⟩
            refine ⟨_, rfl, ?_⟩
            repeat (first | refine RL.vv ?_ | refine RL.p ?_ | refine RL.nil ?_ | refine Sim.seq ?_ | refine Sim.region ?_ | refine Sim.block ?_ | refine Sim.skip ?_ | refine Sim.inBlock ?_ | refine Sim.exit rfl ?_ | refine Sim.condT rfl ?_ | refine Sim.condF rfl ?_)
            exact Sim.ret1 Try.func67 rfl rfl ⟨by rw [bad 6 rfl (by decide)], hu.trans hu9⟩
      · repeat (first | refine RL.vv ?_ | refine RL.p ?_ | refine RL.nil ?_ | refine Sim.seq ?_ | refine Sim.region ?_ | refine Sim.block ?_ | refine Sim.skip ?_ | refine Sim.inBlock ?_ | refine Sim.exit rfl ?_ | refine Sim.condT rfl ?_ | refine Sim.condF rfl ?_)
        exact Sim.ret1 Try.func67 rfl rfl ⟨by rw [bad 6 (valErr_name hn) (by decide)], hu⟩
    · repeat (first | refine RL.vv ?_ | refine RL.p ?_ | refine RL.nil ?_ | refine Sim.seq ?_ | refine Sim.region ?_ | refine Sim.block ?_ | refine Sim.skip ?_ | refine Sim.inBlock ?_ | refine Sim.exit rfl ?_ | refine Sim.condT rfl ?_ | refine Sim.condF rfl ?_)
      exact Sim.ret1 Try.func67 rfl rfl ⟨by rw [hve, firstBad_none (goodAll hno hlt)], hu⟩
  · repeat (first | refine RL.vv ?_ | refine RL.p ?_ | refine RL.nil ?_ | refine Sim.seq ?_ | refine Sim.region ?_ | refine Sim.block ?_ | refine Sim.skip ?_ | refine Sim.inBlock ?_ | refine Sim.exit rfl ?_ | refine Sim.condT rfl ?_ | refine Sim.condF rfl ?_)
    exact Sim.ret1 Try.func67 rfl rfl ⟨by rw [valsErr_len (by omega)], Up.refl _⟩
end Go.Proofs.Ytgckpmcdlciibaa
