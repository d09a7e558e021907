/- Several texts in one:  -/
import Derived.Test.YtgckpmcdlciibabZC
namespace Go.Proofs.Ytgckpmcdlciibab
open Go.RowKit

set_option maxHeartbeats 1000000 in
theorem Things1_any (t k t2 k2 : Str) (vs : Value) (b bo oo : Nat) (v2 : Value) (w : World) (hb : At w b 0 [.pointer (some ⟨bo, oo, none⟩)]) (ho : At w bo oo [.string t2, .string k2, v2]) :
    Calls Try.prog 97 #[.agg #[.string t, .string k, vs], .pointer (some ⟨b, 0, none⟩)] w fun en w' => en = .returned (.bool (decide (t = t2 ∧ k = k2))) ∧ Up w w' := by
  refine calls_of_sim Try.func97 rfl (Nat.le_of_ble_eq_true rfl) ?_
  repeat (first | refine RL.vv ?_ | refine RL.p ?_ | refine RL.nil ?_ | refine Sim.seq ?_ | refine Sim.region ?_ | refine Sim.block ?_ | refine Sim.skip ?_ | refine Sim.inBlock ?_ | refine Sim.exit rfl ?_ | refine Sim.condT rfl ?_ | refine Sim.condF rfl ?_)
  refine RL.box trivial rfl rfl fun w1 hu hb1 hsz => ?_
  have hb := hb.up hu
  have ho := ho.up hu
  repeat (first | refine RL.vv ?_ | refine RL.p ?_ | refine RL.nil ?_ | refine Sim.seq ?_ | refine Sim.region ?_ | refine Sim.block ?_ | refine Sim.skip ?_ | refine Sim.inBlock ?_ | refine Sim.exit rfl ?_ | refine Sim.condT rfl ?_ | refine Sim.condF rfl ?_)
  refine Sim.quiet (Up w1) mixed (by kernel_rfl) (Up.drew _) ?_
  by_cases h1 : t = t2
  · by_cases h2 : k = k2
    · repeat (first | refine RQ.vv ?_ | refine RQ.p ?_)
      refine RQ.nil fun w4 hq => ?_
      repeat (first | refine RL.vv ?_ | refine RL.p ?_ | refine RL.nil ?_ | refine Sim.seq ?_ | refine Sim.region ?_ | refine Sim.block ?_ | refine Sim.skip ?_ | refine Sim.inBlock ?_ | refine Sim.exit rfl ?_ | refine Sim.condT rfl ?_ | refine Sim.condF rfl ?_)
      exact Sim.ret1 Try.func97 rfl rfl ⟨by rw [decide_eq_true ⟨h1, h2⟩], hu.trans hq⟩
    · repeat (first | refine RQ.vv ?_ | refine RQ.p ?_)
      refine RQ.nil fun w4 hq => ?_
      repeat (first | refine RL.vv ?_ | refine RL.p ?_ | refine RL.nil ?_ | refine Sim.seq ?_ | refine Sim.region ?_ | refine Sim.block ?_ | refine Sim.skip ?_ | refine Sim.inBlock ?_ | refine Sim.exit rfl ?_ | refine Sim.condT rfl ?_ | refine Sim.condF rfl ?_)
      exact Sim.ret1 Try.func97 rfl rfl ⟨by rw [decide_eq_false (fun h => h2 h.2)], hu.trans hq⟩
  · repeat (first | refine RQ.vv ?_ | refine RQ.p ?_)
    refine RQ.nil fun w4 hq => ?_
    repeat (first | refine RL.vv ?_ | refine RL.p ?_ | refine RL.nil ?_ | refine Sim.seq ?_ | refine Sim.region ?_ | refine Sim.block ?_ | refine Sim.skip ?_ | refine Sim.inBlock ?_ | refine Sim.exit rfl ?_ | refine Sim.condT rfl ?_ | refine Sim.condF rfl ?_)
    exact Sim.ret1 Try.func97 rfl rfl ⟨by rw [decide_eq_false (fun h => h1 h.1)], hu.trans hq⟩

set_option maxHeartbeats 400000 in
theorem vals1_any (s : Str) (w : World) : Calls Try.prog 129 #[.string s] w fun en w' => en = .returned (.bool (!named s)) ∧ Up w w' := by
  refine calls_of_sim Try.func129 rfl (Nat.le_of_ble_eq_true rfl) ?_
  repeat (first | refine RL.vv ?_ | refine RL.p ?_ | refine RL.nil ?_ | refine Sim.seq ?_ | refine Sim.region ?_ | refine Sim.block ?_ | refine Sim.skip ?_ | refine Sim.inBlock ?_ | refine Sim.exit rfl ?_ | refine Sim.condT rfl ?_ | refine Sim.condF rfl ?_)
  refine RL.call trivial rfl (c_static rfl) (Named_any s w) ?_
  rintro _ w2 ⟨rfl, hu⟩
  refine ⟨_, rfl, ?_⟩
  repeat (first | refine RL.vv ?_ | refine RL.p ?_ | refine RL.nil ?_ | refine Sim.seq ?_ | refine Sim.region ?_ | refine Sim.block ?_ | refine Sim.skip ?_ | refine Sim.inBlock ?_ | refine Sim.exit rfl ?_ | refine Sim.condT rfl ?_ | refine Sim.condF rfl ?_)
  exact Sim.ret1 Try.func129 rfl rfl ⟨rfl, hu⟩

theorem idx_nonneg {p : Nat → Bool} {n : Nat} : 0 ≤ idx p n ↔ ∃ i, i < n ∧ p i = true := by
  unfold idx
  cases h : (List.range n).find? p with
  | some i =>
    rw [List.find?_range_eq_some] at h
    simp
    exact ⟨i, by simpa using h.2.1, h.1⟩
  | none =>
    rw [List.find?_range_eq_none] at h
    simp
    intro i hi
    simpa using h i hi
set_option maxHeartbeats 400000 in
theorem ContainsFunc_Str {g : FuncId} [Fun Try.prog g] {caps : Array Value} {sv : Value} {n : Nat} {cells : Nat → List Value} {xs : Nat → Value} {p : Nat → Bool} {w : World} (hs : Elems 1 w sv n cells) (hone : ∀ i, i < n → cells i = [xs i])
    (hp : ∀ i, i < n → ∀ w', Up w w' → Calls Try.prog g (#[xs i] ++ caps) w' fun en w'' => en = .returned (.bool (p i)) ∧ Up w' w'') :
    Calls Try.prog 128 #[sv, .func (.func g) #[] caps] w fun en w' => en = .returned (.bool (decide (0 ≤ idx p n))) ∧ Up w w' := by
  refine calls_of_sim Try.func128 rfl (Nat.le_of_ble_eq_true rfl) ?_
  repeat (first | refine RL.vv ?_ | refine RL.p ?_ | refine RL.nil ?_ | refine Sim.seq ?_ | refine Sim.region ?_ | refine Sim.block ?_ | refine Sim.skip ?_ | refine Sim.inBlock ?_ | refine Sim.exit rfl ?_ | refine Sim.condT rfl ?_ | refine Sim.condF rfl ?_)
  refine RL.call trivial rfl (c_static rfl) (IndexFunc_Str hs hone hp) ?_
  rintro _ w2 ⟨rfl, hu⟩
  refine ⟨_, rfl, ?_⟩
  repeat (first | refine RL.vv ?_ | refine RL.p ?_ | refine RL.nil ?_ | refine Sim.seq ?_ | refine Sim.region ?_ | refine Sim.block ?_ | refine Sim.skip ?_ | refine Sim.inBlock ?_ | refine Sim.exit rfl ?_ | refine Sim.condT rfl ?_ | refine Sim.condF rfl ?_)
  exact Sim.ret1 Try.func128 rfl rfl ⟨rfl, hu⟩
set_option maxHeartbeats 400000 in
theorem ContainsFunc_Thing {g : FuncId} [Fun Try.prog g] {caps : Array Value} {sv : Value} {n : Nat} {cells : Nat → List Value} {p : Nat → Bool} {w : World} (hs : Elems 3 w sv n cells)
    (hp : ∀ i, i < n → ∀ w', Up w w' → Calls Try.prog g (#[.agg (cells i).toArray] ++ caps) w' fun en w'' => en = .returned (.bool (p i)) ∧ Up w' w'') :
    Calls Try.prog 96 #[sv, .func (.func g) #[] caps] w fun en w' => en = .returned (.bool (decide (0 ≤ idx p n))) ∧ Up w w' := by
  refine calls_of_sim Try.func96 rfl (Nat.le_of_ble_eq_true rfl) ?_
  repeat (first | refine RL.vv ?_ | refine RL.p ?_ | refine RL.nil ?_ | refine Sim.seq ?_ | refine Sim.region ?_ | refine Sim.block ?_ | refine Sim.skip ?_ | refine Sim.inBlock ?_ | refine Sim.exit rfl ?_ | refine Sim.condT rfl ?_ | refine Sim.condF rfl ?_)
  refine RL.call trivial rfl (c_static rfl) (IndexFunc_Thing hs hp) ?_
  rintro _ w2 ⟨rfl, hu⟩
  refine ⟨_, rfl, ?_⟩
  repeat (first | refine RL.vv ?_ | refine RL.p ?_ | refine RL.nil ?_ | refine Sim.seq ?_ | refine Sim.region ?_ | refine Sim.block ?_ | refine Sim.skip ?_ | refine Sim.inBlock ?_ | refine Sim.exit rfl ?_ | refine Sim.condT rfl ?_ | refine Sim.condF rfl ?_)
  exact Sim.ret1 Try.func96 rfl rfl ⟨rfl, hu⟩
set_option maxHeartbeats 400000 in
theorem ContainsFunc_Pick {g : FuncId} [Fun Try.prog g] {caps : Array Value} {sv : Value} {n : Nat} {cells : Nat → List Value} {p : Nat → Bool} {w : World} (hs : Elems 3 w sv n cells)
    (hp : ∀ i, i < n → ∀ w', Up w w' → Calls Try.prog g (#[.agg (cells i).toArray] ++ caps) w' fun en w'' => en = .returned (.bool (p i)) ∧ Up w' w'') :
    Calls Try.prog 90 #[sv, .func (.func g) #[] caps] w fun en w' => en = .returned (.bool (decide (0 ≤ idx p n))) ∧ Up w w' := by
  refine calls_of_sim Try.func90 rfl (Nat.le_of_ble_eq_true rfl) ?_
  repeat (first | refine RL.vv ?_ | refine RL.p ?_ | refine RL.nil ?_ | refine Sim.seq ?_ | refine Sim.region ?_ | refine Sim.block ?_ | refine Sim.skip ?_ | refine Sim.inBlock ?_ | refine Sim.exit rfl ?_ | refine Sim.condT rfl ?_ | refine Sim.condF rfl ?_)
  refine RL.call trivial rfl (c_static rfl) (IndexFunc_Pick hs hp) ?_
  rintro _ w2 ⟨rfl, hu⟩
  refine ⟨_, rfl, ?_⟩
  repeat (first | refine RL.vv ?_ | refine RL.p ?_ | refine RL.nil ?_ | refine Sim.seq ?_ | refine Sim.region ?_ | refine Sim.block ?_ | refine Sim.skip ?_ | refine Sim.inBlock ?_ | refine Sim.exit rfl ?_ | refine Sim.condT rfl ?_ | refine Sim.condF rfl ?_)
  exact Sim.ret1 Try.func90 rfl rfl ⟨rfl, hu⟩

end Go.Proofs.Ytgckpmcdlciibab

namespace Go.Proofs.Ytgckpmcdlciibab
open Go.RowKit

def valG (fs : List Fld) (i : Nat) (v : VVal) : Int := match fs[i]? with
  | some f => valErr f v
  | none => 0
theorem valsErr_len {fs : List Fld} {l : List VVal} (h : ¬ l.length = fs.length) : valsErr fs l = 4 := if_neg h
theorem valsErr_eq {fs : List Fld} {l : List VVal} (h : l.length = fs.length) : valsErr fs l = match firstBad (valG fs) 0 l with
    | some (_, e) => e
    | none => 0 := if_pos h
theorem valErr_name {f : Fld} {v : VVal} (h : ¬ v.field = f.name) : valErr f v = 6 := if_neg h
theorem valErr_fit {f : Fld} {v : VVal} (h : v.field = f.name) (h2 : (f.kind = 1 ∧ 0 < v.keys.length) ∨ (¬ f.kind = 1 ∧ ¬ v.text = ⟨#[]⟩)) : valErr f v = 7 := by
  rw [valErr, if_pos h, if_pos h2]
theorem valErr_many {f : Fld} {v : VVal} (h : v.field = f.name) (h2 : ¬ ((f.kind = 1 ∧ 0 < v.keys.length) ∨ (¬ f.kind = 1 ∧ ¬ v.text = ⟨#[]⟩))) (h3 : (f.kind = 2 ∧ 1 < v.keys.length) ∨ 20 < v.keys.length) : valErr f v = 4 := by
  rw [valErr, if_pos h, if_neg h2, if_pos h3]
theorem valErr_rest {f : Fld} {v : VVal} (h : v.field = f.name) (h2 : ¬ ((f.kind = 1 ∧ 0 < v.keys.length) ∨ (¬ f.kind = 1 ∧ ¬ v.text = ⟨#[]⟩))) (h3 : ¬ ((f.kind = 2 ∧ 1 < v.keys.length) ∨ 20 < v.keys.length)) : valErr f v = if 40 < v.text.size then 3 else if v.keys.all named then 0 else 6 := by
  rw [valErr, if_pos h, if_neg h2, if_neg h3]
theorem fits_of {f : Fld} {v : VVal} (h2 : ¬ ((f.kind = 1 ∧ 0 < v.keys.length) ∨ (¬ f.kind = 1 ∧ ¬ v.text = ⟨#[]⟩))) (h3 : ¬ ((f.kind = 2 ∧ 1 < v.keys.length) ∨ 20 < v.keys.length)) :
    (f.kind = 1 ∧ ¬ f.kind = 2 ∧ ¬ (0 : Int) < v.keys.length ∧ ¬ (20 : Int) < v.keys.length) ∨ (¬ f.kind = 1 ∧ f.kind = 2 ∧ v.text = ⟨#[]⟩ ∧ ¬ (1 : Int) < v.keys.length ∧ ¬ (20 : Int) < v.keys.length) ∨ (¬ f.kind = 1 ∧ ¬ f.kind = 2 ∧ v.text = ⟨#[]⟩ ∧ ¬ (20 : Int) < v.keys.length) := by
  by_cases h : f.kind = 1
  · exact .inl ⟨h, by omega, fun hh => h2 (.inl ⟨h, by omega⟩), fun hh => h3 (.inr (by omega))⟩
  · have ht : v.text = ⟨#[]⟩ := by
      by_cases hh : v.text = ⟨#[]⟩
      · exact hh
      · exact absurd (.inr ⟨h, hh⟩) h2
    by_cases hk : f.kind = 2
    · exact .inr (.inl ⟨h, hk, ht, fun hh => h3 (.inl ⟨hk, by omega⟩), fun hh => h3 (.inr (by omega))⟩)
    · exact .inr (.inr ⟨h, hk, ht, fun hh => h3 (.inr (by omega))⟩)

/-- ContainsFunc(keys, not a name) -/
theorem ContainsNot_any {S : Nat → Prop} {v : Value} {l : List Str} (w : World) (hl : SliceOf strLay S w v l) :
    Calls Try.prog 128 #[v, .func (.func 129) #[] #[]] w fun en w' => en = .returned (.bool (!l.all named)) ∧ Up w w' := by
  obtain ⟨cells, hel, his⟩ := hl.elems
  refine (ContainsFunc_Str (xs := fun i => .string (l.getD i default)) (p := fun i => !named (l.getD i default)) hel (fun i hi => ?_) fun i hi w' hu => ?_).mono ?_
  · have h1 : cells i = [.string l[i]] := his i l[i] (List.getElem?_eq_getElem hi)
    rw [h1]
    simp [List.getD, List.getElem?_eq_getElem hi]
  · exact vals1_any (l.getD i default) w'
  · rintro _ w' ⟨rfl, hu⟩
    refine ⟨?_, hu⟩
    congr 2
    rw [Bool.eq_iff_iff]
    simp only [decide_eq_true_eq, idx_nonneg, Bool.not_eq_true', List.all_eq_false]
    constructor
    · rintro ⟨i, hi, h⟩
      refine ⟨l[i], List.getElem_mem hi, ?_⟩
      simpa [List.getD, List.getElem?_eq_getElem hi] using h
    · rintro ⟨x, hx, h⟩
      obtain ⟨i, hi, rfl⟩ := List.getElem_of_mem hx
      exact ⟨i, hi, by simpa [List.getD, List.getElem?_eq_getElem hi] using h⟩

set_option maxHeartbeats 2000000 in
theorem vals_any {S S' : Nat → Prop} {v fv : Value} {l : List VVal} {t : Typ} {tb to : Nat} (w : World) (hl : SliceOf valLay S w v l) (hat : At w tb to [.string t.name, fv]) (hf : SliceOf fldLay S' w fv t.fields) :
    Calls Try.prog 98 #[.pointer (some ⟨tb, to, none⟩), v] w fun en w' => en = .returned (.int .i64 (valsErr t.fields l)) ∧ Up w w' := by
  refine calls_of_sim Try.func98 rfl (Nat.le_of_ble_eq_true rfl) ?_
  obtain ⟨a, c, rfl, hnc, hcm, hel⟩ := id hl
  obtain ⟨fa, fc, rfl, hfnc, hfcm, hfel⟩ := id hf
  unfold maxLen at hcm hfcm
  by_cases hlen : (l.length : Int) = t.fields.length
  · have hve := valsErr_eq (fs := t.fields) (l := l) (by omega)
    repeat (first | refine RL.vv ?_ | refine RL.p ?_ | refine RL.nil ?_ | refine Sim.seq ?_ | refine Sim.region ?_ | refine Sim.block ?_ | refine Sim.skip ?_ | refine Sim.inBlock ?_ | refine Sim.exit rfl ?_ | refine Sim.condT rfl ?_ | refine Sim.condF rfl ?_)
    refine Sim.loop (σ := Nat) (fun i => [(0, .pointer (some ⟨tb, to, none⟩)), (16, .slice a l.length c), (17, .int .i64 (l.length : Int)), (18, .int .i64 (i : Int))]) (fun i w' => i ≤ l.length ∧ Up w w' ∧ ∀ (j : Nat) x, j < i → l[j]? = some x → valG t.fields j x = 0) (fun i => l.length - i) 0 sb ⟨Nat.zero_le _, Up.refl _, fun j x hj => absurd hj (Nat.not_lt_zero _)⟩ ?_
    rintro i w1 ⟨hi, hu, hno⟩ next
    by_cases hlt : i < l.length
    · have hx : l[i]? = some l[i] := List.getElem?_eq_getElem hlt
      obtain ⟨b, o, cs, rfl, _, hat1, ⟨kv, rfl, hkv⟩, _⟩ := hl.at hx
      obtain ⟨ka, kc, rfl, _⟩ := id hkv
      have hat1 : At w b (o + i * 3) _ := hat1
      have hx2 : t.fields[i]? = some t.fields[i] := List.getElem?_eq_getElem (by omega)
      obtain ⟨b2, o2, cs2, rfl, _, hat2, rfl, _⟩ := hf.at hx2
      have hat2 : At w b2 (o2 + i * 3) _ := hat2
      have hg : valG t.fields i l[i] = valErr t.fields[i] l[i] := by rw [valG, hx2]
      have bad : ∀ r, valErr t.fields[i] l[i] = r → r ≠ 0 → valsErr t.fields l = r := fun r hr hne => by rw [hve, firstBad_hit hx hno (by rw [hg, hr]; exact hne)]; simp only [hg, hr]
      have good : valErr t.fields[i] l[i] = 0 → _ := fun h => goodTo (g := valG t.fields) hx hno (hg.trans h)
      generalize l[i] = x at *
      have hif : i < t.fields.length := by omega
      generalize t.fields[i] = f at *
      clear hno hg
      repeat (first | refine RL.vv ?_ | refine RL.p ?_ | refine RL.nil ?_ | refine Sim.seq ?_ | refine Sim.region ?_ | refine Sim.block ?_ | refine Sim.skip ?_ | refine Sim.inBlock ?_ | refine Sim.exit rfl ?_ | refine Sim.condT rfl ?_ | refine Sim.condF rfl ?_)
      refine RL.alloc trivial rfl fun w2 hu2 hb6 _ => ?_
      repeat (first | refine RL.vv ?_ | refine RL.p ?_ | refine RL.nil ?_ | refine Sim.seq ?_ | refine Sim.region ?_ | refine Sim.block ?_ | refine Sim.skip ?_ | refine Sim.inBlock ?_ | refine Sim.exit rfl ?_ | refine Sim.condT rfl ?_ | refine Sim.condF rfl ?_)
      refine RL.store trivial rfl rfl hb6 rfl rfl (by simp [Value.oneCell']) (Nat.le_of_ble_eq_true rfl) rfl fun w3 hc3 hb6 => ?_
      have hu := (hu.trans hu2).but hc3 hu.size
      clear hu2 hc3
      repeat (first | refine RL.vv ?_ | refine RL.p ?_ | refine RL.nil ?_ | refine Sim.seq ?_ | refine Sim.region ?_ | refine Sim.block ?_ | refine Sim.skip ?_ | refine Sim.inBlock ?_ | refine Sim.exit rfl ?_ | refine Sim.condT rfl ?_ | refine Sim.condF rfl ?_)
      refine RL.alloc trivial rfl fun w4 hu4 hb7 _ => ?_
      refine RL.store trivial rfl rfl hb7 rfl rfl (by simp [Value.oneCell']) (Nat.le_of_ble_eq_true rfl) rfl fun w5 hc5 hb7 => ?_
      have hb6 := (hb6.up hu4).keep hc5.keep (by have := hb6.lt; omega)
      have hu := (hu.trans hu4).but hc5 hu.size
      clear hu4 hc5
      by_cases hn : x.field = f.name
      · by_cases h2 : (f.kind = 1 ∧ 0 < x.keys.length) ∨ (¬ f.kind = 1 ∧ ¬ x.text = ⟨#[]⟩)
        · rcases h2 with ⟨h2, h3⟩ | ⟨h2, h3⟩
          · have h4 : (0 : Int) < x.keys.length := by omega
            repeat (first | refine RL.vv ?_ | refine RL.p ?_ | refine RL.nil ?_ | refine Sim.seq ?_ | refine Sim.region ?_ | refine Sim.block ?_ | refine Sim.skip ?_ | refine Sim.inBlock ?_ | refine Sim.exit rfl ?_ | refine Sim.condT rfl ?_ | refine Sim.condF rfl ?_)
            exact Sim.ret1 Try.func98 rfl rfl ⟨by rw [bad 7 (valErr_fit hn (.inl ⟨h2, h3⟩)) (by decide)], hu⟩
          · repeat (first | refine RL.vv ?_ | refine RL.p ?_ | refine RL.nil ?_ | refine Sim.seq ?_ | refine Sim.region ?_ | refine Sim.block ?_ | refine Sim.skip ?_ | refine Sim.inBlock ?_ | refine Sim.exit rfl ?_ | refine Sim.condT rfl ?_ | refine Sim.condF rfl ?_)
            exact Sim.ret1 Try.func98 rfl rfl ⟨by rw [bad 7 (valErr_fit hn (.inr ⟨h2, h3⟩)) (by decide)], hu⟩
        by_cases h3 : (f.kind = 2 ∧ 1 < x.keys.length) ∨ 20 < x.keys.length
        · have hr := bad 4 (valErr_many hn h2 h3) (by decide)
          have ha : (f.kind = 1 ∧ ¬ (0 : Int) < x.keys.length) ∨ (¬ f.kind = 1 ∧ x.text = ⟨#[]⟩) := by
            by_cases h : f.kind = 1
            · exact .inl ⟨h, fun hh => h2 (.inl ⟨h, by omega⟩)⟩
            · exact .inr ⟨h, Classical.byContradiction fun hh => h2 (.inr ⟨h, hh⟩)⟩
          clear h2 bad good next
          rcases ha with ⟨h2, h4⟩ | ⟨h2, h4⟩
          · exact absurd h3 (by omega)
          · by_cases h5 : f.kind = 2
            · by_cases h6 : (1 : Int) < x.keys.length
              · repeat (first | refine RL.vv ?_ | refine RL.p ?_ | refine RL.nil ?_ | refine Sim.seq ?_ | refine Sim.region ?_ | refine Sim.block ?_ | refine Sim.skip ?_ | refine Sim.inBlock ?_ | refine Sim.exit rfl ?_ | refine Sim.condT rfl ?_ | refine Sim.condF rfl ?_)
                exact Sim.ret1 Try.func98 rfl rfl ⟨by rw [hr], hu⟩
              · exact absurd h3 (by omega)
            · have h6 : (20 : Int) < x.keys.length := by omega
              repeat (first | refine RL.vv ?_ | refine RL.p ?_ | refine RL.nil ?_ | refine Sim.seq ?_ | refine Sim.region ?_ | refine Sim.block ?_ | refine Sim.skip ?_ | refine Sim.inBlock ?_ | refine Sim.exit rfl ?_ | refine Sim.condT rfl ?_ | refine Sim.condF rfl ?_)
              exact Sim.ret1 Try.func98 rfl rfl ⟨by rw [hr], hu⟩
        have hrest := valErr_rest hn h2 h3
        have hfits := fits_of h2 h3
        clear h2 h3
        rw [hrest] at bad good
        clear hrest
        by_cases h4 : (40 : Int) < x.text.size
        · rw [if_pos (by omega)] at bad
          clear good next
          rcases hfits with ⟨f1, f2, f3, f4⟩ | ⟨f1, f2, f3, f4, f5⟩ | ⟨f1, f2, f3, f4⟩ <;>
          · repeat (first | refine RL.vv ?_ | refine RL.p ?_ | refine RL.nil ?_ | refine Sim.seq ?_ | refine Sim.region ?_ | refine Sim.block ?_ | refine Sim.skip ?_ | refine Sim.inBlock ?_ | refine Sim.exit rfl ?_ | refine Sim.condT rfl ?_ | refine Sim.condF rfl ?_)
            exact Sim.ret1 Try.func98 rfl rfl ⟨by rw [bad 3 rfl (by decide)], hu⟩
        rw [if_neg (by omega)] at bad good
        rcases Bool.eq_false_or_eq_true (x.keys.all named) with h5 | h5
        · rw [if_pos h5] at good
          rcases hfits with ⟨f1, f2, f3, f4⟩ | ⟨f1, f2, f3, f4, f5⟩ | ⟨f1, f2, f3, f4⟩ <;>
          · repeat (first | refine RL.vv ?_ | refine RL.p ?_ | refine RL.nil ?_ | refine Sim.seq ?_ | refine Sim.region ?_ | refine Sim.block ?_ | refine Sim.skip ?_ | refine Sim.inBlock ?_ | refine Sim.exit rfl ?_ | refine Sim.condT rfl ?_ | refine Sim.condF rfl ?_)
            refine RL.call trivial rfl (c_static rfl) (c_val (ContainsNot_any w5 (hkv.up hu)) (by rw [h5])) ?_
            rintro _ w9 ⟨rfl, hu9⟩
            refine ⟨_, rfl, ?_⟩
            repeat (first | refine RL.vv ?_ | refine RL.p ?_ | refine RL.nil ?_ | refine Sim.seq ?_ | refine Sim.region ?_ | refine Sim.block ?_ | refine Sim.skip ?_ | refine Sim.inBlock ?_ | refine Sim.exit rfl ?_ | refine Sim.condT rfl ?_ | refine Sim.condF rfl ?_)
            exact next (i + 1) _ _ ⟨by omega, hu.trans hu9, good rfl⟩ (by omega) sb
        · rw [if_neg (by rw [h5]; decide)] at bad
          clear good next
          rcases hfits with ⟨f1, f2, f3, f4⟩ | ⟨f1, f2, f3, f4, f5⟩ | ⟨f1, f2, f3, f4⟩ <;>
          · repeat (first | refine RL.vv ?_ | refine RL.p ?_ | refine RL.nil ?_ | refine Sim.seq ?_ | refine Sim.region ?_ | refine Sim.block ?_ | refine Sim.skip ?_ | refine Sim.inBlock ?_ | refine Sim.exit rfl ?_ | refine Sim.condT rfl ?_ | refine Sim.condF rfl ?_)
            refine RL.call trivial rfl (c_static rfl) (c_val (ContainsNot_any w5 (hkv.up hu)) (by rw [h5])) ?_
            rintro _ w9 ⟨rfl, hu9⟩
            refine ⟨_, rfl, ?_⟩
            repeat (first | refine RL.vv ?_ | refine RL.p ?_ | refine RL.nil ?_ | refine Sim.seq ?_ | refine Sim.region ?_ | refine Sim.block ?_ | refine Sim.skip ?_ | refine Sim.inBlock ?_ | refine Sim.exit rfl ?_ | refine Sim.condT rfl ?_ | refine Sim.condF rfl ?_)
            exact Sim.ret1 Try.func98 rfl rfl ⟨by rw [bad 6 rfl (by decide)], hu.trans hu9⟩
      · repeat (first | refine RL.vv ?_ | refine RL.p ?_ | refine RL.nil ?_ | refine Sim.seq ?_ | refine Sim.region ?_ | refine Sim.block ?_ | refine Sim.skip ?_ | refine Sim.inBlock ?_ | refine Sim.exit rfl ?_ | refine Sim.condT rfl ?_ | refine Sim.condF rfl ?_)
        exact Sim.ret1 Try.func98 rfl rfl ⟨by rw [bad 6 (valErr_name hn) (by decide)], hu⟩
    · repeat (first | refine RL.vv ?_ | refine RL.p ?_ | refine RL.nil ?_ | refine Sim.seq ?_ | refine Sim.region ?_ | refine Sim.block ?_ | refine Sim.skip ?_ | refine Sim.inBlock ?_ | refine Sim.exit rfl ?_ | refine Sim.condT rfl ?_ | refine Sim.condF rfl ?_)
      exact Sim.ret1 Try.func98 rfl rfl ⟨by rw [hve, firstBad_none (goodAll hno hlt)], hu⟩
  · repeat (first | refine RL.vv ?_ | refine RL.p ?_ | refine RL.nil ?_ | refine Sim.seq ?_ | refine Sim.region ?_ | refine Sim.block ?_ | refine Sim.skip ?_ | refine Sim.inBlock ?_ | refine Sim.exit rfl ?_ | refine Sim.condT rfl ?_ | refine Sim.condF rfl ?_)
    exact Sim.ret1 Try.func98 rfl rfl ⟨by rw [valsErr_len (by omega)], Up.refl _⟩
end Go.Proofs.Ytgckpmcdlciibab

namespace Go.Proofs.Ytgckpmcdlciibab
open Go.RowKit

def thgErr (l : List Typ) (xs : List Thg) (i : Nat) (x : Thg) : Int :=
  if findT l x.type < 0 then 5 else if named x.key = true ∧ ¬ 0 ≤ thingAt (xs.take i) x.type x.key then (match l[(findT l x.type).toNat]? with
    | some t => valsErr t.fields x.vals
    | none => 5) else 6
def thgsErr (l : List Typ) (xs : List Thg) : Flt :=
  if 60 < xs.length then ⟨4, 0⟩ else match firstBad (thgErr l xs) 0 xs with
    | some (i, e) => ⟨e, i⟩
    | none => ⟨0, 0⟩
theorem findT_get {l : List Typ} {n : Str} (h : ¬ findT l n < 0) : ∃ (j : Nat) (t : Typ), findT l n = (j : Int) ∧ l[j]? = some t ∧ t.name = n ∧ j < l.length := by
  obtain ⟨i, x, h1, h2, h3, h4⟩ := firstIdx_lt (l := l) (p := fun t => decide (t.name = n)) (by unfold findT at h; omega)
  exact ⟨i, x, h1, h2, by simpa using h3, h4⟩

set_option maxHeartbeats 400000 in
theorem ContainsThing_any {S : Nat → Prop} {v : Value} {l : List Thg} (t k : Str) (v2 : Value) (b bo oo : Nat) (w : World) (hl : SliceOf thgLay S w v l) (hb : At w b 0 [.pointer (some ⟨bo, oo, none⟩)]) (ho : At w bo oo [.string t, .string k, v2]) :
    Calls Try.prog 96 #[v, .func (.func 97) #[] #[.pointer (some ⟨b, 0, none⟩)]] w fun en w' => en = .returned (.bool (decide (0 ≤ thingAt l t k))) ∧ Up w w' := by
  obtain ⟨cells, hel, his⟩ := hl.elems
  refine (ContainsFunc_Thing (p := fun i => match l[i]? with | some x => decide (x.type = t ∧ x.key = k) | none => false) hel fun i hi w' hu => ?_).mono ?_
  · obtain ⟨vs, hcs, _⟩ := his i l[i] (List.getElem?_eq_getElem hi)
    rw [hcs]
    refine c_val (Things1_any _ _ t k _ _ _ _ v2 _ (hb.up hu) (ho.up hu)) ?_
    simp only [List.getElem?_eq_getElem hi]
  · rintro _ w' ⟨rfl, hu⟩
    rw [idx_firstIdx l (fun x => decide (x.type = t ∧ x.key = k)) _ (fun i x hx => by simp only [hx])]
    exact ⟨rfl, hu⟩

set_option maxHeartbeats 2000000 in
theorem Things_any {S S' : Nat → Prop} {v xv : Value} {l : List Typ} {xs : List Thg} (w : World) (hl : SliceOf typLay S w v l) (hxs : SliceOf thgLay S' w xv xs) :
    Calls Try.prog 63 #[v, xv] w fun en w' => en = .returned (fltV (thgsErr l xs)) ∧ Up w w' := by
  refine calls_of_sim Try.func63 rfl (Nat.le_of_ble_eq_true rfl) ?_
  obtain ⟨a, c, rfl, hnc, hcm, hel⟩ := id hxs
  obtain ⟨la, lc, rfl, hlnc, hlcm, _⟩ := id hl
  unfold maxLen at hcm hlcm
  repeat (first | refine RL.vv ?_ | refine RL.p ?_ | refine RL.nil ?_ | refine Sim.seq ?_ | refine Sim.region ?_ | refine Sim.block ?_ | refine Sim.skip ?_ | refine Sim.inBlock ?_ | refine Sim.exit rfl ?_ | refine Sim.condT rfl ?_ | refine Sim.condF rfl ?_)
  refine RL.alloc trivial rfl fun w1 hu hb hsz => ?_
  by_cases hbig : (60 : Int) < xs.length
  · repeat (first | refine RL.vv ?_ | refine RL.p ?_ | refine RL.nil ?_ | refine Sim.seq ?_ | refine Sim.region ?_ | refine Sim.block ?_ | refine Sim.skip ?_ | refine Sim.inBlock ?_ | refine Sim.exit rfl ?_ | refine Sim.condT rfl ?_ | refine Sim.condF rfl ?_)
    refine RL.val trivial rfl (y_build (v := .agg #[.int .i64 4, .int .i64 0]) rfl (fun w => by kernel_rfl)) ?_
    refine RL.store trivial rfl rfl hb rfl rfl (by simp [Value.oneCell']) (Nat.le_of_ble_eq_true rfl) rfl fun w2 hb2 hb3 => ?_
    have hu := hu.but hb2 (Nat.le_refl _)
    repeat (first | refine RL.vv ?_ | refine RL.p ?_ | refine RL.nil ?_ | refine Sim.seq ?_ | refine Sim.region ?_ | refine Sim.block ?_ | refine Sim.skip ?_ | refine Sim.inBlock ?_ | refine Sim.exit rfl ?_ | refine Sim.condT rfl ?_ | refine Sim.condF rfl ?_)
    exact Sim.retC Try.func63 rfl rfl hb3.at rfl ⟨by rw [thgsErr, if_pos (by omega)]; rfl, hu⟩
  have hw : thgsErr l xs = _ := if_neg (by omega)
  repeat (first | refine RL.vv ?_ | refine RL.p ?_ | refine RL.nil ?_ | refine Sim.seq ?_ | refine Sim.region ?_ | refine Sim.block ?_ | refine Sim.skip ?_ | refine Sim.inBlock ?_ | refine Sim.exit rfl ?_ | refine Sim.condT rfl ?_ | refine Sim.condF rfl ?_)
  refine Sim.loop (σ := Nat) (fun i => [(0, .slice la l.length lc), (1, .slice a xs.length c), (4, .pointer (some ⟨w.heap.size, 0, none⟩)), (14, .int .i64 (xs.length : Int)), (15, .int .i64 (i : Int))]) (fun i w' => i ≤ xs.length ∧ Up w w' ∧ Box w' w.heap.size 41 [.int .i64 0, .int .i64 0] ∧ ∀ (j : Nat) x, j < i → xs[j]? = some x → thgErr l xs j x = 0) (fun i => xs.length - i) 0 sb ⟨Nat.zero_le _, hu, hb, fun j x hj => absurd hj (Nat.not_lt_zero _)⟩ ?_
  clear hu hb hsz w1
  rintro i w1 ⟨hi, hu, hb, hno⟩ next
  by_cases hlt : i < xs.length
  · have hx : xs[i]? = some xs[i] := List.getElem?_eq_getElem hlt
    obtain ⟨b, o, cs, rfl, _, hat, ⟨kv, rfl, hkv⟩, _⟩ := hxs.at hx
    obtain ⟨ka, kc, rfl, hknc, hkcm, _⟩ := id hkv
    have hat : At w b (o + i * 3) _ := hat
    have htk := (hxs.take (i := i) (by omega))
    have bad : ∀ r, thgErr l xs i xs[i] = r → r ≠ 0 → thgsErr l xs = ⟨r, i⟩ := fun r hr h => by rw [hw, firstBad_hit hx hno (by rw [hr]; exact h)]; simp only [hr]
    have good := goodTo (g := thgErr l xs) hx hno
    unfold thgErr at bad good
    generalize xs[i] = x at *
    clear hno
    repeat (first | refine RL.vv ?_ | refine RL.p ?_ | refine RL.nil ?_ | refine Sim.seq ?_ | refine Sim.region ?_ | refine Sim.block ?_ | refine Sim.skip ?_ | refine Sim.inBlock ?_ | refine Sim.exit rfl ?_ | refine Sim.condT rfl ?_ | refine Sim.condF rfl ?_)
    refine RL.alloc trivial rfl fun w2 hu2 hb6 hs2 => ?_
    refine RL.store trivial rfl rfl hb6 rfl rfl (by simp [Value.oneCell']) (Nat.le_of_ble_eq_true rfl) rfl fun w3 hc3 hb6 => ?_
    have hb := (hb.up hu2).keep hc3.keep (by have := hb.lt; omega)
    have hu := (hu.trans hu2).but hc3 hu.size
    clear hu2 hc3 hs2
    generalize w1.heap.size = p6 at *
    repeat (first | refine RL.vv ?_ | refine RL.p ?_ | refine RL.nil ?_ | refine Sim.seq ?_ | refine Sim.region ?_ | refine Sim.block ?_ | refine Sim.skip ?_ | refine Sim.inBlock ?_ | refine Sim.exit rfl ?_ | refine Sim.condT rfl ?_ | refine Sim.condF rfl ?_)
    refine RL.call trivial rfl (c_static rfl) (Find_any x.type w3 (hl.up hu)) ?_
    rintro _ w4 ⟨rfl, hu4⟩
    refine ⟨_, rfl, ?_⟩
    have hb := hb.up hu4
    have hb6 := hb6.up hu4
    have hu := hu.trans hu4
    clear hu4
    by_cases hT : findT l x.type < 0
    · have hbad := bad 5 (if_pos hT) (by decide)
      clear bad good next
      repeat (first | refine RL.vv ?_ | refine RL.p ?_ | refine RL.nil ?_ | refine Sim.seq ?_ | refine Sim.region ?_ | refine Sim.block ?_ | refine Sim.skip ?_ | refine Sim.inBlock ?_ | refine Sim.exit rfl ?_ | refine Sim.condT rfl ?_ | refine Sim.condF rfl ?_)
      refine RL.val trivial rfl (y_build (v := .agg #[.int .i64 5, .int .i64 (i : Int)]) rfl (fun w => by kernel_rfl)) ?_
      refine RL.store trivial rfl rfl hb rfl rfl (by simp [Value.oneCell']) (Nat.le_of_ble_eq_true rfl) rfl fun w2 hb2 hb3 => ?_
      repeat (first | refine RL.vv ?_ | refine RL.p ?_ | refine RL.nil ?_ | refine Sim.seq ?_ | refine Sim.region ?_ | refine Sim.block ?_ | refine Sim.skip ?_ | refine Sim.inBlock ?_ | refine Sim.exit rfl ?_ | refine Sim.condT rfl ?_ | refine Sim.condF rfl ?_)
      exact Sim.retC Try.func63 rfl rfl hb3.at rfl ⟨by rw [hbad]; rfl, hu.but hb2 (Nat.le_refl _)⟩
    rw [if_neg hT] at bad good
    obtain ⟨j, t, hj, htj, _, hjl⟩ := findT_get hT
    rcases Bool.eq_false_or_eq_true (named x.key) with hn | hn
    · by_cases hF : 0 ≤ thingAt (xs.take i) x.type x.key
      · have hbad := bad 6 (if_neg (fun h => h.2 hF)) (by decide)
        clear bad good next
        repeat (first | refine RL.vv ?_ | refine RL.p ?_ | refine RL.nil ?_ | refine Sim.seq ?_ | refine Sim.region ?_ | refine Sim.block ?_ | refine Sim.skip ?_ | refine Sim.inBlock ?_ | refine Sim.exit rfl ?_ | refine Sim.condT rfl ?_ | refine Sim.condF rfl ?_)
        refine RL.call trivial rfl (c_static rfl) (c_val (Named_any x.key w4) (by rw [hn])) ?_
        rintro _ w5 ⟨rfl, hu5⟩
        refine ⟨_, rfl, ?_⟩
        have hu := hu.trans hu5
        repeat (first | refine RL.vv ?_ | refine RL.p ?_ | refine RL.nil ?_ | refine Sim.seq ?_ | refine Sim.region ?_ | refine Sim.block ?_ | refine Sim.skip ?_ | refine Sim.inBlock ?_ | refine Sim.exit rfl ?_ | refine Sim.condT rfl ?_ | refine Sim.condF rfl ?_)
        refine RL.call ⟨_, _, rfl, rfl, rfl⟩ rfl (c_static rfl) (c_val (ContainsThing_any x.type x.key _ _ _ _ w5 (htk.up hu) (hb6.up hu5).at (hat.up hu)) (by rw [decide_eq_true hF])) ?_
        rintro _ w6 ⟨rfl, hu6⟩
        refine ⟨_, rfl, ?_⟩
        have hu := hu.trans hu6
        have hb := (hb.up hu5).up hu6
        repeat (first | refine RL.vv ?_ | refine RL.p ?_ | refine RL.nil ?_ | refine Sim.seq ?_ | refine Sim.region ?_ | refine Sim.block ?_ | refine Sim.skip ?_ | refine Sim.inBlock ?_ | refine Sim.exit rfl ?_ | refine Sim.condT rfl ?_ | refine Sim.condF rfl ?_)
        refine RL.val trivial rfl (y_build (v := .agg #[.int .i64 6, .int .i64 (i : Int)]) rfl (fun w => by kernel_rfl)) ?_
        refine RL.store trivial rfl rfl hb rfl rfl (by simp [Value.oneCell']) (Nat.le_of_ble_eq_true rfl) rfl fun w2 hb2 hb3 => ?_
        repeat (first | refine RL.vv ?_ | refine RL.p ?_ | refine RL.nil ?_ | refine Sim.seq ?_ | refine Sim.region ?_ | refine Sim.block ?_ | refine Sim.skip ?_ | refine Sim.inBlock ?_ | refine Sim.exit rfl ?_ | refine Sim.condT rfl ?_ | refine Sim.condF rfl ?_)
        exact Sim.retC Try.func63 rfl rfl hb3.at rfl ⟨by rw [hbad]; rfl, hu.but hb2 (Nat.le_refl _)⟩
      · rw [if_pos ⟨hn, hF⟩, hj, Int.toNat_natCast, htj] at bad good
        simp only at bad good
        obtain ⟨b2, o2, cs2, rfl, _, hat2, ⟨fv, rfl, hfv⟩, _⟩ := hl.at htj
        have hat2 : At w b2 (o2 + j * 2) _ := hat2
        repeat (first | refine RL.vv ?_ | refine RL.p ?_ | refine RL.nil ?_ | refine Sim.seq ?_ | refine Sim.region ?_ | refine Sim.block ?_ | refine Sim.skip ?_ | refine Sim.inBlock ?_ | refine Sim.exit rfl ?_ | refine Sim.condT rfl ?_ | refine Sim.condF rfl ?_)
        refine RL.call trivial rfl (c_static rfl) (c_val (Named_any x.key w4) (by rw [hn])) ?_
        rintro _ w5 ⟨rfl, hu5⟩
        refine ⟨_, rfl, ?_⟩
        have hu := hu.trans hu5
        repeat (first | refine RL.vv ?_ | refine RL.p ?_ | refine RL.nil ?_ | refine Sim.seq ?_ | refine Sim.region ?_ | refine Sim.block ?_ | refine Sim.skip ?_ | refine Sim.inBlock ?_ | refine Sim.exit rfl ?_ | refine Sim.condT rfl ?_ | refine Sim.condF rfl ?_)
        refine RL.call ⟨_, _, rfl, rfl, rfl⟩ rfl (c_static rfl) (c_val (ContainsThing_any x.type x.key _ _ _ _ w5 (htk.up hu) (hb6.up hu5).at (hat.up hu)) (by rw [decide_eq_false hF])) ?_
        rintro _ w6 ⟨rfl, hu6⟩
        refine ⟨_, rfl, ?_⟩
        have hu := hu.trans hu6
        have hb := (hb.up hu5).up hu6
        have hb6 := (hb6.up hu5).up hu6
        clear hu5 hu6
        rw [hj]
        repeat (first | refine RL.vv ?_ | refine RL.p ?_ | refine RL.nil ?_ | refine Sim.seq ?_ | refine Sim.region ?_ | refine Sim.block ?_ | refine Sim.skip ?_ | refine Sim.inBlock ?_ | refine Sim.exit rfl ?_ | refine Sim.condT rfl ?_ | refine Sim.condF rfl ?_)
        refine Sim.quiet (Up w6) mixed (by kernel_rfl) (Up.drew _) ?_
        repeat (first | refine RQ.vv ?_ | refine RQ.p ?_)
        refine RQ.call trivial rfl (fun wq hq => c_static rfl) (fun wq hq => q_call (vals_any (t := t) wq (hkv.up (hu.trans hq)) (hat2.up (hu.trans hq)) (hfv.up (hu.trans hq))) hq) ?_
        repeat (first | refine RQ.vv ?_ | refine RQ.p ?_)
        refine RQ.nil fun w7 hq => ?_
        have hu := hu.trans hq
        have hb := hb.up hq
        by_cases h0 : valsErr t.fields x.vals = 0
        · repeat (first | refine RL.vv ?_ | refine RL.p ?_ | refine RL.nil ?_ | refine Sim.seq ?_ | refine Sim.region ?_ | refine Sim.block ?_ | refine Sim.skip ?_ | refine Sim.inBlock ?_ | refine Sim.exit rfl ?_ | refine Sim.condT rfl ?_ | refine Sim.condF rfl ?_)
          exact next (i + 1) _ _ ⟨by omega, hu, hb, good h0⟩ (by omega) sb
        · repeat (first | refine RL.vv ?_ | refine RL.p ?_ | refine RL.nil ?_ | refine Sim.seq ?_ | refine Sim.region ?_ | refine Sim.block ?_ | refine Sim.skip ?_ | refine Sim.inBlock ?_ | refine Sim.exit rfl ?_ | refine Sim.condT rfl ?_ | refine Sim.condF rfl ?_)
          refine RL.val trivial rfl (y_build (v := .agg #[.int .i64 (valsErr t.fields x.vals), .int .i64 (i : Int)]) rfl (fun w => by kernel_rfl)) ?_
          refine RL.store trivial rfl rfl hb rfl rfl (by simp [Value.oneCell']) (Nat.le_of_ble_eq_true rfl) rfl fun w2 hb2 hb3 => ?_
          repeat (first | refine RL.vv ?_ | refine RL.p ?_ | refine RL.nil ?_ | refine Sim.seq ?_ | refine Sim.region ?_ | refine Sim.block ?_ | refine Sim.skip ?_ | refine Sim.inBlock ?_ | refine Sim.exit rfl ?_ | refine Sim.condT rfl ?_ | refine Sim.condF rfl ?_)
          exact Sim.retC Try.func63 rfl rfl hb3.at rfl ⟨by rw [bad _ rfl h0]; rfl, hu.but hb2 (Nat.le_refl _)⟩
    · have hbad := bad 6 (if_neg (fun h => by rw [hn] at h; cases h.1)) (by decide)
      clear bad good next
      repeat (first | refine RL.vv ?_ | refine RL.p ?_ | refine RL.nil ?_ | refine Sim.seq ?_ | refine Sim.region ?_ | refine Sim.block ?_ | refine Sim.skip ?_ | refine Sim.inBlock ?_ | refine Sim.exit rfl ?_ | refine Sim.condT rfl ?_ | refine Sim.condF rfl ?_)
      refine RL.call trivial rfl (c_static rfl) (c_val (Named_any x.key w4) (by rw [hn])) ?_
      rintro _ w5 ⟨rfl, hu5⟩
      refine ⟨_, rfl, ?_⟩
      have hu := hu.trans hu5
      have hb := hb.up hu5
      repeat (first | refine RL.vv ?_ | refine RL.p ?_ | refine RL.nil ?_ | refine Sim.seq ?_ | refine Sim.region ?_ | refine Sim.block ?_ | refine Sim.skip ?_ | refine Sim.inBlock ?_ | refine Sim.exit rfl ?_ | refine Sim.condT rfl ?_ | refine Sim.condF rfl ?_)
      refine RL.val trivial rfl (y_build (v := .agg #[.int .i64 6, .int .i64 (i : Int)]) rfl (fun w => by kernel_rfl)) ?_
      refine RL.store trivial rfl rfl hb rfl rfl (by simp [Value.oneCell']) (Nat.le_of_ble_eq_true rfl) rfl fun w2 hb2 hb3 => ?_
      repeat (first | refine RL.vv ?_ | refine RL.p ?_ | refine RL.nil ?_ | refine Sim.seq ?_ | refine Sim.region ?_ | refine Sim.block ?_ | refine Sim.skip ?_ | refine Sim.inBlock ?_ | refine Sim.exit rfl ?_ | refine Sim.condT rfl ?_ | refine Sim.condF rfl ?_)
      exact Sim.retC Try.func63 rfl rfl hb3.at rfl ⟨by rw [hbad]; rfl, hu.but hb2 (Nat.le_refl _)⟩
  clear next
  rw [firstBad_none (goodAll hno hlt)] at hw
  repeat (first | refine RL.vv ?_ | refine RL.p ?_ | refine RL.nil ?_ | refine Sim.seq ?_ | refine Sim.region ?_ | refine Sim.block ?_ | refine Sim.skip ?_ | refine Sim.inBlock ?_ | refine Sim.exit rfl ?_ | refine Sim.condT rfl ?_ | refine Sim.condF rfl ?_)
  refine RL.val trivial rfl (y_build (v := .agg #[.int .i64 0, .int .i64 0]) rfl (fun w => by kernel_rfl)) ?_
  refine RL.store trivial rfl rfl hb rfl rfl (by simp [Value.oneCell']) (Nat.le_of_ble_eq_true rfl) rfl fun w2 hb2 hb3 => ?_
  repeat (first | refine RL.vv ?_ | refine RL.p ?_ | refine RL.nil ?_ | refine Sim.seq ?_ | refine Sim.region ?_ | refine Sim.block ?_ | refine Sim.skip ?_ | refine Sim.inBlock ?_ | refine Sim.exit rfl ?_ | refine Sim.condT rfl ?_ | refine Sim.condF rfl ?_)
  exact Sim.retC Try.func63 rfl rfl hb3.at rfl ⟨by rw [hw]; rfl, hu.but hb2 (Nat.le_refl _)⟩
end Go.Proofs.Ytgckpmcdlciibab
