import Derived.Test.YtgckpmcdlciibaaC8
import Derived.Test.YtgckpmcdlciibaaC9
namespace Go.Proofs.Ytgckpmcdlciibaa
open Go.RowKit

def okVs (l : List VVal) : Prop := ∀ v ∈ l, ∀ k ∈ v.keys, k.size ≤ maxLen
def allTo (l : List Str) (n : Nat) : Prop := ∀ (j : Nat) x, j < n → l[j]? = some x → named x = true

set_option maxHeartbeats 2000000 in
theorem RWrongVals_any {S S' : Nat → Prop} {v fv : Value} {l : List VVal} {t : Typ} {tb to : Nat} (w : World) (hl : SliceOf valLay S w v l) (hat : At w tb to [.string t.name, fv]) (hf : SliceOf fldLay S' w fv t.fields) (hok : okVs l) :
    Calls Try.prog 68 #[.pointer (some ⟨tb, to, none⟩), v] w fun en w' => en = .returned (.int .i64 (valsErr t.fields l)) ∧ Up w w' := by
  refine calls_of_sim Try.func68 rfl (Nat.le_of_ble_eq_true rfl) ?_
  obtain ⟨a, c, rfl, hnc, hcm, hel⟩ := id hl
  obtain ⟨fa, fc, rfl, hfnc, hfcm, hfel⟩ := id hf
  unfold maxLen at hcm hfcm
  by_cases hlen : (l.length : Int) = t.fields.length
  · have hve := valsErr_eq (fs := t.fields) (l := l) (by omega)
    repeat (first | refine RL.vv ?_ | refine RL.p ?_ | refine RL.nil ?_ | refine Sim.seq ?_ | refine Sim.region ?_ | refine Sim.block ?_ | refine Sim.skip ?_ | refine Sim.inBlock ?_ | refine Sim.exit rfl ?_ | refine Sim.condT rfl ?_ | refine Sim.condF rfl ?_)
    refine Sim.loop (σ := Nat) (fun i => [(0, .pointer (some ⟨tb, to, none⟩)), (1, .slice a l.length c), (21, .slice fa t.fields.length fc), (22, .int .i64 (t.fields.length : Int)), (23, .int .i64 (i : Int))]) (fun i w' => i ≤ l.length ∧ Up w w' ∧ ∀ (j : Nat) x, j < i → l[j]? = some x → valG t.fields j x = 0) (fun i => l.length - i) 0 sb ⟨Nat.zero_le _, Up.refl _, fun j x hj => absurd hj (Nat.not_lt_zero _)⟩ ?_
    rintro i w1 ⟨hi, hu, hno⟩ next
    by_cases hlt : i < l.length
    · have hx : l[i]? = some l[i] := List.getElem?_eq_getElem hlt
      obtain ⟨b, o, cs, rfl, _, hat1, ⟨kv, rfl, hkv⟩, _⟩ := hl.at hx
      obtain ⟨ka, kc, rfl, hknc, hkcm, _⟩ := id hkv
      unfold maxLen at hkcm
      have hat1 : At w b (o + i * 3) _ := hat1
      have hx2 : t.fields[i]? = some t.fields[i] := List.getElem?_eq_getElem (by omega)
      obtain ⟨b2, o2, cs2, rfl, _, hat2, rfl, _⟩ := hf.at hx2
      have hat2 : At w b2 (o2 + i * 3) _ := hat2
      have hg : valG t.fields i l[i] = valErr t.fields[i] l[i] := by rw [valG, hx2]
      have bad : ∀ r, valErr t.fields[i] l[i] = r → r ≠ 0 → valsErr t.fields l = r := fun r hr hne => by rw [hve, firstBad_hit hx hno (by rw [hg, hr]; exact hne)]; simp only [hg, hr]
      have good : valErr t.fields[i] l[i] = 0 → _ := fun h => goodTo (g := valG t.fields) hx hno (hg.trans h)
      have hokk := hok _ (mem_of_get hx)
      generalize l[i] = x at *
      have hif : i < t.fields.length := by omega
      generalize t.fields[i] = f at *
      clear hno hg
      repeat (first | refine RL.vv ?_ | refine RL.p ?_ | refine RL.nil ?_ | refine Sim.seq ?_ | refine Sim.region ?_ | refine Sim.block ?_ | refine Sim.skip ?_ | refine Sim.inBlock ?_ | refine Sim.exit rfl ?_ | refine Sim.condT rfl ?_ | refine Sim.condF rfl ?_)
      refine RL.alloc trivial rfl fun w2 hu2 hb6 _ => ?_
      repeat (first | refine RL.vv ?_ | refine RL.p ?_ | refine RL.nil ?_ | refine Sim.seq ?_ | refine Sim.region ?_ | refine Sim.block ?_ | refine Sim.skip ?_ | refine Sim.inBlock ?_ | refine Sim.exit rfl ?_ | refine Sim.condT rfl ?_ | refine Sim.condF rfl ?_)
      refine RL.store trivial rfl rfl hb6 rfl rfl (by simp [Value.oneCell']) (Nat.le_of_ble_eq_true rfl) rfl fun w3 hc3 hb6 => ?_
      have hu := (hu.trans hu2).but hc3 hu.size
      clear hu2 hc3
      repeat (first | refine RL.vv ?_ | refine RL.p ?_ | refine RL.nil ?_ | refine Sim.seq ?_ | refine Sim.region ?_ | refine Sim.block ?_ | refine Sim.skip ?_ | refine Sim.inBlock ?_ | refine Sim.exit rfl ?_ | refine Sim.condT rfl ?_ | refine Sim.condF rfl ?_)
      refine RL.alloc trivial rfl fun w4 hu4 hb7 _ => ?_
      refine RL.store trivial rfl rfl hb7 rfl rfl (by simp [Value.oneCell']) (Nat.le_of_ble_eq_true rfl) rfl fun w5 hc5 hb7 => ?_
      have hb6 := (hb6.up hu4).keep hc5.keep (by have := hb6.lt; omega)
      have hu := (hu.trans hu4).but hc5 hu.size
      clear hu4 hc5
      by_cases hn : x.field = f.name
      · by_cases h2 : (f.kind = 1 ∧ 0 < x.keys.length) ∨ (¬ f.kind = 1 ∧ ¬ x.text = ⟨#[]⟩)
        · rcases h2 with ⟨h2, h3⟩ | ⟨h2, h3⟩
          · have h4 : (0 : Int) < x.keys.length := by omega
            repeat (first | refine RL.vv ?_ | refine RL.p ?_ | refine RL.nil ?_ | refine Sim.seq ?_ | refine Sim.region ?_ | refine Sim.block ?_ | refine Sim.skip ?_ | refine Sim.inBlock ?_ | refine Sim.exit rfl ?_ | refine Sim.condT rfl ?_ | refine Sim.condF rfl ?_)
            exact Sim.ret1 Try.func68 rfl rfl ⟨by rw [bad 7 (valErr_fit hn (.inl ⟨h2, h3⟩)) (by decide)], hu⟩
          · repeat (first | refine RL.vv ?_ | refine RL.p ?_ | refine RL.nil ?_ | refine Sim.seq ?_ | refine Sim.region ?_ | refine Sim.block ?_ | refine Sim.skip ?_ | refine Sim.inBlock ?_ | refine Sim.exit rfl ?_ | refine Sim.condT rfl ?_ | refine Sim.condF rfl ?_)
            exact Sim.ret1 Try.func68 rfl rfl ⟨by rw [bad 7 (valErr_fit hn (.inr ⟨h2, h3⟩)) (by decide)], hu⟩
        by_cases h3 : (f.kind = 2 ∧ 1 < x.keys.length) ∨ 20 < x.keys.length
        · have hr := bad 4 (valErr_many hn h2 h3) (by decide)
          have ha : (f.kind = 1 ∧ ¬ (0 : Int) < x.keys.length) ∨ (¬ f.kind = 1 ∧ x.text = ⟨#[]⟩) := by
            by_cases h : f.kind = 1
            · exact .inl ⟨h, fun hh => h2 (.inl ⟨h, by omega⟩)⟩
            · exact .inr ⟨h, Classical.byContradiction fun hh => h2 (.inr ⟨h, hh⟩)⟩
          clear h2 bad good next
          rcases ha with ⟨h2, h4⟩ | ⟨h2, h4⟩
          · exact absurd h3 (by omega)
          · by_cases h6 : (20 : Int) < x.keys.length
            · repeat (first | refine RL.vv ?_ | refine RL.p ?_ | refine RL.nil ?_ | refine Sim.seq ?_ | refine Sim.region ?_ | refine Sim.block ?_ | refine Sim.skip ?_ | refine Sim.inBlock ?_ | refine Sim.exit rfl ?_ | refine Sim.condT rfl ?_ | refine Sim.condF rfl ?_)
              exact Sim.ret1 Try.func68 rfl rfl ⟨by rw [hr], hu⟩
            · have h5 : f.kind = 2 := by omega
              have h7 : (1 : Int) < x.keys.length := by omega
              repeat (first | refine RL.vv ?_ | refine RL.p ?_ | refine RL.nil ?_ | refine Sim.seq ?_ | refine Sim.region ?_ | refine Sim.block ?_ | refine Sim.skip ?_ | refine Sim.inBlock ?_ | refine Sim.exit rfl ?_ | refine Sim.condT rfl ?_ | refine Sim.condF rfl ?_)
              exact Sim.ret1 Try.func68 rfl rfl ⟨by rw [hr], hu⟩
        have hrest := valErr_rest hn h2 h3
        have hfits := fits_of h2 h3
        clear h2 h3
        rw [hrest] at bad good
        clear hrest
        by_cases h4 : (40 : Int) < x.text.size
        · rw [if_pos (by omega)] at bad
          clear good next
          rcases hfits with ⟨f1, f2, f3, f4⟩ | ⟨f1, f2, f3, f4, f5⟩ | ⟨f1, f2, f3, f4⟩ <;>
          · repeat (first | refine RL.vv ?_ | refine RL.p ?_ | refine RL.nil ?_ | refine Sim.seq ?_ | refine Sim.region ?_ | refine Sim.block ?_ | refine Sim.skip ?_ | refine Sim.inBlock ?_ | refine Sim.exit rfl ?_ | refine Sim.condT rfl ?_ | refine Sim.condF rfl ?_)
            exact Sim.ret1 Try.func68 rfl rfl ⟨by rw [bad 3 rfl (by decide)], hu⟩
        rw [if_neg (by omega)] at bad good
        rcases hfits with ⟨f1, f2, f3, f4⟩ | ⟨f1, f2, f3, f4, f5⟩ | ⟨f1, f2, f3, f4⟩ <;>
        · repeat (first | refine RL.vv ?_ | refine RL.p ?_ | refine RL.nil ?_ | refine Sim.seq ?_ | refine Sim.region ?_ | refine Sim.block ?_ | refine Sim.skip ?_ | refine Sim.inBlock ?_ | refine Sim.exit rfl ?_ | refine Sim.condT rfl ?_ | refine Sim.condF rfl ?_)
          refine Sim.loop (σ := Nat) (fun m => [(0, .pointer (some ⟨tb, to, none⟩)), (1, .slice (some ⟨b, o, none⟩) l.length c), (21, .slice (some ⟨b2, o2, none⟩) t.fields.length fc), (22, .int .i64 (t.fields.length : Int)), (23, .int .i64 (i : Int)), (76, .slice ka x.keys.length kc), (77, .int .i64 (x.keys.length : Int)), (78, .int .i64 (m : Int))]) (fun m w' => m ≤ x.keys.length ∧ Up w w' ∧ allTo x.keys m) (fun m => x.keys.length - m) 0 sb ⟨Nat.zero_le _, hu, fun j x hj => absurd hj (Nat.not_lt_zero _)⟩ ?_
          clear hu hb6 hb7
          rintro m w6 ⟨hm, hu, hna⟩ next2
          by_cases hlm : m < x.keys.length
          · clear next good
            have hxk : x.keys[m]? = some x.keys[m] := List.getElem?_eq_getElem hlm
            obtain ⟨b3, o3, cs3, rfl, _, hat3, rfl, _⟩ := hkv.at hxk
            have hat3 : At w b3 (o3 + m * 1) _ := hat3
            have hks := hokk _ (mem_of_get hxk)
            repeat (first | refine RL.vv ?_ | refine RL.p ?_ | refine RL.nil ?_ | refine Sim.seq ?_ | refine Sim.region ?_ | refine Sim.block ?_ | refine Sim.skip ?_ | refine Sim.inBlock ?_ | refine Sim.exit rfl ?_ | refine Sim.condT rfl ?_ | refine Sim.condF rfl ?_)
            rcases Bool.eq_false_or_eq_true (named x.keys[m]) with hn2 | hn2
            · refine RL.call trivial rfl (c_static rfl) (c_val (RNamed_any x.keys[m] _ hks) (by rw [hn2])) ?_
              rintro _ w9 ⟨rfl, hu9⟩
              refine ⟨_, rfl, ?_⟩
              repeat (first | refine RL.vv ?_ | refine RL.p ?_ | refine RL.nil ?_ | refine Sim.seq ?_ | refine Sim.region ?_ | refine Sim.block ?_ | refine Sim.skip ?_ | refine Sim.inBlock ?_ | refine Sim.exit rfl ?_ | refine Sim.condT rfl ?_ | refine Sim.condF rfl ?_)
              refine next2 (m + 1) _ _ ⟨by omega, hu.trans hu9, fun j y hj hy => ?_⟩ (by omega) sb
              by_cases hjm : j = m
              · subst hjm; rw [hxk] at hy; cases hy; exact hn2
              · exact hna j y (by omega) hy
            · refine RL.call trivial rfl (c_static rfl) (c_val (RNamed_any x.keys[m] _ hks) (by rw [hn2])) ?_
              rintro _ w9 ⟨rfl, hu9⟩
              refine ⟨_, rfl, ?_⟩
              repeat (first | refine RL.vv ?_ | refine RL.p ?_ | refine RL.nil ?_ | refine Sim.seq ?_ | refine Sim.region ?_ | refine Sim.block ?_ | refine Sim.skip ?_ | refine Sim.inBlock ?_ | refine Sim.exit rfl ?_ | refine Sim.condT rfl ?_ | refine Sim.condF rfl ?_)
              have hall : ¬ x.keys.all named = true := fun h => by
                have := List.all_eq_true.1 h _ (mem_of_get hxk)
                rw [hn2] at this
                cases this
              exact Sim.ret1 Try.func68 rfl rfl ⟨by rw [bad 6 (if_neg hall) (by decide)], hu.trans hu9⟩
          · clear next2 bad
            have hall : x.keys.all named = true := List.all_eq_true.2 fun y hy => by
              obtain ⟨j, hj, rfl⟩ := List.getElem_of_mem hy
              exact hna j _ (by omega) (List.getElem?_eq_getElem hj)
            repeat (first | refine RL.vv ?_ | refine RL.p ?_ | refine RL.nil ?_ | refine Sim.seq ?_ | refine Sim.region ?_ | refine Sim.block ?_ | refine Sim.skip ?_ | refine Sim.inBlock ?_ | refine Sim.exit rfl ?_ | refine Sim.condT rfl ?_ | refine Sim.condF rfl ?_)
            exact next (i + 1) _ _ ⟨by omega, hu, good (if_pos hall)⟩ (by omega) sb
      · repeat (first | refine RL.vv ?_ | refine RL.p ?_ | refine RL.nil ?_ | refine Sim.seq ?_ | refine Sim.region ?_ | refine Sim.block ?_ | refine Sim.skip ?_ | refine Sim.inBlock ?_ | refine Sim.exit rfl ?_ | refine Sim.condT rfl ?_ | refine Sim.condF rfl ?_)
        exact Sim.ret1 Try.func68 rfl rfl ⟨by rw [bad 6 (valErr_name hn) (by decide)], hu⟩
    · repeat (first | refine RL.vv ?_ | refine RL.p ?_ | refine RL.nil ?_ | refine Sim.seq ?_ | refine Sim.region ?_ | refine Sim.block ?_ | refine Sim.skip ?_ | refine Sim.inBlock ?_ | refine Sim.exit rfl ?_ | refine Sim.condT rfl ?_ | refine Sim.condF rfl ?_)
      exact Sim.ret1 Try.func68 rfl rfl ⟨by rw [hve, firstBad_none (goodAll hno hlt)], hu⟩
  · repeat (first | refine RL.vv ?_ | refine RL.p ?_ | refine RL.nil ?_ | refine Sim.seq ?_ | refine Sim.region ?_ | refine Sim.block ?_ | refine Sim.skip ?_ | refine Sim.inBlock ?_ | refine Sim.exit rfl ?_ | refine Sim.condT rfl ?_ | refine Sim.condF rfl ?_)
    exact Sim.ret1 Try.func68 rfl rfl ⟨by rw [valsErr_len (by omega)], Up.refl _⟩
end Go.Proofs.Ytgckpmcdlciibaa
