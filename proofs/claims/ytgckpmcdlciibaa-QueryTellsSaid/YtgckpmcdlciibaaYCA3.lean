/- The document's chapter 4, walked: what is asked, as a text. -/
import Derived.Test.YtgckpmcdlciibaaZC3
namespace Go.Proofs.Ytgckpmcdlciibaa
open Go.RowKit
def RTextC (m : Nat) : Prop := ∀ {S : Nat → Prop} {v : Value} {l : List Pck} (w : World), SliceOf (pckLay m) S w v l → (textT (m + 1) l).length ≤ 100000 →
  Calls Try.prog 94 #[v] w fun en w' => en = .returned (.string (strT (textT (m + 1) l))) ∧ Up w w'
set_option maxHeartbeats 4000000 in
theorem RText_gen {m : Nat} (H : ∀ n, m = n + 1 → RTextC n) : RTextC m := by
  intro S v l w hl hsz
  refine calls_of_sim Try.func94 rfl (Nat.le_of_ble_eq_true rfl) ?_
  obtain ⟨a, c, rfl, hnc, hcm, _⟩ := id hl
  unfold maxLen at hcm
  have ht : textT (m + 1) l = preT (textT m) l ++ [125] := list_pre _ _
  rw [ht, List.length_append, List.length_singleton] at hsz
  have hple := pre_le (textT m) l
  have e0 : (⟨#[123]⟩ : Str) = strT (preT (textT m) (l.take 0)) := rfl
  repeat (first | refine RL.vv ?_ | refine RL.p ?_ | refine RL.nil ?_ | refine Sim.seq ?_ | refine Sim.region ?_ | refine Sim.block ?_ | refine Sim.skip ?_ | refine Sim.inBlock ?_ | refine Sim.exit rfl ?_ | refine Sim.condT rfl ?_ | refine Sim.condF rfl ?_)
  refine Sim.loop (σ := Nat) (fun i => [(0, .slice a l.length c), (3, .string (strT (preT (textT m) (l.take i)))), (6, .slice a l.length c), (7, .int .i64 (l.length : Int)), (8, .int .i64 (i : Int))])
    (fun i w' => i ≤ l.length ∧ Up w w') (fun i => l.length - i) 0 sb ⟨Nat.zero_le _, .refl _⟩ ?_
  rintro i w3 ⟨hi, hu⟩ next
  have hpi := hple (l.length - i) i (by omega)
  by_cases hlt : i < l.length
  rotate_left
  · have : i = l.length := by omega
    subst this
    rw [List.take_length] at hpi ⊢
    repeat (first | refine RL.vv ?_ | refine RL.p ?_ | refine RL.nil ?_ | refine Sim.seq ?_ | refine Sim.region ?_ | refine Sim.block ?_ | refine Sim.skip ?_ | refine Sim.inBlock ?_ | refine Sim.exit rfl ?_ | refine Sim.condT rfl ?_ | refine Sim.condF rfl ?_)
    refine RL.vv ?_ (hy := y_cats rfl rfl (by rw [size_strT]; show _ + 1 ≤ _; omega))
    rw [strT_one, ← ht]
    repeat (first | refine RL.vv ?_ | refine RL.p ?_ | refine RL.nil ?_ | refine Sim.seq ?_ | refine Sim.region ?_ | refine Sim.block ?_ | refine Sim.skip ?_ | refine Sim.inBlock ?_ | refine Sim.exit rfl ?_ | refine Sim.condT rfl ?_ | refine Sim.condF rfl ?_)
    first
      | exact Sim.ret1 Try.func94 rfl rfl ⟨rfl, hu⟩
      | exact Sim.fin1 Try.func94 rfl rfl ⟨rfl, hu⟩
  have hx : l[i]? = some l[i] := List.getElem?_eq_getElem hlt
  have hpj := hple (l.length - (i + 1)) (i + 1) (by omega)
  have hsn := pre_snoc (textT m) hx
  cases m with
  | zero =>
    obtain ⟨_, _, _, _, _, _, hh, _⟩ := hl.at hx
    exact hh.elim
  | succ m =>
  obtain ⟨kb, ko, cs, rfl, _, hkat, hkis, _⟩ := (hl.up hu).at hx
  have hkat : At w3 kb (ko + i * 3) _ := hkat
  generalize l[i] = q at *
  obtain ⟨qv, rfl, hqv⟩ := pckLay_succ hkis
  obtain ⟨qa, qc, rfl, _⟩ := id hqv
  rw [hsn, List.length_append, List.length_append] at hpj
  unfold pickT at hsn hpj
  repeat (first | refine RL.vv ?_ | refine RL.p ?_ | refine RL.nil ?_ | refine Sim.seq ?_ | refine Sim.region ?_ | refine Sim.block ?_ | refine Sim.skip ?_ | refine Sim.inBlock ?_ | refine Sim.exit rfl ?_ | refine Sim.condT rfl ?_ | refine Sim.condF rfl ?_)
  refine RL.al hu fun b5 w4 he5 hle5 hu4 h34 hb5 => ?_
  repeat (first | refine RL.vv ?_ | refine RL.p ?_ | refine RL.nil ?_ | refine Sim.seq ?_ | refine Sim.region ?_ | refine Sim.block ?_ | refine Sim.skip ?_ | refine Sim.inBlock ?_ | refine Sim.exit rfl ?_ | refine Sim.condT rfl ?_ | refine Sim.condF rfl ?_)
  refine RL.st hu4 hb5 hle5 fun w5 hu5 hbt hb5 => ?_
  have hb5 : Box w5 b5 93 [.string q.as, .string q.field, .slice qa q.picks.length qc] := hb5
  have h35 : Up w3 w5 := Up.but h34 hbt (Nat.le_of_eq he5.symm)
  have hqv := hqv.up h35
  clear hbt h34 hu4 he5 hu hkat hkis
  have ha5 := hb5.at
  refine RL.nil ?_
  ((repeat refine Sim.seq ?_); refine Sim.region ?_; (repeat (first | refine RL.vv ?_ | refine RL.p ?_)); refine RL.nil ?_)
  refine Sim.cutX (σ := Unit) (fun _ => [(0, .slice (some ⟨kb, ko, none⟩) l.length c), (3, .string (strT (preT (textT (m + 1)) (l.take i) ++ if 0 < i then [32] else []))), (6, .slice (some ⟨kb, ko, none⟩) l.length c), (7, .int .i64 (l.length : Int)), (8, .int .i64 (i : Int)), (5, .pointer (some ⟨b5, 0, none⟩))]) (fun _ w' => w' = w5) (fun k' next1 => ?_) ?_
  · refine Sim.cond rfl (fun ht => ?_) (fun hf => ?_)
    · have h0 : 0 < i := by have := of_decide_eq_true ht; omega
      rw [if_pos h0] at next1
      repeat (first | refine RL.vv ?_ | refine RL.p ?_ | refine RL.nil ?_ | refine Sim.seq ?_ | refine Sim.region ?_ | refine Sim.block ?_ | refine Sim.skip ?_ | refine Sim.inBlock ?_ | refine Sim.exit rfl ?_ | refine Sim.condT rfl ?_ | refine Sim.condF rfl ?_)
      refine RL.vv ?_ (hy := y_cats rfl rfl (by rw [size_strT]; show _ + 1 ≤ _; omega))
      rw [strT_one]
      repeat (first | refine RL.vv ?_ | refine RL.p ?_ | refine RL.nil ?_ | refine Sim.seq ?_ | refine Sim.region ?_ | refine Sim.block ?_ | refine Sim.skip ?_ | refine Sim.inBlock ?_ | refine Sim.exit rfl ?_ | refine Sim.condT rfl ?_ | refine Sim.condF rfl ?_)
      exact next1 () _ _ rfl sb
    · have h0 : ¬ 0 < i := by have := of_decide_eq_false hf; omega
      rw [if_neg h0, List.append_nil] at next1
      repeat (first | refine RL.vv ?_ | refine RL.p ?_ | refine RL.nil ?_ | refine Sim.seq ?_ | refine Sim.region ?_ | refine Sim.block ?_ | refine Sim.skip ?_ | refine Sim.inBlock ?_ | refine Sim.exit rfl ?_ | refine Sim.condT rfl ?_ | refine Sim.condF rfl ?_)
      exact next1 () _ _ rfl sb
  rintro ⟨⟩ w6 rfl
  have hpj' : (preT (textT (m + 1)) (l.take i) ++ (if 0 < i then [32] else [])).length + ((if q.as = (⟨#[]⟩ : Str) then [] else bytes q.as ++ [58]) ++ bytes q.field ++ (if 0 < q.picks.length then textT (m + 1) q.picks else [])).length ≤ (preT (textT (m + 1)) l).length := by
    rw [List.length_append]
    exact hpj
  clear hpj
  have hpj := hpj'
  clear hpj' hpi
  generalize preT (textT (m + 1)) (l.take i) ++ (if 0 < i then [32] else []) = X at *
  repeat (first | refine RL.vv ?_ | refine RL.p ?_ | refine RL.nil ?_ | refine Sim.seq ?_ | refine Sim.region ?_ | refine Sim.block ?_ | refine Sim.skip ?_ | refine Sim.inBlock ?_ | refine Sim.exit rfl ?_ | refine Sim.condT rfl ?_ | refine Sim.condF rfl ?_)
  refine Sim.cutX (σ := Unit) (fun _ => [(0, .slice (some ⟨kb, ko, none⟩) l.length c), (3, .string (strT (X ++ if q.as = (⟨#[]⟩ : Str) then [] else bytes q.as ++ [58]))), (6, .slice (some ⟨kb, ko, none⟩) l.length c), (7, .int .i64 (l.length : Int)), (8, .int .i64 (i : Int)), (5, .pointer (some ⟨b5, 0, none⟩))]) (fun _ w' => w' = w6) (fun k' next2 => ?_) ?_
  · refine Sim.cond rfl (fun ht => ?_) (fun hf => ?_)
    · have h0 : ¬ q.as = ⟨#[]⟩ := of_decide_eq_true ht
      rw [if_neg h0] at next2
      simp only [if_neg h0, List.length_append, List.length_singleton, bytes_len] at hpj
      repeat (first | refine RL.vv ?_ | refine RL.p ?_ | refine RL.nil ?_ | refine Sim.seq ?_ | refine Sim.region ?_ | refine Sim.block ?_ | refine Sim.skip ?_ | refine Sim.inBlock ?_ | refine Sim.exit rfl ?_ | refine Sim.condT rfl ?_ | refine Sim.condF rfl ?_)
      refine RL.vv ?_ (hy := y_cats rfl rfl (by rw [size_strT]; omega))
      rw [strT_cat]
      refine RL.vv ?_ (hy := y_cats rfl rfl (by rw [size_strT, List.length_append, bytes_len]; show _ + 1 ≤ _; omega))
      rw [strT_one, List.append_assoc]
      repeat (first | refine RL.vv ?_ | refine RL.p ?_ | refine RL.nil ?_ | refine Sim.seq ?_ | refine Sim.region ?_ | refine Sim.block ?_ | refine Sim.skip ?_ | refine Sim.inBlock ?_ | refine Sim.exit rfl ?_ | refine Sim.condT rfl ?_ | refine Sim.condF rfl ?_)
      exact next2 () _ _ rfl sb
    · have h0 : q.as = ⟨#[]⟩ := Classical.not_not.1 (of_decide_eq_false hf)
      rw [if_pos h0, List.append_nil] at next2
      repeat (first | refine RL.vv ?_ | refine RL.p ?_ | refine RL.nil ?_ | refine Sim.seq ?_ | refine Sim.region ?_ | refine Sim.block ?_ | refine Sim.skip ?_ | refine Sim.inBlock ?_ | refine Sim.exit rfl ?_ | refine Sim.condT rfl ?_ | refine Sim.condF rfl ?_)
      exact next2 () _ _ rfl sb
  rintro ⟨⟩ w7 rfl
  simp only [List.length_append, bytes_len] at hpj
  generalize hY : (if q.as = (⟨#[]⟩ : Str) then ([] : Txt) else bytes q.as ++ [58]) = Y at *
  repeat (first | refine RL.vv ?_ | refine RL.p ?_ | refine RL.nil ?_ | refine Sim.seq ?_ | refine Sim.region ?_ | refine Sim.block ?_ | refine Sim.skip ?_ | refine Sim.inBlock ?_ | refine Sim.exit rfl ?_ | refine Sim.condT rfl ?_ | refine Sim.condF rfl ?_)
  refine RL.vv ?_ (hy := y_cats rfl rfl (by rw [size_strT, List.length_append]; omega))
  rw [strT_cat]
  by_cases hk0 : (0 : Int) < q.picks.length
  · rw [if_pos (by omega)] at hpj hsn
    repeat (first | refine RL.vv ?_ | refine RL.p ?_ | refine RL.nil ?_ | refine Sim.seq ?_ | refine Sim.region ?_ | refine Sim.block ?_ | refine Sim.skip ?_ | refine Sim.inBlock ?_ | refine Sim.exit rfl ?_ | refine Sim.condT rfl ?_ | refine Sim.condF rfl ?_)
    refine RL.cu hu5 (H m rfl w7 hqv (by omega)) fun w8 hu8 _ => ?_
    refine RL.vv ?_ (hy := y_cats rfl rfl (by rw [size_strT, size_strT, List.length_append, List.length_append, bytes_len]; omega))
    rw [strT_app]
    have hfin : X ++ Y ++ bytes q.field ++ textT (m + 1) q.picks = preT (textT (m + 1)) (l.take (i + 1)) := by rw [hsn]; simp only [List.append_assoc]
    rw [hfin]
    repeat (first | refine RL.vv ?_ | refine RL.p ?_ | refine RL.nil ?_ | refine Sim.seq ?_ | refine Sim.region ?_ | refine Sim.block ?_ | refine Sim.skip ?_ | refine Sim.inBlock ?_ | refine Sim.exit rfl ?_ | refine Sim.condT rfl ?_ | refine Sim.condF rfl ?_)
    exact next (i + 1) w8 _ ⟨by omega, hu8⟩ (by omega) sb
  · rw [if_neg (by omega)] at hpj hsn
    have hfin : X ++ Y ++ bytes q.field = preT (textT (m + 1)) (l.take (i + 1)) := by rw [hsn]; simp only [List.append_assoc, List.append_nil]
    rw [hfin]
    repeat (first | refine RL.vv ?_ | refine RL.p ?_ | refine RL.nil ?_ | refine Sim.seq ?_ | refine Sim.region ?_ | refine Sim.block ?_ | refine Sim.skip ?_ | refine Sim.inBlock ?_ | refine Sim.exit rfl ?_ | refine Sim.condT rfl ?_ | refine Sim.condF rfl ?_)
    exact next (i + 1) w7 _ ⟨by omega, hu5⟩ (by omega) sb
theorem RText_any : ∀ m, RTextC m
  | 0 => RText_gen fun n h => by cases h
  | m + 1 => RText_gen fun n h => by cases h; exact RText_any m
set_option maxHeartbeats 2000000 in
theorem RPrint_any {m : Nat} {S : Nat → Prop} {v : Value} (q : Ak) (w : World) (hl : SliceOf (pckLay (m + 1)) S w v q.picks) (hok : ∀ p ∈ q.picks, okPck (m + 1) p) (h1 : q.type.size ≤ maxLen) (h2 : q.key.size ≤ maxLen) :
    Calls Try.prog 48 #[.agg #[.string q.type, .string q.key, v]] w fun en w' => en = .returned (.tuple #[.string (printM (m + 1) q).1, .int .i64 (printM (m + 1) q).2]) ∧ Up w w' := by
  refine calls_of_sim Try.func48 rfl (Nat.le_of_ble_eq_true rfl) ?_
  obtain ⟨a, c, rfl, hnc, hcm, hel⟩ := id hl
  repeat (first | refine RL.vv ?_ | refine RL.p ?_ | refine RL.nil ?_ | refine Sim.seq ?_ | refine Sim.region ?_ | refine Sim.block ?_ | refine Sim.skip ?_ | refine Sim.inBlock ?_ | refine Sim.exit rfl ?_ | refine Sim.condT rfl ?_ | refine Sim.condF rfl ?_)
  refine RL.bx (.refl w) fun b1 w1 he1 hle1 hu1 _ hb1 => ?_
  have hb1 : Box w1 b1 41 [.string q.type, .string q.key, .slice a q.picks.length c] := hb1
  have ha1 := hb1.at
  repeat (first | refine RL.vv ?_ | refine RL.p ?_ | refine RL.nil ?_ | refine Sim.seq ?_ | refine Sim.region ?_ | refine Sim.block ?_ | refine Sim.skip ?_ | refine Sim.inBlock ?_ | refine Sim.exit rfl ?_ | refine Sim.condT rfl ?_ | refine Sim.condF rfl ?_)
  refine RL.cu hu1 (RWrongAsk_any q w1 (hl.up hu1) hok h1 h2) fun w2 hu2 h12 => ?_
  have hb1 := hb1.up h12
  have ha1 := hb1.at
  unfold printM
  by_cases h : wrongAsk (m + 1) q = 0
  rotate_left
  · rw [if_neg h]
    repeat (first | refine RL.vv ?_ | refine RL.p ?_ | refine RL.nil ?_ | refine Sim.seq ?_ | refine Sim.region ?_ | refine Sim.block ?_ | refine Sim.skip ?_ | refine Sim.inBlock ?_ | refine Sim.exit rfl ?_ | refine Sim.condT rfl ?_ | refine Sim.condF rfl ?_)
    exact Sim.ret2 Try.func48 rfl rfl rfl ⟨rfl, hu2⟩
  rw [if_pos h]
  obtain ⟨z1, z2, z3, z4⟩ := askT_le h
  have hlv := lvl_of hl
  have htx := text_lvl m q.picks hlv
  have hk : ¬ ¬ wrongAsk (m + 1) q = 0 := fun hn => hn h
  have hz : (q.type ++ (⟨#[40]⟩ : Str) ++ q.key ++ (⟨#[41]⟩ : Str)).size = q.type.size + 1 + q.key.size + 1 := by rw [ByteArray.size_append, ByteArray.size_append, ByteArray.size_append]; rfl
  have hfin : q.type ++ (⟨#[40]⟩ : Str) ++ q.key ++ (⟨#[41]⟩ : Str) ++ strT (textT (m + 2) q.picks) = ⟨(askT (m + 1) q).toArray⟩ := bytes_inj (by
    rw [bytes_app, bytes_strT, htx, ask_str]
    exact (bytes_strT (askT (m + 1) q)).symm)
  repeat (first | refine RL.vv ?_ | refine RL.p ?_ | refine RL.nil ?_ | refine Sim.seq ?_ | refine Sim.region ?_ | refine Sim.block ?_ | refine Sim.skip ?_ | refine Sim.inBlock ?_ | refine Sim.exit rfl ?_ | refine Sim.condT rfl ?_ | refine Sim.condF rfl ?_)
  refine Sim.q ?_
  repeat (first | refine RQ.vv ?_ | refine RQ.p ?_)
  refine RQ.vv ?_ (hy := fun wq hq => y_cats rfl rfl (by show q.type.size + 1 ≤ _; omega))
  repeat (first | refine RQ.vv ?_ | refine RQ.p ?_)
  refine RQ.vv ?_ (hy := fun wq hq => y_cats rfl rfl (by rw [ByteArray.size_append]; show q.type.size + 1 + q.key.size ≤ _; omega))
  refine RQ.vv ?_ (hy := fun wq hq => y_cats rfl rfl (by rw [ByteArray.size_append, ByteArray.size_append]; show q.type.size + 1 + q.key.size + 1 ≤ _; omega))
  repeat (first | refine RQ.vv ?_ | refine RQ.p ?_)
  refine RQ.cu (fun wq hq => q_call (RText_any (m + 1) wq (hl.up (hu2.trans hq)) (by rw [htx]; omega)) hq) ?_
  refine RQ.vv ?_ (hy := fun wq hq => y_cats rfl rfl (by rw [hz, size_strT, htx]; omega))
  rw [hfin]
  repeat (first | refine RQ.vv ?_ | refine RQ.p ?_)
  refine RQ.nil fun w3 hq => ?_
  have hu3 := hu2.trans hq
  have hsz : (⟨(askT (m + 1) q).toArray⟩ : Str).size = (askT (m + 1) q).length := size_strT (askT (m + 1) q)
  by_cases hlen : 1000 < (askT (m + 1) q).length
  · rw [if_pos hlen]
    have hl3 : (1000 : Int) < (((⟨(askT (m + 1) q).toArray⟩ : Str).size : Nat) : Int) := by omega
    repeat (first | refine RL.vv ?_ | refine RL.p ?_ | refine RL.nil ?_ | refine Sim.seq ?_ | refine Sim.region ?_ | refine Sim.block ?_ | refine Sim.skip ?_ | refine Sim.inBlock ?_ | refine Sim.exit rfl ?_ | refine Sim.condT rfl ?_ | refine Sim.condF rfl ?_)
    exact Sim.ret2 Try.func48 rfl rfl rfl ⟨rfl, hu3⟩
  · rw [if_neg hlen]
    have hl3 : ¬ (1000 : Int) < (((⟨(askT (m + 1) q).toArray⟩ : Str).size : Nat) : Int) := by omega
    repeat (first | refine RL.vv ?_ | refine RL.p ?_ | refine RL.nil ?_ | refine Sim.seq ?_ | refine Sim.region ?_ | refine Sim.block ?_ | refine Sim.skip ?_ | refine Sim.inBlock ?_ | refine Sim.exit rfl ?_ | refine Sim.condT rfl ?_ | refine Sim.condF rfl ?_)
    exact Sim.ret2 Try.func48 rfl rfl rfl ⟨rfl, hu3⟩
end Go.Proofs.Ytgckpmcdlciibaa
