/- The document's chapter 4, walked: a text is read. -/
import Derived.Test.YtgckpmcdlciibaaYCA1
import Derived.Test.YtgckpmcdlciibaaZ4
namespace Go.Proofs.Ytgckpmcdlciibaa
open Go.RowKit
theorem wneed_g {A : Prop} {B : Int → Nat → Prop} {b i p c j : Nat} {e : Int} {s : Str} (w : World) (hb : Wk w b s i p e j) (hg : Good e j (i ≤ s.size ∧ A) (B e j)) (hs : s.size ≤ 1000) (hB : A → ∀ e j, mustM s i c = .error (e, j) → B e j) :
    Calls Try.prog 82 #[.pointer (some ⟨b, 0, none⟩), .int .u8 (c : Int)] w fun en w' => ∃ i' e' j', en = .returned (.tuple #[]) ∧ But b w w' ∧ Wk w' b s i' p e' j' ∧ Good e' j' (i' ≤ s.size ∧ A ∧ i ≤ s.size ∧ mustM s i c = .ok i') (B e' j') := by
  rcases hg with ⟨rfl, rfl, hi, hA⟩ | ⟨he, hb'⟩
  · refine (wneed_u w hb hi hs).mono fun en w' h => ?_
    obtain ⟨i1, e, j, h1, h2, h3, h4⟩ := h
    exact ⟨i1, e, j, h1, h2, h3, h4.imp (fun h => ⟨h.1, h.2.1, h.2.2.1, hA, hi, h.2.2.2⟩) fun h => ⟨h.1, hB hA _ _ h.2⟩⟩
  · refine (wneed_f _ w hb he).mono fun en w' h => ?_
    obtain ⟨h1, rfl⟩ := h
    exact ⟨i, e, j, h1, .refl _ _, hb, .inr ⟨he, hb'⟩⟩
theorem wname_g {A : Prop} {B : Int → Nat → Prop} {b i p j : Nat} {e : Int} {s : Str} (w : World) (hb : Wk w b s i p e j) (hg : Good e j (i ≤ s.size ∧ A) (B e j)) (hs : s.size ≤ 1000) (hB : A → ∀ e j, nameM s i = .error (e, j) → B e j) :
    Calls Try.prog 81 #[.pointer (some ⟨b, 0, none⟩)] w fun en w' => ∃ n i' e' j', en = .returned (.string n) ∧ But b w w' ∧ Wk w' b s i' p e' j' ∧ Good e' j' (i' ≤ s.size ∧ A ∧ i ≤ s.size ∧ nameM s i = .ok (n, i')) (B e' j') := by
  rcases hg with ⟨rfl, rfl, hi, hA⟩ | ⟨he, hb'⟩
  · refine (wname_u w hb hi hs).mono fun en w' h => ?_
    obtain ⟨n, i1, e, j, h1, h2, h3, h4⟩ := h
    exact ⟨n, i1, e, j, h1, h2, h3, h4.imp (fun h => ⟨h.1, h.2.1, h.2.2.1, hA, hi, h.2.2.2⟩) fun h => ⟨h.1, hB hA _ _ h.2⟩⟩
  · refine (wname_f w hb he).mono fun en w' h => ?_
    obtain ⟨h1, rfl⟩ := h
    exact ⟨_, i, e, j, h1, .refl _ _, hb, .inr ⟨he, hb'⟩⟩
theorem ask_e1 {s : Str} {e : Int} {j : Nat} (h : nameM s 0 = .error (e, j)) : askM s = .error (e, j) := by unfold askM; rw [h]
theorem ask_e2 {s : Str} {e : Int} {j i1 : Nat} {t : Str} (h1 : nameM s 0 = .ok (t, i1)) (h : mustM s i1 40 = .error (e, j)) : askM s = .error (e, j) := by unfold askM; rw [h1]; simp only; rw [h]
theorem ask_e3 {s : Str} {e : Int} {j i1 i2 : Nat} {t : Str} (h1 : nameM s 0 = .ok (t, i1)) (h2 : mustM s i1 40 = .ok i2) (h : nameM s i2 = .error (e, j)) : askM s = .error (e, j) := by unfold askM; rw [h1]; simp only; rw [h2]; simp only; rw [h]
theorem ask_e4 {s : Str} {e : Int} {j i1 i2 i3 : Nat} {t k : Str} (h1 : nameM s 0 = .ok (t, i1)) (h2 : mustM s i1 40 = .ok i2) (h3 : nameM s i2 = .ok (k, i3)) (h : mustM s i3 41 = .error (e, j)) : askM s = .error (e, j) := by unfold askM; rw [h1]; simp only; rw [h2]; simp only; rw [h3]; simp only; rw [h]
theorem ask_e5 {s : Str} {e : Int} {j i1 i2 i3 i4 : Nat} {t k : Str} (h1 : nameM s 0 = .ok (t, i1)) (h2 : mustM s i1 40 = .ok i2) (h3 : nameM s i2 = .ok (k, i3)) (h4 : mustM s i3 41 = .ok i4) (h : listM s 8 i4 0 = .error (e, j)) : askM s = .error (e, j) := by unfold askM; rw [h1]; simp only; rw [h2]; simp only; rw [h3]; simp only; rw [h4]; simp only; rw [h]
theorem ask_ok {s : Str} {i1 i2 i3 i4 i5 p5 : Nat} {t k : Str} {l : List Pck} (h1 : nameM s 0 = .ok (t, i1)) (h2 : mustM s i1 40 = .ok i2) (h3 : nameM s i2 = .ok (k, i3)) (h4 : mustM s i3 41 = .ok i4) (h : listM s 8 i4 0 = .ok (l, i5, p5)) : askM s = if blankM s i5 < s.size then .error (2, blankM s i5) else .ok ⟨t, k, l⟩ := by unfold askM; rw [h1]; simp only; rw [h2]; simp only; rw [h3]; simp only; rw [h4]; simp only; rw [h]
set_option maxHeartbeats 8000000 in
theorem RParse_any (s : Str) (w : World) : Calls Try.prog 43 #[.string s] w (ParseR s w) := by
  refine calls_of_sim Try.func43 rfl (Nat.le_of_ble_eq_true rfl) ?_
  repeat (first | refine RL.vv ?_ | refine RL.p ?_ | refine RL.nil ?_ | refine Sim.seq ?_ | refine Sim.region ?_ | refine Sim.block ?_ | refine Sim.skip ?_ | refine Sim.inBlock ?_ | refine Sim.exit rfl ?_ | refine Sim.condT rfl ?_ | refine Sim.condF rfl ?_)
  refine RL.al (.refl w) fun b2 w1 he2 hw2 hu1 _ h2 => ?_
  refine RL.al hu1 fun b3 w2 he3 hw3 hu h12 h3 => ?_
  have hl2 := h2.lt
  have n23 : b2 < b3 := by omega
  have h2 := h2.up h12
  have h2 : AskB w2 b2 ⟨#[]⟩ ⟨#[]⟩ (.slice none 0 0) := h2
  have h3 : FltB w2 b3 0 0 := h3
  clear h12 hu1 he2
  by_cases hbig : (1000 : Int) < (s.size : Int)
  · have hpm : parseM s = (⟨⟨#[]⟩, ⟨#[]⟩, []⟩, 3, 0) := by
      unfold parseM
      rw [if_pos (by omega)]
    repeat (first | refine RL.vv ?_ | refine RL.p ?_ | refine RL.nil ?_ | refine Sim.seq ?_ | refine Sim.region ?_ | refine Sim.block ?_ | refine Sim.skip ?_ | refine Sim.inBlock ?_ | refine Sim.exit rfl ?_ | refine Sim.condT rfl ?_ | refine Sim.condF rfl ?_)
    refine RL.val trivial rfl (y_build (v := .agg #[.string ⟨#[]⟩, .string ⟨#[]⟩, .slice none 0 0]) rfl (fun w => by kernel_rfl)) ?_
    refine RL.val trivial rfl (y_build (v := .agg #[.int .i64 3, .int .i64 0]) rfl (fun w => by kernel_rfl)) ?_
    refine RL.sb h2 fun w3 hbt3 h2 => ?_
    refine RL.sb (h3.but hbt3 (by omega)) fun w4 hbt4 h3 => ?_
    repeat (first | refine RL.vv ?_ | refine RL.p ?_ | refine RL.nil ?_ | refine Sim.seq ?_ | refine Sim.region ?_ | refine Sim.block ?_ | refine Sim.skip ?_ | refine Sim.inBlock ?_ | refine Sim.exit rfl ?_ | refine Sim.condT rfl ?_ | refine Sim.condF rfl ?_)
    refine Sim.retCC Try.func43 rfl rfl (h2.but hbt4 (by omega)).at rfl rfl h3.at rfl ⟨.slice none 0 0, ?_, Up.but (Up.but hu hbt3 hw2) hbt4 hw3, ?_⟩
    · rw [hpm]
      rfl
    · rw [hpm]
      exact SliceOf.nil _ _ _
  have hs : s.size ≤ 1000 := by omega
  have hpm : parseM s = match askM s with
      | .error (e, i) => (⟨⟨#[]⟩, ⟨#[]⟩, []⟩, e, (i : Int))
      | .ok a => (a, 0, 0) := by
    unfold parseM
    rw [if_neg (by omega)]
    cases askM s <;> rfl
  repeat (first | refine RL.vv ?_ | refine RL.p ?_ | refine RL.nil ?_ | refine Sim.seq ?_ | refine Sim.region ?_ | refine Sim.block ?_ | refine Sim.skip ?_ | refine Sim.inBlock ?_ | refine Sim.exit rfl ?_ | refine Sim.condT rfl ?_ | refine Sim.condF rfl ?_)
  refine RL.val trivial rfl (y_build (v := .agg #[.string s, .int .i64 0, .int .i64 0, .int .i64 0, .int .i64 0]) rfl (fun w => by kernel_rfl)) ?_
  refine RL.bx hu fun b4 w3 he4 hw4 hu3 h23 hb => ?_
  have hb : Wk w3 b4 s 0 0 0 0 := hb
  have hl3 := h3.lt
  have n34 : b3 < b4 := by omega
  have h2 := h2.up h23
  have h3 := h3.up h23
  clear h23 hu he3 he4
  repeat (first | refine RL.vv ?_ | refine RL.p ?_ | refine RL.nil ?_ | refine Sim.seq ?_ | refine Sim.region ?_ | refine Sim.block ?_ | refine Sim.skip ?_ | refine Sim.inBlock ?_ | refine Sim.exit rfl ?_ | refine Sim.condT rfl ?_ | refine Sim.condF rfl ?_)
  refine RL.cx (wname_g (A := True) (B := fun e j => askM s = .error (e, j)) w3 hb (.inl ⟨rfl, rfl, Nat.zero_le _, trivial⟩) hs fun _ _ _ h => ask_e1 h) ?_
  rintro _ w4 ⟨t, i1, e1, j1, rfl, hbt4, hb, hg⟩
  refine ⟨_, rfl, ?_⟩
  have hu := Up.but hu3 hbt4 hw4
  have h2 := h2.but hbt4 (by omega)
  have h3 := h3.but hbt4 (by omega)
  clear hbt4 hu3
  refine RL.val trivial rfl (y_build (v := .agg #[.string t, .string ⟨#[]⟩, .slice none 0 0]) rfl (fun w => by kernel_rfl)) ?_
  refine RL.al hu fun b5 w5 he5 hw5 hu5 h45 h5 => ?_
  have hl4 := hb.lt
  have n45 : b4 < b5 := by omega
  refine RL.st hu5 h5 hw5 fun w6 hu6 hbt6 h5 => ?_
  have h5 : AskB w6 b5 t ⟨#[]⟩ (.slice none 0 0) := h5
  have h2 := (h2.up h45).but hbt6 (by omega)
  have h3 := (h3.up h45).but hbt6 (by omega)
  have hb := (hb.up h45).but hbt6 (by omega)
  clear h45 hbt6 hu5 hu he5
  repeat (first | refine RL.vv ?_ | refine RL.p ?_ | refine RL.nil ?_ | refine Sim.seq ?_ | refine Sim.region ?_ | refine Sim.block ?_ | refine Sim.skip ?_ | refine Sim.inBlock ?_ | refine Sim.exit rfl ?_ | refine Sim.condT rfl ?_ | refine Sim.condF rfl ?_)
  refine RL.cx (wneed_g (A := True ∧ 0 ≤ s.size ∧ nameM s 0 = .ok (t, i1)) (B := fun e j => askM s = .error (e, j)) (c := 40) w6 hb hg hs fun h _ _ h' => ask_e2 h.2.2 h') ?_
  rintro _ w7 ⟨i2, e2, j2, rfl, hbt7, hb, hg⟩
  refine ⟨_, rfl, ?_⟩
  have hu := Up.but hu6 hbt7 hw4
  have h2 := h2.but hbt7 (by omega)
  have h3 := h3.but hbt7 (by omega)
  have h5 := h5.but hbt7 (by omega)
  clear hbt7 hu6
  repeat (first | refine RL.vv ?_ | refine RL.p ?_ | refine RL.nil ?_ | refine Sim.seq ?_ | refine Sim.region ?_ | refine Sim.block ?_ | refine Sim.skip ?_ | refine Sim.inBlock ?_ | refine Sim.exit rfl ?_ | refine Sim.condT rfl ?_ | refine Sim.condF rfl ?_)
  refine RL.cx (wname_g (B := fun e j => askM s = .error (e, j)) w7 hb hg hs fun h _ _ h' => ask_e3 h.1.2.2 h.2.2 h') ?_
  rintro _ w8 ⟨k, i3, e3, j3, rfl, hbt8, hb, hg⟩
  refine ⟨_, rfl, ?_⟩
  have hu := Up.but hu hbt8 hw4
  have h2 := h2.but hbt8 (by omega)
  have h3 := h3.but hbt8 (by omega)
  have h5 := h5.but hbt8 (by omega)
  clear hbt8
  repeat (first | refine RL.vv ?_ | refine RL.p ?_ | refine RL.nil ?_ | refine Sim.seq ?_ | refine Sim.region ?_ | refine Sim.block ?_ | refine Sim.skip ?_ | refine Sim.inBlock ?_ | refine Sim.exit rfl ?_ | refine Sim.condT rfl ?_ | refine Sim.condF rfl ?_)
  refine RL.st hu h5 hw5 fun w9 hu9 hbt9 h5 => ?_
  have h5 : AskB w9 b5 t k (.slice none 0 0) := h5
  have h2 := h2.but hbt9 (by omega)
  have h3 := h3.but hbt9 (by omega)
  have hb := hb.but hbt9 (by omega)
  clear hbt9 hu
  repeat (first | refine RL.vv ?_ | refine RL.p ?_ | refine RL.nil ?_ | refine Sim.seq ?_ | refine Sim.region ?_ | refine Sim.block ?_ | refine Sim.skip ?_ | refine Sim.inBlock ?_ | refine Sim.exit rfl ?_ | refine Sim.condT rfl ?_ | refine Sim.condF rfl ?_)
  refine RL.cx (wneed_g (B := fun e j => askM s = .error (e, j)) (c := 41) w9 hb hg hs fun h _ _ h' => ask_e4 h.1.1.2.2 h.1.2.2 h.2.2 h') ?_
  rintro _ w10 ⟨i4, e4, j4, rfl, hbt10, hb, hg⟩
  refine ⟨_, rfl, ?_⟩
  have hu := Up.but hu9 hbt10 hw4
  have h2 := h2.but hbt10 (by omega)
  have h3 := h3.but hbt10 (by omega)
  have h5 := h5.but hbt10 (by omega)
  clear hbt10 hu9
  refine RL.nil ?_
  refine Sim.seq ?_
  refine Sim.cutX (σ := List Pck × Nat × Nat × Value × Int × Nat) (fun _ => [(0, .string s), (2, .pointer (some ⟨b2, 0, none⟩)), (3, .pointer (some ⟨b3, 0, none⟩)), (4, .pointer (some ⟨b4, 0, none⟩)), (5, .pointer (some ⟨b5, 0, none⟩))])
    (fun st w' => Up w w' ∧ AskB w' b2 ⟨#[]⟩ ⟨#[]⟩ (.slice none 0 0) ∧ FltB w' b3 0 0 ∧ Wk w' b4 s st.2.1 st.2.2.1 st.2.2.2.2.1 st.2.2.2.2.2 ∧ AskB w' b5 t k st.2.2.2.1 ∧ SliceOf (pckLay 8) (fun x => w.heap.size ≤ x ∧ x ≠ b2 ∧ x ≠ b3 ∧ x ≠ b4 ∧ x ≠ b5) w' st.2.2.2.1 st.1 ∧ Good st.2.2.2.2.1 st.2.2.2.2.2 (st.2.1 ≤ s.size ∧ askM s = if blankM s st.2.1 < s.size then .error (2, blankM s st.2.1) else .ok ⟨t, k, st.1⟩) (askM s = .error (st.2.2.2.2.1, st.2.2.2.2.2))) (fun k' next => ?_) ?_
  · rcases hg with ⟨rfl, rfl, hi4, ⟨⟨⟨_, _, q1⟩, _, q2⟩, _, q3⟩, _, q4⟩ | ⟨he, hq⟩
    · repeat (first | refine RL.vv ?_ | refine RL.p ?_ | refine RL.nil ?_ | refine Sim.seq ?_ | refine Sim.region ?_ | refine Sim.block ?_ | refine Sim.skip ?_ | refine Sim.inBlock ?_ | refine Sim.exit rfl ?_ | refine Sim.condT rfl ?_ | refine Sim.condF rfl ?_)
      refine RL.cs (wok_t w10 hb) ?_
      repeat (first | refine RL.vv ?_ | refine RL.p ?_ | refine RL.nil ?_ | refine Sim.seq ?_ | refine Sim.region ?_ | refine Sim.block ?_ | refine Sim.skip ?_ | refine Sim.inBlock ?_ | refine Sim.exit rfl ?_ | refine Sim.condT rfl ?_ | refine Sim.condF rfl ?_)
      refine RL.cx (wlist_any 8 (by omega) (k := 1) w10 rfl hb hi4 hs (Nat.zero_le _)) ?_
      rintro _ w11 ⟨hbt11, lv, l, rfl, hsl, hm⟩
      refine ⟨_, rfl, ?_⟩
      obtain ⟨la, lc, rfl, _⟩ := id hsl
      have hl2 := h2.lt
      have hl3 := h3.lt
      have hl4 := hb.lt
      have hl5 := h5.lt
      have hz := hu.size
      have hsl := hsl.mono (S' := fun x => w.heap.size ≤ x ∧ x ≠ b2 ∧ x ≠ b3 ∧ x ≠ b4 ∧ x ≠ b5) fun x hx => ⟨by omega, by omega, by omega, by omega, by omega⟩
      have hu := Up.but hu hbt11 hw4
      have h2 := h2.but hbt11 (by omega)
      have h3 := h3.but hbt11 (by omega)
      have h5 := h5.but hbt11 (by omega)
      repeat (first | refine RL.vv ?_ | refine RL.p ?_ | refine RL.nil ?_ | refine Sim.seq ?_ | refine Sim.region ?_ | refine Sim.block ?_ | refine Sim.skip ?_ | refine Sim.inBlock ?_ | refine Sim.exit rfl ?_ | refine Sim.condT rfl ?_ | refine Sim.condF rfl ?_)
      refine RL.st hu h5 hw5 fun w12 hu12 hbt12 h5 => ?_
      have h5 : AskB w12 b5 t k (.slice la l.length lc) := h5
      have h2 := h2.but hbt12 (by omega)
      have h3 := h3.but hbt12 (by omega)
      have hsl := hsl.bt hbt12 fun x hx => hx.2.2.2.2
      repeat (first | refine RL.vv ?_ | refine RL.p ?_ | refine RL.nil ?_ | refine Sim.seq ?_ | refine Sim.region ?_ | refine Sim.block ?_ | refine Sim.skip ?_ | refine Sim.inBlock ?_ | refine Sim.exit rfl ?_ | refine Sim.condT rfl ?_ | refine Sim.condF rfl ?_)
      rcases hl : listM s 8 i4 0 with ⟨e, j⟩ | ⟨l', i5, p5⟩
      · rw [hl] at hm
        obtain ⟨i', p', hb⟩ := hm
        exact next (l, i', p', .slice la l.length lc, e, j) w12 _ ⟨hu12, h2, h3, hb.but hbt12 (by omega), h5, hsl, .inr ⟨(listM_err 8 1 (by omega) _ _ _ _ hi4 (Nat.zero_le _) hl).1, ask_e5 q1 q2 q3 q4 hl⟩⟩ sb
      · rw [hl] at hm
        obtain ⟨rfl, hb⟩ := hm
        have hi5 : i5 ≤ s.size := (listM_ok (s := s) 8 8 1 (Nat.le_refl _) rfl i4 0 l' i5 p5 hi4 (Nat.zero_le _) hl).2.2.2.2.2
        exact next (l', i5, p5, .slice la l'.length lc, 0, 0) w12 _ ⟨hu12, h2, h3, hb.but hbt12 (by omega), h5, hsl, .inl ⟨rfl, rfl, hi5, ask_ok q1 q2 q3 q4 hl⟩⟩ sb
    · repeat (first | refine RL.vv ?_ | refine RL.p ?_ | refine RL.nil ?_ | refine Sim.seq ?_ | refine Sim.region ?_ | refine Sim.block ?_ | refine Sim.skip ?_ | refine Sim.inBlock ?_ | refine Sim.exit rfl ?_ | refine Sim.condT rfl ?_ | refine Sim.condF rfl ?_)
      refine RL.cs (wok_f w10 hb he) ?_
      repeat (first | refine RL.vv ?_ | refine RL.p ?_ | refine RL.nil ?_ | refine Sim.seq ?_ | refine Sim.region ?_ | refine Sim.block ?_ | refine Sim.skip ?_ | refine Sim.inBlock ?_ | refine Sim.exit rfl ?_ | refine Sim.condT rfl ?_ | refine Sim.condF rfl ?_)
      exact next ([], i4, 0, .slice none 0 0, e4, j4) w10 _ ⟨hu, h2, h3, hb, h5, SliceOf.nil _ _ _, .inr ⟨he, hq⟩⟩ sb
  clear hb h2 h3 h5 hu hg
  rintro ⟨l, i5, p5, lv, e5, j5⟩ w11 ⟨hu, h2, h3, hb, h5, hsl, hg⟩
  simp only at hb h5 hsl hg ⊢
  obtain ⟨la, lc, rfl, _⟩ := id hsl
  refine Sim.seq ?_
  refine Sim.cutX (σ := Nat × Int × Nat) (fun _ => [(0, .string s), (2, .pointer (some ⟨b2, 0, none⟩)), (3, .pointer (some ⟨b3, 0, none⟩)), (4, .pointer (some ⟨b4, 0, none⟩)), (5, .pointer (some ⟨b5, 0, none⟩))])
    (fun st w' => Up w w' ∧ AskB w' b2 ⟨#[]⟩ ⟨#[]⟩ (.slice none 0 0) ∧ FltB w' b3 0 0 ∧ Wk w' b4 s st.1 p5 st.2.1 st.2.2 ∧ AskB w' b5 t k (.slice la l.length lc) ∧ SliceOf (pckLay 8) (fun x => w.heap.size ≤ x ∧ x ≠ b2 ∧ x ≠ b3 ∧ x ≠ b4 ∧ x ≠ b5) w' (.slice la l.length lc) l ∧ Good st.2.1 st.2.2 (askM s = .ok ⟨t, k, l⟩) (askM s = .error (st.2.1, st.2.2))) (fun k' next => ?_) ?_
  · rcases hg with ⟨rfl, rfl, hi5, hq⟩ | ⟨he, hq⟩
    · repeat (first | refine RL.vv ?_ | refine RL.p ?_ | refine RL.nil ?_ | refine Sim.seq ?_ | refine Sim.region ?_ | refine Sim.block ?_ | refine Sim.skip ?_ | refine Sim.inBlock ?_ | refine Sim.exit rfl ?_ | refine Sim.condT rfl ?_ | refine Sim.condF rfl ?_)
      refine RL.cs (wok_t w11 hb) ?_
      repeat (first | refine RL.vv ?_ | refine RL.p ?_ | refine RL.nil ?_ | refine Sim.seq ?_ | refine Sim.region ?_ | refine Sim.block ?_ | refine Sim.skip ?_ | refine Sim.inBlock ?_ | refine Sim.exit rfl ?_ | refine Sim.condT rfl ?_ | refine Sim.condF rfl ?_)
      refine RL.cx (wskip_any w11 hb hi5 hs) ?_
      rintro _ w12 ⟨rfl, hbt12, hb⟩
      refine ⟨_, rfl, ?_⟩
      have hu := Up.but hu hbt12 hw4
      have h2 := h2.but hbt12 (by omega)
      have h3 := h3.but hbt12 (by omega)
      have h5 := h5.but hbt12 (by omega)
      have hsl := hsl.bt hbt12 fun x hx => hx.2.2.2.1
      have ha := hb.at
      generalize blankM s i5 = i6 at *
      by_cases hlt : (i6 : Int) < (s.size : Int)
      · rw [if_pos (by omega)] at hq
        repeat (first | refine RL.vv ?_ | refine RL.p ?_ | refine RL.nil ?_ | refine Sim.seq ?_ | refine Sim.region ?_ | refine Sim.block ?_ | refine Sim.skip ?_ | refine Sim.inBlock ?_ | refine Sim.exit rfl ?_ | refine Sim.condT rfl ?_ | refine Sim.condF rfl ?_)
        refine RL.cx (wstop_t 2 w12 hb) ?_
        rintro _ w13 ⟨rfl, hbt13, hb⟩
        refine ⟨_, rfl, ?_⟩
        repeat (first | refine RL.vv ?_ | refine RL.p ?_ | refine RL.nil ?_ | refine Sim.seq ?_ | refine Sim.region ?_ | refine Sim.block ?_ | refine Sim.skip ?_ | refine Sim.inBlock ?_ | refine Sim.exit rfl ?_ | refine Sim.condT rfl ?_ | refine Sim.condF rfl ?_)
        exact next (i6, 2, i6) w13 _ ⟨Up.but hu hbt13 hw4, h2.but hbt13 (by omega), h3.but hbt13 (by omega), hb, h5.but hbt13 (by omega), hsl.bt hbt13 fun x hx => hx.2.2.2.1, .inr ⟨by simp only; decide, hq⟩⟩ sb
      · rw [if_neg (by omega)] at hq
        repeat (first | refine RL.vv ?_ | refine RL.p ?_ | refine RL.nil ?_ | refine Sim.seq ?_ | refine Sim.region ?_ | refine Sim.block ?_ | refine Sim.skip ?_ | refine Sim.inBlock ?_ | refine Sim.exit rfl ?_ | refine Sim.condT rfl ?_ | refine Sim.condF rfl ?_)
        exact next (i6, 0, 0) w12 _ ⟨hu, h2, h3, hb, h5, hsl, .inl ⟨rfl, rfl, hq⟩⟩ sb
    · repeat (first | refine RL.vv ?_ | refine RL.p ?_ | refine RL.nil ?_ | refine Sim.seq ?_ | refine Sim.region ?_ | refine Sim.block ?_ | refine Sim.skip ?_ | refine Sim.inBlock ?_ | refine Sim.exit rfl ?_ | refine Sim.condT rfl ?_ | refine Sim.condF rfl ?_)
      refine RL.cs (wok_f w11 hb he) ?_
      repeat (first | refine RL.vv ?_ | refine RL.p ?_ | refine RL.nil ?_ | refine Sim.seq ?_ | refine Sim.region ?_ | refine Sim.block ?_ | refine Sim.skip ?_ | refine Sim.inBlock ?_ | refine Sim.exit rfl ?_ | refine Sim.condT rfl ?_ | refine Sim.condF rfl ?_)
      exact next (i5, e5, j5) w11 _ ⟨hu, h2, h3, hb, h5, hsl, .inr ⟨he, hq⟩⟩ sb
  clear hb h2 h3 h5 hu hg hsl
  rintro ⟨i6, e, j⟩ w12 ⟨hu, h2, h3, hb, h5, hsl, hg⟩
  simp only at hb hg ⊢
  rcases hg with ⟨rfl, rfl, hq⟩ | ⟨he, hq⟩
  · rw [hq] at hpm
    repeat (first | refine RL.vv ?_ | refine RL.p ?_ | refine RL.nil ?_ | refine Sim.seq ?_ | refine Sim.region ?_ | refine Sim.block ?_ | refine Sim.skip ?_ | refine Sim.inBlock ?_ | refine Sim.exit rfl ?_ | refine Sim.condT rfl ?_ | refine Sim.condF rfl ?_)
    refine RL.cs (wok_t w12 hb) ?_
    have ha5 := h5.at
    repeat (first | refine RL.vv ?_ | refine RL.p ?_ | refine RL.nil ?_ | refine Sim.seq ?_ | refine Sim.region ?_ | refine Sim.block ?_ | refine Sim.skip ?_ | refine Sim.inBlock ?_ | refine Sim.exit rfl ?_ | refine Sim.condT rfl ?_ | refine Sim.condF rfl ?_)
    refine RL.val trivial rfl (y_build (v := .agg #[.int .i64 0, .int .i64 0]) rfl (fun w => by kernel_rfl)) ?_
    refine RL.st hu h2 hw2 fun w13 hu13 hbt13 h2 => ?_
    refine RL.st hu13 (h3.but hbt13 (by omega)) hw3 fun w14 hu14 hbt14 h3 => ?_
    have hsl := (hsl.bt hbt13 fun x hx => hx.2.1).bt hbt14 fun x hx => hx.2.2.1
    repeat (first | refine RL.vv ?_ | refine RL.p ?_ | refine RL.nil ?_ | refine Sim.seq ?_ | refine Sim.region ?_ | refine Sim.block ?_ | refine Sim.skip ?_ | refine Sim.inBlock ?_ | refine Sim.exit rfl ?_ | refine Sim.condT rfl ?_ | refine Sim.condF rfl ?_)
    refine Sim.retCC Try.func43 rfl rfl (h2.but hbt14 (by omega)).at rfl rfl h3.at rfl ⟨.slice la l.length lc, ?_, hu14, ?_⟩
    · rw [hpm]
      rfl
    · rw [hpm]
      exact hsl.mono fun x hx => hx.1
  · rw [hq] at hpm
    repeat (first | refine RL.vv ?_ | refine RL.p ?_ | refine RL.nil ?_ | refine Sim.seq ?_ | refine Sim.region ?_ | refine Sim.block ?_ | refine Sim.skip ?_ | refine Sim.inBlock ?_ | refine Sim.exit rfl ?_ | refine Sim.condT rfl ?_ | refine Sim.condF rfl ?_)
    refine RL.cs (wok_f w12 hb he) ?_
    repeat (first | refine RL.vv ?_ | refine RL.p ?_ | refine RL.nil ?_ | refine Sim.seq ?_ | refine Sim.region ?_ | refine Sim.block ?_ | refine Sim.skip ?_ | refine Sim.inBlock ?_ | refine Sim.exit rfl ?_ | refine Sim.condT rfl ?_ | refine Sim.condF rfl ?_)
    refine Sim.ord (fun wq => Wk wq b4 s i6 p5 e j) ?_
    have hS := hb.up (Up.drew w12)
    refine RO.tk 0 ?_ (hy := fun wq hq => y_build (v := .agg #[.string ⟨#[]⟩, .string ⟨#[]⟩, .slice none 0 0]) rfl (fun w => by kernel_rfl))
    refine RO.tk 1 ?_
    refine RO.tk 2 ?_
    refine RO.tk 3 ?_
    refine RO.tk 4 ?_ (v := .agg #[.int .i64 e, .int .i64 (j : Int)]) (hy := fun wq hq => y_loadA rfl (Box.tail3 hq) rfl)
    refine RO.one 5 ?_
    refine RL.sb (h2.up (Up.drew w12)) fun w13 hbt13 h2 => ?_
    have hS := hS.but hbt13 (by omega)
    refine RL.ord hS ?_
    refine RO.one 6 ?_
    refine RL.sb ((h3.up (Up.drew w12)).but hbt13 (by omega)) fun w14 hbt14 h3 => ?_
    refine RL.ord (hS.but hbt14 (by omega)) ?_
    refine RO.done (RL.nil ?_)
    repeat (first | refine RL.vv ?_ | refine RL.p ?_ | refine RL.nil ?_ | refine Sim.seq ?_ | refine Sim.region ?_ | refine Sim.block ?_ | refine Sim.skip ?_ | refine Sim.inBlock ?_ | refine Sim.exit rfl ?_ | refine Sim.condT rfl ?_ | refine Sim.condF rfl ?_)
    refine Sim.retCC Try.func43 rfl rfl (h2.but hbt14 (by omega)).at rfl rfl h3.at rfl ⟨.slice none 0 0, ?_, Up.but (Up.but (hu.trans (Up.drew w12)) hbt13 hw2) hbt14 hw3, ?_⟩
    · rw [hpm]
      rfl
    · rw [hpm]
      exact SliceOf.nil _ _ _
end Go.Proofs.Ytgckpmcdlciibaa
