/- The document's reader, walked: lists of picks. -/
import Derived.Test.YtgckpmcdlciibaaYC99
import Derived.Test.YtgckpmcdlciibaaZ4
namespace Go.Proofs.Ytgckpmcdlciibaa
open Go.RowKit
/-- what reading a list of picks must do -/
def WListR (d : Nat) : Prop := ∀ {b i p k : Nat} {s : Str} (w : World), k + d = 9 → Wk w b s i p 0 0 → i ≤ s.size → s.size ≤ 1000 → p ≤ 60 →
  Calls Try.prog 84 #[.pointer (some ⟨b, 0, none⟩), .int .i64 (k : Int)] w fun en w' => But b w w' ∧ ∃ v l, en = .returned v ∧ SliceOf (pckLay d) (fun k => w.heap.size ≤ k) w' v l ∧ match listM s d i p with
    | .error (e, j) => ∃ i' p', Wk w' b s i' p' e j
    | .ok (l', i', p') => l' = l ∧ Wk w' b s i' p' 0 0
theorem wlist_zero : WListR 0 := by
  intro b i p k s w hk hb hi hs hp
  refine calls_of_sim Try.func84 rfl (Nat.le_of_ble_eq_true rfl) ?_
  have h8 : (8 : Int) < (k : Int) := by omega
  repeat (first | refine RL.vv ?_ | refine RL.p ?_ | refine RL.nil ?_ | refine Sim.seq ?_ | refine Sim.region ?_ | refine Sim.block ?_ | refine Sim.skip ?_ | refine Sim.inBlock ?_ | refine Sim.exit rfl ?_ | refine Sim.condT rfl ?_ | refine Sim.condF rfl ?_)
  refine RL.cx (wstop_t 3 w hb) ?_
  rintro _ w1 ⟨rfl, hbt1, hb⟩
  refine ⟨_, rfl, ?_⟩
  have h3 : ¬ (3 : Int) = 0 := by decide
  repeat (first | refine RL.vv ?_ | refine RL.p ?_ | refine RL.nil ?_ | refine Sim.seq ?_ | refine Sim.region ?_ | refine Sim.block ?_ | refine Sim.skip ?_ | refine Sim.inBlock ?_ | refine Sim.exit rfl ?_ | refine Sim.condT rfl ?_ | refine Sim.condF rfl ?_)
  refine RL.cs (wneed_f _ w1 hb h3) ?_
  repeat (first | refine RL.vv ?_ | refine RL.p ?_ | refine RL.nil ?_ | refine Sim.seq ?_ | refine Sim.region ?_ | refine Sim.block ?_ | refine Sim.skip ?_ | refine Sim.inBlock ?_ | refine Sim.exit rfl ?_ | refine Sim.condT rfl ?_ | refine Sim.condF rfl ?_)
  refine Sim.loop (σ := Unit) (fun _ => [(0, .pointer (some ⟨b, 0, none⟩)), (5, .slice none 0 0)]) (fun _ w' => w' = w1) (fun _ => 0) () sb rfl ?_
  rintro ⟨⟩ w2 rfl next
  repeat (first | refine RL.vv ?_ | refine RL.p ?_ | refine RL.nil ?_ | refine Sim.seq ?_ | refine Sim.region ?_ | refine Sim.block ?_ | refine Sim.skip ?_ | refine Sim.inBlock ?_ | refine Sim.exit rfl ?_ | refine Sim.condT rfl ?_ | refine Sim.condF rfl ?_)
  refine RL.cs (wok_f w2 hb h3) ?_
  repeat (first | refine RL.vv ?_ | refine RL.p ?_ | refine RL.nil ?_ | refine Sim.seq ?_ | refine Sim.region ?_ | refine Sim.block ?_ | refine Sim.skip ?_ | refine Sim.inBlock ?_ | refine Sim.exit rfl ?_ | refine Sim.condT rfl ?_ | refine Sim.condF rfl ?_)
  exact Sim.ret1 Try.func84 rfl rfl ⟨hbt1, .slice none 0 0, [], rfl, SliceOf.nil _ _ _, i, p, hb⟩
/-- read so far, or what is wrong -/
abbrev Good (e : Int) (j : Nat) (h bad : Prop) : Prop := (e = 0 ∧ j = 0 ∧ h) ∨ (¬ e = 0 ∧ bad)
theorem wname_u {b i p : Nat} {s : Str} (w : World) (hb : Wk w b s i p 0 0) (hi : i ≤ s.size) (hs : s.size ≤ 1000) :
    Calls Try.prog 81 #[.pointer (some ⟨b, 0, none⟩)] w fun en w' => ∃ n i1 e j, en = .returned (.string n) ∧ But b w w' ∧ Wk w' b s i1 p e j ∧ Good e j (i1 ≤ s.size ∧ nameM s i = .ok (n, i1)) (nameM s i = .error (e, j)) := by
  refine (wname_t w hb hi hs).mono fun en w' h => ?_
  obtain ⟨hbt, h⟩ := h
  rcases hn : nameM s i with ⟨e, j⟩ | ⟨n, i1⟩
  · rw [hn] at h
    obtain ⟨⟨n, rfl⟩, hb⟩ := h
    exact ⟨n, j, e, j, rfl, hbt, hb, .inr ⟨(nameM_err hn hi).1, rfl⟩⟩
  · rw [hn] at h
    obtain ⟨rfl, hb⟩ := h
    exact ⟨n, i1, 0, 0, rfl, hbt, hb, .inl ⟨rfl, rfl, (nameM_at hn hi).2.1, rfl⟩⟩
theorem wneed_u {b i p c : Nat} {s : Str} (w : World) (hb : Wk w b s i p 0 0) (hi : i ≤ s.size) (hs : s.size ≤ 1000) :
    Calls Try.prog 82 #[.pointer (some ⟨b, 0, none⟩), .int .u8 (c : Int)] w fun en w' => ∃ i1 e j, en = .returned (.tuple #[]) ∧ But b w w' ∧ Wk w' b s i1 p e j ∧ Good e j (i1 ≤ s.size ∧ mustM s i c = .ok i1) (mustM s i c = .error (e, j)) := by
  refine (wneed_t w hb hi hs).mono fun en w' h => ?_
  obtain ⟨rfl, hbt, h⟩ := h
  rcases hn : mustM s i c with ⟨e, j⟩ | i1
  · rw [hn] at h
    exact ⟨j, e, j, rfl, hbt, h, .inr ⟨(mustM_err hn hi).1, rfl⟩⟩
  · rw [hn] at h
    exact ⟨i1, 0, 0, rfl, hbt, h, .inl ⟨rfl, rfl, (mustM_ok hn).2, rfl⟩⟩
set_option maxHeartbeats 8000000 in
theorem wlist_step {d : Nat} (hd7 : d ≤ 8) (H : WListR d) : WListR (d + 1) := by
  intro b i p k s w hk hb hi hs hp
  refine calls_of_sim Try.func84 rfl (Nat.le_of_ble_eq_true rfl) ?_
  have h8 : ¬ (8 : Int) < (k : Int) := by omega
  have hok : SubOk s (listM s d) (fun ps n => shapeM d ps (9 - d : Int) n) := listM_ok d d _ (Nat.le_refl _) (by omega)
  have hbad : SubBad s (listM s d) := listM_err d (9 - d : Int) (by omega)
  have hbl := hb.lt
  obtain ⟨RR, hR⟩ : ∃ RR, listM s (d + 1) i p = RR := ⟨_, rfl⟩
  rw [hR]
  repeat (first | refine RL.vv ?_ | refine RL.p ?_ | refine RL.nil ?_ | refine Sim.seq ?_ | refine Sim.region ?_ | refine Sim.block ?_ | refine Sim.skip ?_ | refine Sim.inBlock ?_ | refine Sim.exit rfl ?_ | refine Sim.condT rfl ?_ | refine Sim.condF rfl ?_)
  refine RL.cx (wneed_u w hb hi hs) ?_
  rintro _ w1 ⟨i1, e1, j1, rfl, hbt, hb, hg⟩
  refine ⟨_, rfl, ?_⟩
  have hg : Good e1 j1 (i1 ≤ s.size ∧ loopM (listM s d) s (61 - p) [] i1 p = RR) (RR = .error (e1, j1)) := by
    unfold listM at hR
    rcases hg with ⟨h1, h2, h3, h4⟩ | ⟨h1, h2⟩
    · rw [h4] at hR
      exact .inl ⟨h1, h2, h3, hR⟩
    · rw [h2] at hR
      exact .inr ⟨h1, hR.symm⟩
  clear hR hi
  repeat (first | refine RL.vv ?_ | refine RL.p ?_ | refine RL.nil ?_ | refine Sim.seq ?_ | refine Sim.region ?_ | refine Sim.block ?_ | refine Sim.skip ?_ | refine Sim.inBlock ?_ | refine Sim.exit rfl ?_ | refine Sim.condT rfl ?_ | refine Sim.condF rfl ?_)
  refine Sim.loop (σ := Nat × List Pck × Nat × Nat × Value × Int × Nat) (fun st => [(0, .pointer (some ⟨b, 0, none⟩)), (1, .int .i64 (k : Int)), (5, st.2.2.2.2.1)])
    (fun st w' => But b w w' ∧ Wk w' b s st.2.2.1 st.2.2.2.1 st.2.2.2.2.2.1 st.2.2.2.2.2.2 ∧ Own (pckLay (d + 1)) 93 w.heap.size (fun x => w.heap.size ≤ x) w' st.2.2.2.2.1 st.2.1 ∧ Good st.2.2.2.2.2.1 st.2.2.2.2.2.2 (st.2.2.1 ≤ s.size ∧ st.2.2.2.1 ≤ 60 ∧ st.2.1.length ≤ st.2.2.2.1 ∧ 61 ≤ st.1 + st.2.2.2.1 ∧ loopM (listM s d) s st.1 st.2.1 st.2.2.1 st.2.2.2.1 = RR) (RR = .error (st.2.2.2.2.2.1, st.2.2.2.2.2.2)))
    (fun st => if st.2.2.2.2.2.1 = 0 then 61 - st.2.2.2.1 else 0) (61 - p, [], i1, p, .slice none 0 0, e1, j1) sb ⟨hbt, hb, Own.nil _ _ _ _ _, hg.imp (fun h => ⟨h.1, h.2.1, h.2.2.1, hp, Nat.zero_le _, by simp only; omega, h.2.2.2⟩) fun h => h⟩ ?_
  clear hb hbt hg hp
  rintro ⟨n, out, i2, p2, v, e, j⟩ w2 ⟨hbt, hb, ho, hg⟩ next
  simp only at hb ho hg next ⊢
  rcases hg with ⟨rfl, rfl, hi, hp, hol, hn, hR⟩ | ⟨he, hR⟩
  rotate_left
  · repeat (first | refine RL.vv ?_ | refine RL.p ?_ | refine RL.nil ?_ | refine Sim.seq ?_ | refine Sim.region ?_ | refine Sim.block ?_ | refine Sim.skip ?_ | refine Sim.inBlock ?_ | refine Sim.exit rfl ?_ | refine Sim.condT rfl ?_ | refine Sim.condF rfl ?_)
    refine RL.cs (wok_f w2 hb he) ?_
    repeat (first | refine RL.vv ?_ | refine RL.p ?_ | refine RL.nil ?_ | refine Sim.seq ?_ | refine Sim.region ?_ | refine Sim.block ?_ | refine Sim.skip ?_ | refine Sim.inBlock ?_ | refine Sim.exit rfl ?_ | refine Sim.condT rfl ?_ | refine Sim.condF rfl ?_)
    refine Sim.ret1 Try.func84 rfl rfl ⟨hbt, v, out, rfl, ho.sl (fun x hx _ _ => hx) fun g hg => (ho.lt g hg).1, ?_⟩
    rw [hR]
    exact ⟨_, _, hb⟩
  obtain ⟨n, rfl⟩ : ∃ m, n = m + 1 := ⟨n - 1, by omega⟩
  obtain ⟨va, vc, rfl⟩ := ho.shape
  repeat (first | refine RL.vv ?_ | refine RL.p ?_ | refine RL.nil ?_ | refine Sim.seq ?_ | refine Sim.region ?_ | refine Sim.block ?_ | refine Sim.skip ?_ | refine Sim.inBlock ?_ | refine Sim.exit rfl ?_ | refine Sim.condT rfl ?_ | refine Sim.condF rfl ?_)
  refine RL.cs (wok_t w2 hb) ?_
  by_cases h0 : (0 : Int) < (out.length : Int)
  rotate_left
  · have hgo := loopM_go (sub := listM s d) (s := s) (n := n) (i := i2) (p := p2) (out := out) (fun h => by omega)
    rw [if_neg (by omega)] at hgo
    rw [hgo] at hR
    clear hgo
    obtain ⟨ic, rfl⟩ : ∃ ic, ic = i2 := ⟨_, rfl⟩
    repeat (first | refine RL.vv ?_ | refine RL.p ?_ | refine RL.nil ?_ | refine Sim.seq ?_ | refine Sim.region ?_ | refine Sim.block ?_ | refine Sim.skip ?_ | refine Sim.inBlock ?_ | refine Sim.exit rfl ?_ | refine Sim.condT rfl ?_ | refine Sim.condF rfl ?_)
    refine RL.cx (wname_u _ hb hi hs) ?_
    rintro _ w4 ⟨nm, i1, e1, j1, rfl, hbt4, hb, hg⟩
    refine ⟨_, rfl, ?_⟩
    have ho := ho.but hbt4 (fun x hx => by omega) (fun g hg => by have := (ho.lt g hg).1; omega)
    have hbt := hbt.trans hbt4
    refine RL.val trivial rfl (y_build (v := .agg #[.string ⟨#[]⟩, .string nm, .slice none 0 0]) rfl (fun w => by kernel_rfl)) ?_
    refine RL.al (.refl w4) fun b6 w5 he6 _ hu5 _ hb6 => ?_
    have hsz := hbt.size
    have hw6 : w.heap.size ≤ b6 := by omega
    have hb := hb.up hu5
    have ho : Own (pckLay (d + 1)) 93 w.heap.size (fun x => w.heap.size ≤ x ∧ x < b6) w4 (.slice va out.length vc) out := ho.shift fun x hx hlt _ => ⟨hx, by omega⟩
    have hn6 : ∀ g, Value.ownBlock (.slice va out.length vc) = some g → g ≠ b6 := fun g hg => by have := (ho.lt g hg).2; omega
    have hnb : ∀ g, Value.ownBlock (.slice va out.length vc) = some g → g ≠ b := fun g hg => by have := (ho.lt g hg).1; omega
    have ho := ho.up hu5
    have hbt := hbt.trans (But.of_up hu5)
    refine RL.sb hb6 fun w6 hbt6 hb6 => ?_
    have hb6 : Box w6 b6 93 [.string ⟨#[]⟩, .string nm, .slice none 0 0] := hb6
    have hbt := hbt.but hbt6 hw6
    have hb := hb.but hbt6 (by omega)
    have ho := ho.but hbt6 (fun x hx => by omega) hn6
    clear hbt4 hu5 hbt6 he6 hsz
    refine RL.nil ?_
    refine Sim.seq ?_
    refine Sim.cutX (σ := Nat × Int × Nat) (fun _ => [(0, .pointer (some ⟨b, 0, none⟩)), (1, .int .i64 (k : Int)), (5, .slice va out.length vc), (6, .pointer (some ⟨b6, 0, none⟩))])
      (fun st w' => But b w w' ∧ Wk w' b s i1 st.1 st.2.1 st.2.2 ∧ Box w' b6 93 [.string ⟨#[]⟩, .string nm, .slice none 0 0] ∧ Own (pckLay (d + 1)) 93 w.heap.size (fun x => w.heap.size ≤ x ∧ x < b6) w' (.slice va out.length vc) out ∧ Good st.2.1 st.2.2 (i1 ≤ s.size ∧ st.1 = p2 + 1 ∧ p2 + 1 ≤ 60 ∧ nameM s ic = .ok (nm, i1)) (pickM (listM s d) s ic p2 = .error (st.2.1, st.2.2))) (fun k' next2 => ?_) ?_
    · rcases hg with ⟨rfl, rfl, hi1, hn⟩ | ⟨he, hn⟩
      · repeat (first | refine RL.vv ?_ | refine RL.p ?_ | refine RL.nil ?_ | refine Sim.seq ?_ | refine Sim.region ?_ | refine Sim.block ?_ | refine Sim.skip ?_ | refine Sim.inBlock ?_ | refine Sim.exit rfl ?_ | refine Sim.condT rfl ?_ | refine Sim.condF rfl ?_)
        refine RL.cs (wok_t w6 hb) ?_
        have ha := hb.at
        repeat (first | refine RL.vv ?_ | refine RL.p ?_ | refine RL.nil ?_ | refine Sim.seq ?_ | refine Sim.region ?_ | refine Sim.block ?_ | refine Sim.skip ?_ | refine Sim.inBlock ?_ | refine Sim.exit rfl ?_ | refine Sim.condT rfl ?_ | refine Sim.condF rfl ?_)
        refine RL.sb hb fun w7 hbt7 hb => ?_
        have hb : Wk w7 b s i1 (p2 + 1) 0 0 := hb
        have hb6 := hb6.but hbt7 (by omega)
        have ho := ho.but hbt7 (fun x hx => by omega) hnb
        have hbt := hbt.trans hbt7
        have ha := hb.at
        by_cases h60 : (60 : Int) < ((p2 + 1 : Nat) : Int)
        · repeat (first | refine RL.vv ?_ | refine RL.p ?_ | refine RL.nil ?_ | refine Sim.seq ?_ | refine Sim.region ?_ | refine Sim.block ?_ | refine Sim.skip ?_ | refine Sim.inBlock ?_ | refine Sim.exit rfl ?_ | refine Sim.condT rfl ?_ | refine Sim.condF rfl ?_)
          refine RL.cx (wstop_t 4 w7 hb) ?_
          rintro _ w8 ⟨rfl, hbt8, hb⟩
          refine ⟨_, rfl, ?_⟩
          repeat (first | refine RL.vv ?_ | refine RL.p ?_ | refine RL.nil ?_ | refine Sim.seq ?_ | refine Sim.region ?_ | refine Sim.block ?_ | refine Sim.skip ?_ | refine Sim.inBlock ?_ | refine Sim.exit rfl ?_ | refine Sim.condT rfl ?_ | refine Sim.condF rfl ?_)
          refine next2 (p2 + 1, 4, i1) w8 _ ⟨hbt.trans hbt8, hb, hb6.but hbt8 (by omega), ho.but hbt8 (fun x hx => by omega) hnb, .inr ⟨by simp only; decide, ?_⟩⟩ sb
          unfold pickM
          rw [hn]
          exact if_pos (by omega)
        · repeat (first | refine RL.vv ?_ | refine RL.p ?_ | refine RL.nil ?_ | refine Sim.seq ?_ | refine Sim.region ?_ | refine Sim.block ?_ | refine Sim.skip ?_ | refine Sim.inBlock ?_ | refine Sim.exit rfl ?_ | refine Sim.condT rfl ?_ | refine Sim.condF rfl ?_)
          exact next2 (p2 + 1, 0, 0) w7 _ ⟨hbt, hb, hb6, ho, .inl ⟨rfl, rfl, hi1, rfl, by omega, hn⟩⟩ sb
      · repeat (first | refine RL.vv ?_ | refine RL.p ?_ | refine RL.nil ?_ | refine Sim.seq ?_ | refine Sim.region ?_ | refine Sim.block ?_ | refine Sim.skip ?_ | refine Sim.inBlock ?_ | refine Sim.exit rfl ?_ | refine Sim.condT rfl ?_ | refine Sim.condF rfl ?_)
        refine RL.cs (wok_f w6 hb he) ?_
        repeat (first | refine RL.vv ?_ | refine RL.p ?_ | refine RL.nil ?_ | refine Sim.seq ?_ | refine Sim.region ?_ | refine Sim.block ?_ | refine Sim.skip ?_ | refine Sim.inBlock ?_ | refine Sim.exit rfl ?_ | refine Sim.condT rfl ?_ | refine Sim.condF rfl ?_)
        refine next2 (p2, e1, j1) w6 _ ⟨hbt, hb, hb6, ho, .inr ⟨he, ?_⟩⟩ sb
        unfold pickM
        rw [hn]
    clear hb hb6 ho hbt hg
    rintro ⟨p3, e2, j2⟩ w7 ⟨hbt, hb, hb6, ho, hg⟩
    simp only at hb hg ⊢
    refine Sim.seq ?_
    refine Sim.cutX (σ := Str × Str × Nat × Int × Nat) (fun _ => [(0, .pointer (some ⟨b, 0, none⟩)), (1, .int .i64 (k : Int)), (5, .slice va out.length vc), (6, .pointer (some ⟨b6, 0, none⟩))])
      (fun st w' => But b w w' ∧ Wk w' b s st.2.2.1 p3 st.2.2.2.1 st.2.2.2.2 ∧ Box w' b6 93 [.string st.1, .string st.2.1, .slice none 0 0] ∧ Own (pckLay (d + 1)) 93 w.heap.size (fun x => w.heap.size ≤ x ∧ x < b6) w' (.slice va out.length vc) out ∧ Good st.2.2.2.1 st.2.2.2.2 (st.2.2.1 ≤ s.size ∧ p3 ≤ 60 ∧ pickM (listM s d) s ic p2 = tailM (listM s d) s p3 st.1 st.2.1 st.2.2.1) (pickM (listM s d) s ic p2 = .error (st.2.2.2.1, st.2.2.2.2))) (fun k' next3 => ?_) ?_
    · rcases hg with ⟨rfl, rfl, hi1, rfl, h60, hn⟩ | ⟨he, hn⟩
      · have h60' : ¬ 60 < p2 + 1 := by omega
        repeat (first | refine RL.vv ?_ | refine RL.p ?_ | refine RL.nil ?_ | refine Sim.seq ?_ | refine Sim.region ?_ | refine Sim.block ?_ | refine Sim.skip ?_ | refine Sim.inBlock ?_ | refine Sim.exit rfl ?_ | refine Sim.condT rfl ?_ | refine Sim.condF rfl ?_)
        refine RL.cx (won_t w7 hb hi1 hs) ?_
        rintro _ w8 ⟨rfl, hbt8, hb⟩
        refine ⟨_, rfl, ?_⟩
        have hb6 := hb6.but hbt8 (by omega)
        have ho := ho.but hbt8 (fun x hx => by omega) hnb
        have hbt := hbt.trans hbt8
        have hj := blankM_le hi1
        have ha := hb.at
        have ha6 := hb6.at
        rcases Bool.eq_false_or_eq_true (isAt s (blankM s i1) 58) with hc | hc
        · rw [hc]
          have hlt := isAt_lt hc
          repeat (first | refine RL.vv ?_ | refine RL.p ?_ | refine RL.nil ?_ | refine Sim.seq ?_ | refine Sim.region ?_ | refine Sim.block ?_ | refine Sim.skip ?_ | refine Sim.inBlock ?_ | refine Sim.exit rfl ?_ | refine Sim.condT rfl ?_ | refine Sim.condF rfl ?_)
          refine RL.sb hb fun w9 hbt9 hb => ?_
          have hb : Wk w9 b s (blankM s i1 + 1) (p2 + 1) 0 0 := hb
          have hb6 := hb6.but hbt9 (by omega)
          have ho := ho.but hbt9 (fun x hx => by omega) hnb
          have hbt := hbt.trans hbt9
          have ha6 := hb6.at
          repeat (first | refine RL.vv ?_ | refine RL.p ?_ | refine RL.nil ?_ | refine Sim.seq ?_ | refine Sim.region ?_ | refine Sim.block ?_ | refine Sim.skip ?_ | refine Sim.inBlock ?_ | refine Sim.exit rfl ?_ | refine Sim.condT rfl ?_ | refine Sim.condF rfl ?_)
          refine RL.sb hb6 fun w10 hbt10 hb6 => ?_
          have hb6 : Box w10 b6 93 [.string nm, .string nm, .slice none 0 0] := hb6
          have hb := hb.but hbt10 (by omega)
          have ho := ho.but hbt10 (fun x hx => by omega) hn6
          have hbt := hbt.but hbt10 hw6
          repeat (first | refine RL.vv ?_ | refine RL.p ?_ | refine RL.nil ?_ | refine Sim.seq ?_ | refine Sim.region ?_ | refine Sim.block ?_ | refine Sim.skip ?_ | refine Sim.inBlock ?_ | refine Sim.exit rfl ?_ | refine Sim.condT rfl ?_ | refine Sim.condF rfl ?_)
          refine RL.cx (wname_u w10 hb (by omega) hs) ?_
          rintro _ w11 ⟨n2, i2', e3, j3, rfl, hbt11, hb, hg⟩
          refine ⟨_, rfl, ?_⟩
          have hb6 := hb6.but hbt11 (by omega)
          have ho := ho.but hbt11 (fun x hx => by omega) hnb
          have hbt := hbt.trans hbt11
          repeat (first | refine RL.vv ?_ | refine RL.p ?_ | refine RL.nil ?_ | refine Sim.seq ?_ | refine Sim.region ?_ | refine Sim.block ?_ | refine Sim.skip ?_ | refine Sim.inBlock ?_ | refine Sim.exit rfl ?_ | refine Sim.condT rfl ?_ | refine Sim.condF rfl ?_)
          refine RL.sb hb6 fun w12 hbt12 hb6 => ?_
          have hb6 : Box w12 b6 93 [.string nm, .string n2, .slice none 0 0] := hb6
          have hb := hb.but hbt12 (by omega)
          have ho := ho.but hbt12 (fun x hx => by omega) hn6
          have hbt := hbt.but hbt12 hw6
          repeat (first | refine RL.vv ?_ | refine RL.p ?_ | refine RL.nil ?_ | refine Sim.seq ?_ | refine Sim.region ?_ | refine Sim.block ?_ | refine Sim.skip ?_ | refine Sim.inBlock ?_ | refine Sim.exit rfl ?_ | refine Sim.condT rfl ?_ | refine Sim.condF rfl ?_)
          rcases hg with ⟨rfl, rfl, hi2', hn2⟩ | ⟨he3, hn2⟩
          · refine next3 (nm, n2, i2', 0, 0) w12 _ ⟨hbt, hb, hb6, ho, .inl ⟨rfl, rfl, hi2', h60, ?_⟩⟩ sb
            unfold pickM
            rw [hn]
            simp only
            rw [if_neg h60', if_pos hc, hn2]
          · refine next3 (nm, n2, i2', e3, j3) w12 _ ⟨hbt, hb, hb6, ho, .inr ⟨he3, ?_⟩⟩ sb
            unfold pickM
            rw [hn]
            simp only
            rw [if_neg h60', if_pos hc, hn2]
        · rw [hc]
          repeat (first | refine RL.vv ?_ | refine RL.p ?_ | refine RL.nil ?_ | refine Sim.seq ?_ | refine Sim.region ?_ | refine Sim.block ?_ | refine Sim.skip ?_ | refine Sim.inBlock ?_ | refine Sim.exit rfl ?_ | refine Sim.condT rfl ?_ | refine Sim.condF rfl ?_)
          refine next3 (⟨#[]⟩, nm, blankM s i1, 0, 0) w8 _ ⟨hbt, hb, hb6, ho, .inl ⟨rfl, rfl, hj, h60, ?_⟩⟩ sb
          unfold pickM
          rw [hn]
          simp only
          rw [if_neg h60', if_neg (by rw [hc]; exact Bool.false_ne_true)]
      · repeat (first | refine RL.vv ?_ | refine RL.p ?_ | refine RL.nil ?_ | refine Sim.seq ?_ | refine Sim.region ?_ | refine Sim.block ?_ | refine Sim.skip ?_ | refine Sim.inBlock ?_ | refine Sim.exit rfl ?_ | refine Sim.condT rfl ?_ | refine Sim.condF rfl ?_)
        refine RL.cs (won_f _ w7 hb he) ?_
        repeat (first | refine RL.vv ?_ | refine RL.p ?_ | refine RL.nil ?_ | refine Sim.seq ?_ | refine Sim.region ?_ | refine Sim.block ?_ | refine Sim.skip ?_ | refine Sim.inBlock ?_ | refine Sim.exit rfl ?_ | refine Sim.condT rfl ?_ | refine Sim.condF rfl ?_)
        exact next3 (⟨#[]⟩, nm, i1, e2, j2) w7 _ ⟨hbt, hb, hb6, ho, .inr ⟨he, hn⟩⟩ sb
    clear hb hb6 ho hbt hg
    rintro ⟨al, fd, i3, e3, j3⟩ w8 ⟨hbt, hb, hb6, ho, hg⟩
    simp only at hb hb6 hg ⊢
    refine Sim.seq ?_
    refine Sim.cutX (σ := List Pck × Nat × Nat × Value × Int × Nat) (fun _ => [(0, .pointer (some ⟨b, 0, none⟩)), (1, .int .i64 (k : Int)), (5, .slice va out.length vc), (6, .pointer (some ⟨b6, 0, none⟩))])
      (fun st w' => But b w w' ∧ Wk w' b s st.2.1 st.2.2.1 st.2.2.2.2.1 st.2.2.2.2.2 ∧ Box w' b6 93 [.string al, .string fd, st.2.2.2.1] ∧ SliceOf (pckLay d) (fun x => w.heap.size ≤ x ∧ x ≠ b6 ∧ some x ≠ Value.ownBlock (.slice va out.length vc)) w' st.2.2.2.1 st.1 ∧ Own (pckLay (d + 1)) 93 w.heap.size (fun x => w.heap.size ≤ x ∧ x < b6) w' (.slice va out.length vc) out ∧ Good st.2.2.2.2.1 st.2.2.2.2.2 (pickM (listM s d) s ic p2 = .ok (.mk al fd st.1, st.2.1, st.2.2.1)) (pickM (listM s d) s ic p2 = .error (st.2.2.2.2.1, st.2.2.2.2.2))) (fun k' next4 => ?_) ?_
    · rcases hg with ⟨rfl, rfl, hi3, h60, hn⟩ | ⟨he, hn⟩
      · repeat (first | refine RL.vv ?_ | refine RL.p ?_ | refine RL.nil ?_ | refine Sim.seq ?_ | refine Sim.region ?_ | refine Sim.block ?_ | refine Sim.skip ?_ | refine Sim.inBlock ?_ | refine Sim.exit rfl ?_ | refine Sim.condT rfl ?_ | refine Sim.condF rfl ?_)
        refine RL.cx (won_t w8 hb hi3 hs) ?_
        rintro _ w9 ⟨rfl, hbt9, hb⟩
        refine ⟨_, rfl, ?_⟩
        have hb6 := hb6.but hbt9 (by omega)
        have ho := ho.but hbt9 (fun x hx => by omega) hnb
        have hbt := hbt.trans hbt9
        have hj := blankM_le hi3
        rcases Bool.eq_false_or_eq_true (isAt s (blankM s i3) 123) with hc | hc
        · rw [hc]
          repeat (first | refine RL.vv ?_ | refine RL.p ?_ | refine RL.nil ?_ | refine Sim.seq ?_ | refine Sim.region ?_ | refine Sim.block ?_ | refine Sim.skip ?_ | refine Sim.inBlock ?_ | refine Sim.exit rfl ?_ | refine Sim.condT rfl ?_ | refine Sim.condF rfl ?_)
          refine RL.cx (H (k := k + 1) w9 (by omega) hb hj hs h60) ?_
          rintro _ w10 ⟨hbt10, lv, l, rfl, hsl, hm⟩
          refine ⟨_, rfl, ?_⟩
          obtain ⟨la, lc, rfl, _⟩ := id hsl
          have hl6 := hb6.lt
          have hsz := hbt.size
          have hol := ho.lt
          have hb6 := hb6.but hbt10 (by omega)
          have ho := ho.but hbt10 (fun x hx => by omega) hnb
          have hbt := hbt.trans hbt10
          repeat (first | refine RL.vv ?_ | refine RL.p ?_ | refine RL.nil ?_ | refine Sim.seq ?_ | refine Sim.region ?_ | refine Sim.block ?_ | refine Sim.skip ?_ | refine Sim.inBlock ?_ | refine Sim.exit rfl ?_ | refine Sim.condT rfl ?_ | refine Sim.condF rfl ?_)
          refine RL.sb hb6 fun w11 hbt11 hb6 => ?_
          have hb6 : Box w11 b6 93 [.string al, .string fd, .slice la l.length lc] := hb6
          have ho := ho.but hbt11 (fun x hx => by omega) hn6
          have hbt := hbt.but hbt11 hw6
          have hsl : SliceOf (pckLay d) (fun x => w.heap.size ≤ x ∧ x ≠ b6 ∧ some x ≠ Value.ownBlock (.slice va out.length vc)) w11 (.slice la l.length lc) l := (hsl.mono (S' := fun x => w.heap.size ≤ x ∧ x ≠ b6 ∧ some x ≠ Value.ownBlock (.slice va out.length vc)) fun x hx => ⟨by omega, by omega, fun e => by have := (hol x e.symm).2; omega⟩).bt hbt11 fun x hx => hx.2.1
          repeat (first | refine RL.vv ?_ | refine RL.p ?_ | refine RL.nil ?_ | refine Sim.seq ?_ | refine Sim.region ?_ | refine Sim.block ?_ | refine Sim.skip ?_ | refine Sim.inBlock ?_ | refine Sim.exit rfl ?_ | refine Sim.condT rfl ?_ | refine Sim.condF rfl ?_)
          have htl : tailM (listM s d) s p3 al fd i3 = match listM s d (blankM s i3) p3 with
              | .error e => .error e
              | .ok (l, i', p') => .ok (.mk al fd l, i', p') := by
            unfold tailM
            rw [if_pos hc]
            cases listM s d (blankM s i3) p3 <;> rfl
          rcases hl : listM s d (blankM s i3) p3 with ⟨e, j⟩ | ⟨l', i', p'⟩
          · rw [hl] at hm htl
            obtain ⟨i', p', hb⟩ := hm
            exact next4 (l, i', p', .slice la l.length lc, e, j) w11 _ ⟨hbt, hb.but hbt11 (by omega), hb6, hsl, ho, .inr ⟨(hbad _ _ _ _ hj h60 hl).1, by rw [hn, htl]⟩⟩ sb
          · rw [hl] at hm htl
            obtain ⟨rfl, hb⟩ := hm
            exact next4 (l', i', p', .slice la l'.length lc, 0, 0) w11 _ ⟨hbt, hb.but hbt11 (by omega), hb6, hsl, ho, .inl ⟨rfl, rfl, by rw [hn, htl]⟩⟩ sb
        · rw [hc]
          repeat (first | refine RL.vv ?_ | refine RL.p ?_ | refine RL.nil ?_ | refine Sim.seq ?_ | refine Sim.region ?_ | refine Sim.block ?_ | refine Sim.skip ?_ | refine Sim.inBlock ?_ | refine Sim.exit rfl ?_ | refine Sim.condT rfl ?_ | refine Sim.condF rfl ?_)
          refine next4 ([], blankM s i3, p3, .slice none 0 0, 0, 0) w9 _ ⟨hbt, hb, hb6, SliceOf.nil _ _ _, ho, .inl ⟨rfl, rfl, ?_⟩⟩ sb
          rw [hn]
          unfold tailM
          rw [if_neg (by rw [hc]; exact Bool.false_ne_true)]
      · repeat (first | refine RL.vv ?_ | refine RL.p ?_ | refine RL.nil ?_ | refine Sim.seq ?_ | refine Sim.region ?_ | refine Sim.block ?_ | refine Sim.skip ?_ | refine Sim.inBlock ?_ | refine Sim.exit rfl ?_ | refine Sim.condT rfl ?_ | refine Sim.condF rfl ?_)
        refine RL.cs (won_f _ w8 hb he) ?_
        repeat (first | refine RL.vv ?_ | refine RL.p ?_ | refine RL.nil ?_ | refine Sim.seq ?_ | refine Sim.region ?_ | refine Sim.block ?_ | refine Sim.skip ?_ | refine Sim.inBlock ?_ | refine Sim.exit rfl ?_ | refine Sim.condT rfl ?_ | refine Sim.condF rfl ?_)
        exact next4 ([], i3, p3, .slice none 0 0, e3, j3) w8 _ ⟨hbt, hb, hb6, SliceOf.nil _ _ _, ho, .inr ⟨he, hn⟩⟩ sb
    clear hb hb6 ho hbt hg
    rintro ⟨l, i', p', lv, e4, j4⟩ w9 ⟨hbt, hb, hb6, hsl, ho, hg⟩
    simp only at hb hb6 hsl hg ⊢
    obtain ⟨la, lc, rfl, _⟩ := id hsl
    have ha6 := hb6.at
    repeat (first | refine RL.vv ?_ | refine RL.p ?_ | refine RL.nil ?_ | refine Sim.seq ?_ | refine Sim.region ?_ | refine Sim.block ?_ | refine Sim.skip ?_ | refine Sim.inBlock ?_ | refine Sim.exit rfl ?_ | refine Sim.condT rfl ?_ | refine Sim.condF rfl ?_)
    refine RL.bu (el := 93) [.string al, .string fd, .slice la l.length lc] (.refl w9) fun bx w10 hex _ hu10 _ hbx => ?_
    have hsz := hbt.size
    have hbt := hbt.trans (But.of_up hu10)
    have hlo := ho.lt
    have hel : (pckLay (d + 1)).is (fun y => w.heap.size ≤ y ∧ some y ≠ Value.ownBlock (.slice va out.length vc)) w10 [.string al, .string fd, .slice la l.length lc] (.mk al fd l) := by
      have h1 := (hsl.up hu10).mono (S' := fun y => w.heap.size ≤ y ∧ some y ≠ Value.ownBlock (.slice va out.length vc)) fun y hy => ⟨hy.1, hy.2.2⟩
      obtain ⟨a', c', e', q1, q2, q3⟩ := h1
      cases e'
      exact ⟨_, _, rfl, q1, q2, q3⟩
    have ho : Own (pckLay (d + 1)) 93 w.heap.size (fun x => w.heap.size ≤ x) w10 (.slice va out.length vc) out := (ho.up hu10).shift fun x hx _ _ => hx.1
    refine RL.appB (L := pckLay (d + 1)) (el := 93) (S := fun x => w.heap.size ≤ x) (ys := [.mk al fd l]) hbt ho (SliceOf.one hbx ⟨by omega, fun e => by have := (hlo bx e.symm).2; omega⟩ hel) (by simp only [List.length_cons, List.length_nil]; omega) (Nat.le_refl _) hbt.size fun v' w11 hbt11 ho hg2 hv => ?_
    have hb := (hb.up hu10).grown hg2 (fun e => hnb b e.symm rfl)
    repeat (first | refine RL.vv ?_ | refine RL.p ?_ | refine RL.nil ?_ | refine Sim.seq ?_ | refine Sim.region ?_ | refine Sim.block ?_ | refine Sim.skip ?_ | refine Sim.inBlock ?_ | refine Sim.exit rfl ?_ | refine Sim.condT rfl ?_ | refine Sim.condF rfl ?_)
    refine next (n, out ++ [.mk al fd l], i', p', v', e4, j4) w11 _ ⟨hbt11, hb, ho, ?_⟩ ?_ sb
    · rcases hg with ⟨rfl, rfl, hpk⟩ | ⟨he, hpk⟩
      · obtain ⟨_, _, _, _, hq2, hq3, _, hq5⟩ := pickM_ok hok hi hp hpk
        rw [hpk] at hR
        exact .inl ⟨rfl, rfl, hq5, hq3, by simp only [List.length_append, List.length_cons, List.length_nil]; omega, by simp only; omega, hR⟩
      · rw [hpk] at hR
        exact .inr ⟨he, hR.symm⟩
    · rcases hg with ⟨rfl, rfl, hpk⟩ | ⟨he, hpk⟩
      · obtain ⟨_, _, _, _, hq2, hq3, _, hq5⟩ := pickM_ok hok hi hp hpk
        simp only [if_pos]
        omega
      · simp only [if_pos, if_neg he]
        omega
  have h1 : 0 < out.length := by omega
  repeat (first | refine RL.vv ?_ | refine RL.p ?_ | refine RL.nil ?_ | refine Sim.seq ?_ | refine Sim.region ?_ | refine Sim.block ?_ | refine Sim.skip ?_ | refine Sim.inBlock ?_ | refine Sim.exit rfl ?_ | refine Sim.condT rfl ?_ | refine Sim.condF rfl ?_)
  refine RL.cx (won_t w2 hb hi hs) ?_
  rintro _ w3 ⟨rfl, hbt3, hb⟩
  refine ⟨_, rfl, ?_⟩
  have ho := ho.but hbt3 (fun x hx => by omega) (fun g hg => by have := (ho.lt g hg).1; omega)
  have hbt := hbt.trans hbt3
  rcases Bool.eq_false_or_eq_true (isAt s (blankM s i2) 125) with hc | hc
  · rw [loopM_stop h1 hc] at hR
    have hlt := isAt_lt hc
    rw [hc]
    have ha := hb.at
    repeat (first | refine RL.vv ?_ | refine RL.p ?_ | refine RL.nil ?_ | refine Sim.seq ?_ | refine Sim.region ?_ | refine Sim.block ?_ | refine Sim.skip ?_ | refine Sim.inBlock ?_ | refine Sim.exit rfl ?_ | refine Sim.condT rfl ?_ | refine Sim.condF rfl ?_)
    refine RL.sb hb fun w4 hbt4 hb => ?_
    have hb : Wk w4 b s (blankM s i2 + 1) p2 0 0 := hb
    have ho := ho.but hbt4 (fun x hx => by omega) (fun g hg => by have := (ho.lt g hg).1; omega)
    repeat (first | refine RL.vv ?_ | refine RL.p ?_ | refine RL.nil ?_ | refine Sim.seq ?_ | refine Sim.region ?_ | refine Sim.block ?_ | refine Sim.skip ?_ | refine Sim.inBlock ?_ | refine Sim.exit rfl ?_ | refine Sim.condT rfl ?_ | refine Sim.condF rfl ?_)
    refine Sim.ret1 Try.func84 rfl rfl ⟨hbt.trans hbt4, _, out, rfl, ho.sl (fun x hx _ _ => hx) fun g hg => (ho.lt g hg).1, ?_⟩
    rw [← hR]
    exact ⟨rfl, hb⟩
  have hgo := loopM_go (sub := listM s d) (s := s) (n := n) (i := i2) (p := p2) (out := out) (fun h => by rw [hc] at h; exact Bool.false_ne_true h.2)
  rw [if_pos h1] at hgo
  rw [hgo] at hR
  rw [hc]
  have hi := blankM_le hi
  clear hgo hc
  generalize blankM s i2 = ic at *
  repeat (first | refine RL.vv ?_ | refine RL.p ?_ | refine RL.nil ?_ | refine Sim.seq ?_ | refine Sim.region ?_ | refine Sim.block ?_ | refine Sim.skip ?_ | refine Sim.inBlock ?_ | refine Sim.exit rfl ?_ | refine Sim.condT rfl ?_ | refine Sim.condF rfl ?_)
  refine RL.cx (wname_u _ hb hi hs) ?_
  rintro _ w4 ⟨nm, i1, e1, j1, rfl, hbt4, hb, hg⟩
  refine ⟨_, rfl, ?_⟩
  have ho := ho.but hbt4 (fun x hx => by omega) (fun g hg => by have := (ho.lt g hg).1; omega)
  have hbt := hbt.trans hbt4
  refine RL.val trivial rfl (y_build (v := .agg #[.string ⟨#[]⟩, .string nm, .slice none 0 0]) rfl (fun w => by kernel_rfl)) ?_
  refine RL.al (.refl w4) fun b6 w5 he6 _ hu5 _ hb6 => ?_
  have hsz := hbt.size
  have hw6 : w.heap.size ≤ b6 := by omega
  have hb := hb.up hu5
  have ho : Own (pckLay (d + 1)) 93 w.heap.size (fun x => w.heap.size ≤ x ∧ x < b6) w4 (.slice va out.length vc) out := ho.shift fun x hx hlt _ => ⟨hx, by omega⟩
  have hn6 : ∀ g, Value.ownBlock (.slice va out.length vc) = some g → g ≠ b6 := fun g hg => by have := (ho.lt g hg).2; omega
  have hnb : ∀ g, Value.ownBlock (.slice va out.length vc) = some g → g ≠ b := fun g hg => by have := (ho.lt g hg).1; omega
  have ho := ho.up hu5
  have hbt := hbt.trans (But.of_up hu5)
  refine RL.sb hb6 fun w6 hbt6 hb6 => ?_
  have hb6 : Box w6 b6 93 [.string ⟨#[]⟩, .string nm, .slice none 0 0] := hb6
  have hbt := hbt.but hbt6 hw6
  have hb := hb.but hbt6 (by omega)
  have ho := ho.but hbt6 (fun x hx => by omega) hn6
  clear hbt4 hu5 hbt6 he6 hsz
  refine RL.nil ?_
  refine Sim.seq ?_
  refine Sim.cutX (σ := Nat × Int × Nat) (fun _ => [(0, .pointer (some ⟨b, 0, none⟩)), (1, .int .i64 (k : Int)), (5, .slice va out.length vc), (6, .pointer (some ⟨b6, 0, none⟩))])
    (fun st w' => But b w w' ∧ Wk w' b s i1 st.1 st.2.1 st.2.2 ∧ Box w' b6 93 [.string ⟨#[]⟩, .string nm, .slice none 0 0] ∧ Own (pckLay (d + 1)) 93 w.heap.size (fun x => w.heap.size ≤ x ∧ x < b6) w' (.slice va out.length vc) out ∧ Good st.2.1 st.2.2 (i1 ≤ s.size ∧ st.1 = p2 + 1 ∧ p2 + 1 ≤ 60 ∧ nameM s ic = .ok (nm, i1)) (pickM (listM s d) s ic p2 = .error (st.2.1, st.2.2))) (fun k' next2 => ?_) ?_
  · rcases hg with ⟨rfl, rfl, hi1, hn⟩ | ⟨he, hn⟩
    · repeat (first | refine RL.vv ?_ | refine RL.p ?_ | refine RL.nil ?_ | refine Sim.seq ?_ | refine Sim.region ?_ | refine Sim.block ?_ | refine Sim.skip ?_ | refine Sim.inBlock ?_ | refine Sim.exit rfl ?_ | refine Sim.condT rfl ?_ | refine Sim.condF rfl ?_)
      refine RL.cs (wok_t w6 hb) ?_
      have ha := hb.at
      repeat (first | refine RL.vv ?_ | refine RL.p ?_ | refine RL.nil ?_ | refine Sim.seq ?_ | refine Sim.region ?_ | refine Sim.block ?_ | refine Sim.skip ?_ | refine Sim.inBlock ?_ | refine Sim.exit rfl ?_ | refine Sim.condT rfl ?_ | refine Sim.condF rfl ?_)
      refine RL.sb hb fun w7 hbt7 hb => ?_
      have hb : Wk w7 b s i1 (p2 + 1) 0 0 := hb
      have hb6 := hb6.but hbt7 (by omega)
      have ho := ho.but hbt7 (fun x hx => by omega) hnb
      have hbt := hbt.trans hbt7
      have ha := hb.at
      by_cases h60 : (60 : Int) < ((p2 + 1 : Nat) : Int)
      · repeat (first | refine RL.vv ?_ | refine RL.p ?_ | refine RL.nil ?_ | refine Sim.seq ?_ | refine Sim.region ?_ | refine Sim.block ?_ | refine Sim.skip ?_ | refine Sim.inBlock ?_ | refine Sim.exit rfl ?_ | refine Sim.condT rfl ?_ | refine Sim.condF rfl ?_)
        refine RL.cx (wstop_t 4 w7 hb) ?_
        rintro _ w8 ⟨rfl, hbt8, hb⟩
        refine ⟨_, rfl, ?_⟩
        repeat (first | refine RL.vv ?_ | refine RL.p ?_ | refine RL.nil ?_ | refine Sim.seq ?_ | refine Sim.region ?_ | refine Sim.block ?_ | refine Sim.skip ?_ | refine Sim.inBlock ?_ | refine Sim.exit rfl ?_ | refine Sim.condT rfl ?_ | refine Sim.condF rfl ?_)
        refine next2 (p2 + 1, 4, i1) w8 _ ⟨hbt.trans hbt8, hb, hb6.but hbt8 (by omega), ho.but hbt8 (fun x hx => by omega) hnb, .inr ⟨by simp only; decide, ?_⟩⟩ sb
        unfold pickM
        rw [hn]
        exact if_pos (by omega)
      · repeat (first | refine RL.vv ?_ | refine RL.p ?_ | refine RL.nil ?_ | refine Sim.seq ?_ | refine Sim.region ?_ | refine Sim.block ?_ | refine Sim.skip ?_ | refine Sim.inBlock ?_ | refine Sim.exit rfl ?_ | refine Sim.condT rfl ?_ | refine Sim.condF rfl ?_)
        exact next2 (p2 + 1, 0, 0) w7 _ ⟨hbt, hb, hb6, ho, .inl ⟨rfl, rfl, hi1, rfl, by omega, hn⟩⟩ sb
    · repeat (first | refine RL.vv ?_ | refine RL.p ?_ | refine RL.nil ?_ | refine Sim.seq ?_ | refine Sim.region ?_ | refine Sim.block ?_ | refine Sim.skip ?_ | refine Sim.inBlock ?_ | refine Sim.exit rfl ?_ | refine Sim.condT rfl ?_ | refine Sim.condF rfl ?_)
      refine RL.cs (wok_f w6 hb he) ?_
      repeat (first | refine RL.vv ?_ | refine RL.p ?_ | refine RL.nil ?_ | refine Sim.seq ?_ | refine Sim.region ?_ | refine Sim.block ?_ | refine Sim.skip ?_ | refine Sim.inBlock ?_ | refine Sim.exit rfl ?_ | refine Sim.condT rfl ?_ | refine Sim.condF rfl ?_)
      refine next2 (p2, e1, j1) w6 _ ⟨hbt, hb, hb6, ho, .inr ⟨he, ?_⟩⟩ sb
      unfold pickM
      rw [hn]
  clear hb hb6 ho hbt hg
  rintro ⟨p3, e2, j2⟩ w7 ⟨hbt, hb, hb6, ho, hg⟩
  simp only at hb hg ⊢
  refine Sim.seq ?_
  refine Sim.cutX (σ := Str × Str × Nat × Int × Nat) (fun _ => [(0, .pointer (some ⟨b, 0, none⟩)), (1, .int .i64 (k : Int)), (5, .slice va out.length vc), (6, .pointer (some ⟨b6, 0, none⟩))])
    (fun st w' => But b w w' ∧ Wk w' b s st.2.2.1 p3 st.2.2.2.1 st.2.2.2.2 ∧ Box w' b6 93 [.string st.1, .string st.2.1, .slice none 0 0] ∧ Own (pckLay (d + 1)) 93 w.heap.size (fun x => w.heap.size ≤ x ∧ x < b6) w' (.slice va out.length vc) out ∧ Good st.2.2.2.1 st.2.2.2.2 (st.2.2.1 ≤ s.size ∧ p3 ≤ 60 ∧ pickM (listM s d) s ic p2 = tailM (listM s d) s p3 st.1 st.2.1 st.2.2.1) (pickM (listM s d) s ic p2 = .error (st.2.2.2.1, st.2.2.2.2))) (fun k' next3 => ?_) ?_
  · rcases hg with ⟨rfl, rfl, hi1, rfl, h60, hn⟩ | ⟨he, hn⟩
    · have h60' : ¬ 60 < p2 + 1 := by omega
      repeat (first | refine RL.vv ?_ | refine RL.p ?_ | refine RL.nil ?_ | refine Sim.seq ?_ | refine Sim.region ?_ | refine Sim.block ?_ | refine Sim.skip ?_ | refine Sim.inBlock ?_ | refine Sim.exit rfl ?_ | refine Sim.condT rfl ?_ | refine Sim.condF rfl ?_)
      refine RL.cx (won_t w7 hb hi1 hs) ?_
      rintro _ w8 ⟨rfl, hbt8, hb⟩
      refine ⟨_, rfl, ?_⟩
      have hb6 := hb6.but hbt8 (by omega)
      have ho := ho.but hbt8 (fun x hx => by omega) hnb
      have hbt := hbt.trans hbt8
      have hj := blankM_le hi1
      have ha := hb.at
      have ha6 := hb6.at
      rcases Bool.eq_false_or_eq_true (isAt s (blankM s i1) 58) with hc | hc
      · rw [hc]
        have hlt := isAt_lt hc
        repeat (first | refine RL.vv ?_ | refine RL.p ?_ | refine RL.nil ?_ | refine Sim.seq ?_ | refine Sim.region ?_ | refine Sim.block ?_ | refine Sim.skip ?_ | refine Sim.inBlock ?_ | refine Sim.exit rfl ?_ | refine Sim.condT rfl ?_ | refine Sim.condF rfl ?_)
        refine RL.sb hb fun w9 hbt9 hb => ?_
        have hb : Wk w9 b s (blankM s i1 + 1) (p2 + 1) 0 0 := hb
        have hb6 := hb6.but hbt9 (by omega)
        have ho := ho.but hbt9 (fun x hx => by omega) hnb
        have hbt := hbt.trans hbt9
        have ha6 := hb6.at
        repeat (first | refine RL.vv ?_ | refine RL.p ?_ | refine RL.nil ?_ | refine Sim.seq ?_ | refine Sim.region ?_ | refine Sim.block ?_ | refine Sim.skip ?_ | refine Sim.inBlock ?_ | refine Sim.exit rfl ?_ | refine Sim.condT rfl ?_ | refine Sim.condF rfl ?_)
        refine RL.sb hb6 fun w10 hbt10 hb6 => ?_
        have hb6 : Box w10 b6 93 [.string nm, .string nm, .slice none 0 0] := hb6
        have hb := hb.but hbt10 (by omega)
        have ho := ho.but hbt10 (fun x hx => by omega) hn6
        have hbt := hbt.but hbt10 hw6
        repeat (first | refine RL.vv ?_ | refine RL.p ?_ | refine RL.nil ?_ | refine Sim.seq ?_ | refine Sim.region ?_ | refine Sim.block ?_ | refine Sim.skip ?_ | refine Sim.inBlock ?_ | refine Sim.exit rfl ?_ | refine Sim.condT rfl ?_ | refine Sim.condF rfl ?_)
        refine RL.cx (wname_u w10 hb (by omega) hs) ?_
        rintro _ w11 ⟨n2, i2', e3, j3, rfl, hbt11, hb, hg⟩
        refine ⟨_, rfl, ?_⟩
        have hb6 := hb6.but hbt11 (by omega)
        have ho := ho.but hbt11 (fun x hx => by omega) hnb
        have hbt := hbt.trans hbt11
        repeat (first | refine RL.vv ?_ | refine RL.p ?_ | refine RL.nil ?_ | refine Sim.seq ?_ | refine Sim.region ?_ | refine Sim.block ?_ | refine Sim.skip ?_ | refine Sim.inBlock ?_ | refine Sim.exit rfl ?_ | refine Sim.condT rfl ?_ | refine Sim.condF rfl ?_)
        refine RL.sb hb6 fun w12 hbt12 hb6 => ?_
        have hb6 : Box w12 b6 93 [.string nm, .string n2, .slice none 0 0] := hb6
        have hb := hb.but hbt12 (by omega)
        have ho := ho.but hbt12 (fun x hx => by omega) hn6
        have hbt := hbt.but hbt12 hw6
        repeat (first | refine RL.vv ?_ | refine RL.p ?_ | refine RL.nil ?_ | refine Sim.seq ?_ | refine Sim.region ?_ | refine Sim.block ?_ | refine Sim.skip ?_ | refine Sim.inBlock ?_ | refine Sim.exit rfl ?_ | refine Sim.condT rfl ?_ | refine Sim.condF rfl ?_)
        rcases hg with ⟨rfl, rfl, hi2', hn2⟩ | ⟨he3, hn2⟩
        · refine next3 (nm, n2, i2', 0, 0) w12 _ ⟨hbt, hb, hb6, ho, .inl ⟨rfl, rfl, hi2', h60, ?_⟩⟩ sb
          unfold pickM
          rw [hn]
          simp only
          rw [if_neg h60', if_pos hc, hn2]
        · refine next3 (nm, n2, i2', e3, j3) w12 _ ⟨hbt, hb, hb6, ho, .inr ⟨he3, ?_⟩⟩ sb
          unfold pickM
          rw [hn]
          simp only
          rw [if_neg h60', if_pos hc, hn2]
      · rw [hc]
        repeat (first | refine RL.vv ?_ | refine RL.p ?_ | refine RL.nil ?_ | refine Sim.seq ?_ | refine Sim.region ?_ | refine Sim.block ?_ | refine Sim.skip ?_ | refine Sim.inBlock ?_ | refine Sim.exit rfl ?_ | refine Sim.condT rfl ?_ | refine Sim.condF rfl ?_)
        refine next3 (⟨#[]⟩, nm, blankM s i1, 0, 0) w8 _ ⟨hbt, hb, hb6, ho, .inl ⟨rfl, rfl, hj, h60, ?_⟩⟩ sb
        unfold pickM
        rw [hn]
        simp only
        rw [if_neg h60', if_neg (by rw [hc]; exact Bool.false_ne_true)]
    · repeat (first | refine RL.vv ?_ | refine RL.p ?_ | refine RL.nil ?_ | refine Sim.seq ?_ | refine Sim.region ?_ | refine Sim.block ?_ | refine Sim.skip ?_ | refine Sim.inBlock ?_ | refine Sim.exit rfl ?_ | refine Sim.condT rfl ?_ | refine Sim.condF rfl ?_)
      refine RL.cs (won_f _ w7 hb he) ?_
      repeat (first | refine RL.vv ?_ | refine RL.p ?_ | refine RL.nil ?_ | refine Sim.seq ?_ | refine Sim.region ?_ | refine Sim.block ?_ | refine Sim.skip ?_ | refine Sim.inBlock ?_ | refine Sim.exit rfl ?_ | refine Sim.condT rfl ?_ | refine Sim.condF rfl ?_)
      exact next3 (⟨#[]⟩, nm, i1, e2, j2) w7 _ ⟨hbt, hb, hb6, ho, .inr ⟨he, hn⟩⟩ sb
  clear hb hb6 ho hbt hg
  rintro ⟨al, fd, i3, e3, j3⟩ w8 ⟨hbt, hb, hb6, ho, hg⟩
  simp only at hb hb6 hg ⊢
  refine Sim.seq ?_
  refine Sim.cutX (σ := List Pck × Nat × Nat × Value × Int × Nat) (fun _ => [(0, .pointer (some ⟨b, 0, none⟩)), (1, .int .i64 (k : Int)), (5, .slice va out.length vc), (6, .pointer (some ⟨b6, 0, none⟩))])
    (fun st w' => But b w w' ∧ Wk w' b s st.2.1 st.2.2.1 st.2.2.2.2.1 st.2.2.2.2.2 ∧ Box w' b6 93 [.string al, .string fd, st.2.2.2.1] ∧ SliceOf (pckLay d) (fun x => w.heap.size ≤ x ∧ x ≠ b6 ∧ some x ≠ Value.ownBlock (.slice va out.length vc)) w' st.2.2.2.1 st.1 ∧ Own (pckLay (d + 1)) 93 w.heap.size (fun x => w.heap.size ≤ x ∧ x < b6) w' (.slice va out.length vc) out ∧ Good st.2.2.2.2.1 st.2.2.2.2.2 (pickM (listM s d) s ic p2 = .ok (.mk al fd st.1, st.2.1, st.2.2.1)) (pickM (listM s d) s ic p2 = .error (st.2.2.2.2.1, st.2.2.2.2.2))) (fun k' next4 => ?_) ?_
  · rcases hg with ⟨rfl, rfl, hi3, h60, hn⟩ | ⟨he, hn⟩
    · repeat (first | refine RL.vv ?_ | refine RL.p ?_ | refine RL.nil ?_ | refine Sim.seq ?_ | refine Sim.region ?_ | refine Sim.block ?_ | refine Sim.skip ?_ | refine Sim.inBlock ?_ | refine Sim.exit rfl ?_ | refine Sim.condT rfl ?_ | refine Sim.condF rfl ?_)
      refine RL.cx (won_t w8 hb hi3 hs) ?_
      rintro _ w9 ⟨rfl, hbt9, hb⟩
      refine ⟨_, rfl, ?_⟩
      have hb6 := hb6.but hbt9 (by omega)
      have ho := ho.but hbt9 (fun x hx => by omega) hnb
      have hbt := hbt.trans hbt9
      have hj := blankM_le hi3
      rcases Bool.eq_false_or_eq_true (isAt s (blankM s i3) 123) with hc | hc
      · rw [hc]
        repeat (first | refine RL.vv ?_ | refine RL.p ?_ | refine RL.nil ?_ | refine Sim.seq ?_ | refine Sim.region ?_ | refine Sim.block ?_ | refine Sim.skip ?_ | refine Sim.inBlock ?_ | refine Sim.exit rfl ?_ | refine Sim.condT rfl ?_ | refine Sim.condF rfl ?_)
        refine RL.cx (H (k := k + 1) w9 (by omega) hb hj hs h60) ?_
        rintro _ w10 ⟨hbt10, lv, l, rfl, hsl, hm⟩
        refine ⟨_, rfl, ?_⟩
        obtain ⟨la, lc, rfl, _⟩ := id hsl
        have hl6 := hb6.lt
        have hsz := hbt.size
        have hol := ho.lt
        have hb6 := hb6.but hbt10 (by omega)
        have ho := ho.but hbt10 (fun x hx => by omega) hnb
        have hbt := hbt.trans hbt10
        repeat (first | refine RL.vv ?_ | refine RL.p ?_ | refine RL.nil ?_ | refine Sim.seq ?_ | refine Sim.region ?_ | refine Sim.block ?_ | refine Sim.skip ?_ | refine Sim.inBlock ?_ | refine Sim.exit rfl ?_ | refine Sim.condT rfl ?_ | refine Sim.condF rfl ?_)
        refine RL.sb hb6 fun w11 hbt11 hb6 => ?_
        have hb6 : Box w11 b6 93 [.string al, .string fd, .slice la l.length lc] := hb6
        have ho := ho.but hbt11 (fun x hx => by omega) hn6
        have hbt := hbt.but hbt11 hw6
        have hsl : SliceOf (pckLay d) (fun x => w.heap.size ≤ x ∧ x ≠ b6 ∧ some x ≠ Value.ownBlock (.slice va out.length vc)) w11 (.slice la l.length lc) l := (hsl.mono (S' := fun x => w.heap.size ≤ x ∧ x ≠ b6 ∧ some x ≠ Value.ownBlock (.slice va out.length vc)) fun x hx => ⟨by omega, by omega, fun e => by have := (hol x e.symm).2; omega⟩).bt hbt11 fun x hx => hx.2.1
        repeat (first | refine RL.vv ?_ | refine RL.p ?_ | refine RL.nil ?_ | refine Sim.seq ?_ | refine Sim.region ?_ | refine Sim.block ?_ | refine Sim.skip ?_ | refine Sim.inBlock ?_ | refine Sim.exit rfl ?_ | refine Sim.condT rfl ?_ | refine Sim.condF rfl ?_)
        have htl : tailM (listM s d) s p3 al fd i3 = match listM s d (blankM s i3) p3 with
            | .error e => .error e
            | .ok (l, i', p') => .ok (.mk al fd l, i', p') := by
          unfold tailM
          rw [if_pos hc]
          cases listM s d (blankM s i3) p3 <;> rfl
        rcases hl : listM s d (blankM s i3) p3 with ⟨e, j⟩ | ⟨l', i', p'⟩
        · rw [hl] at hm htl
          obtain ⟨i', p', hb⟩ := hm
          exact next4 (l, i', p', .slice la l.length lc, e, j) w11 _ ⟨hbt, hb.but hbt11 (by omega), hb6, hsl, ho, .inr ⟨(hbad _ _ _ _ hj h60 hl).1, by rw [hn, htl]⟩⟩ sb
        · rw [hl] at hm htl
          obtain ⟨rfl, hb⟩ := hm
          exact next4 (l', i', p', .slice la l'.length lc, 0, 0) w11 _ ⟨hbt, hb.but hbt11 (by omega), hb6, hsl, ho, .inl ⟨rfl, rfl, by rw [hn, htl]⟩⟩ sb
      · rw [hc]
        repeat (first | refine RL.vv ?_ | refine RL.p ?_ | refine RL.nil ?_ | refine Sim.seq ?_ | refine Sim.region ?_ | refine Sim.block ?_ | refine Sim.skip ?_ | refine Sim.inBlock ?_ | refine Sim.exit rfl ?_ | refine Sim.condT rfl ?_ | refine Sim.condF rfl ?_)
        refine next4 ([], blankM s i3, p3, .slice none 0 0, 0, 0) w9 _ ⟨hbt, hb, hb6, SliceOf.nil _ _ _, ho, .inl ⟨rfl, rfl, ?_⟩⟩ sb
        rw [hn]
        unfold tailM
        rw [if_neg (by rw [hc]; exact Bool.false_ne_true)]
    · repeat (first | refine RL.vv ?_ | refine RL.p ?_ | refine RL.nil ?_ | refine Sim.seq ?_ | refine Sim.region ?_ | refine Sim.block ?_ | refine Sim.skip ?_ | refine Sim.inBlock ?_ | refine Sim.exit rfl ?_ | refine Sim.condT rfl ?_ | refine Sim.condF rfl ?_)
      refine RL.cs (won_f _ w8 hb he) ?_
      repeat (first | refine RL.vv ?_ | refine RL.p ?_ | refine RL.nil ?_ | refine Sim.seq ?_ | refine Sim.region ?_ | refine Sim.block ?_ | refine Sim.skip ?_ | refine Sim.inBlock ?_ | refine Sim.exit rfl ?_ | refine Sim.condT rfl ?_ | refine Sim.condF rfl ?_)
      exact next4 ([], i3, p3, .slice none 0 0, e3, j3) w8 _ ⟨hbt, hb, hb6, SliceOf.nil _ _ _, ho, .inr ⟨he, hn⟩⟩ sb
  clear hb hb6 ho hbt hg
  rintro ⟨l, i', p', lv, e4, j4⟩ w9 ⟨hbt, hb, hb6, hsl, ho, hg⟩
  simp only at hb hb6 hsl hg ⊢
  obtain ⟨la, lc, rfl, _⟩ := id hsl
  have ha6 := hb6.at
  repeat (first | refine RL.vv ?_ | refine RL.p ?_ | refine RL.nil ?_ | refine Sim.seq ?_ | refine Sim.region ?_ | refine Sim.block ?_ | refine Sim.skip ?_ | refine Sim.inBlock ?_ | refine Sim.exit rfl ?_ | refine Sim.condT rfl ?_ | refine Sim.condF rfl ?_)
  refine RL.bu (el := 93) [.string al, .string fd, .slice la l.length lc] (.refl w9) fun bx w10 hex _ hu10 _ hbx => ?_
  have hsz := hbt.size
  have hbt := hbt.trans (But.of_up hu10)
  have hlo := ho.lt
  have hel : (pckLay (d + 1)).is (fun y => w.heap.size ≤ y ∧ some y ≠ Value.ownBlock (.slice va out.length vc)) w10 [.string al, .string fd, .slice la l.length lc] (.mk al fd l) := by
    have h1 := (hsl.up hu10).mono (S' := fun y => w.heap.size ≤ y ∧ some y ≠ Value.ownBlock (.slice va out.length vc)) fun y hy => ⟨hy.1, hy.2.2⟩
    obtain ⟨a', c', e', q1, q2, q3⟩ := h1
    cases e'
    exact ⟨_, _, rfl, q1, q2, q3⟩
  have ho : Own (pckLay (d + 1)) 93 w.heap.size (fun x => w.heap.size ≤ x) w10 (.slice va out.length vc) out := (ho.up hu10).shift fun x hx _ _ => hx.1
  refine RL.appB (L := pckLay (d + 1)) (el := 93) (S := fun x => w.heap.size ≤ x) (ys := [.mk al fd l]) hbt ho (SliceOf.one hbx ⟨by omega, fun e => by have := (hlo bx e.symm).2; omega⟩ hel) (by simp only [List.length_cons, List.length_nil]; omega) (Nat.le_refl _) hbt.size fun v' w11 hbt11 ho hg2 hv => ?_
  have hb := (hb.up hu10).grown hg2 (fun e => hnb b e.symm rfl)
  repeat (first | refine RL.vv ?_ | refine RL.p ?_ | refine RL.nil ?_ | refine Sim.seq ?_ | refine Sim.region ?_ | refine Sim.block ?_ | refine Sim.skip ?_ | refine Sim.inBlock ?_ | refine Sim.exit rfl ?_ | refine Sim.condT rfl ?_ | refine Sim.condF rfl ?_)
  refine next (n, out ++ [.mk al fd l], i', p', v', e4, j4) w11 _ ⟨hbt11, hb, ho, ?_⟩ ?_ sb
  · rcases hg with ⟨rfl, rfl, hpk⟩ | ⟨he, hpk⟩
    · obtain ⟨_, _, _, _, hq2, hq3, _, hq5⟩ := pickM_ok hok hi hp hpk
      rw [hpk] at hR
      exact .inl ⟨rfl, rfl, hq5, hq3, by simp only [List.length_append, List.length_cons, List.length_nil]; omega, by simp only; omega, hR⟩
    · rw [hpk] at hR
      exact .inr ⟨he, hR.symm⟩
  · rcases hg with ⟨rfl, rfl, hpk⟩ | ⟨he, hpk⟩
    · obtain ⟨_, _, _, _, hq2, hq3, _, hq5⟩ := pickM_ok hok hi hp hpk
      simp only [if_pos]
      omega
    · simp only [if_pos, if_neg he]
      omega
theorem wlist_any : ∀ d, d ≤ 9 → WListR d
  | 0, _ => wlist_zero
  | d + 1, h => wlist_step (by omega) (wlist_any d (by omega))
end Go.Proofs.Ytgckpmcdlciibaa
