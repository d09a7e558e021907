/- The walk of TopChain. -/
import Derived.Test.YtgckpmcdlciibabZ5
import Derived.Test.YtgckpmcdlciibabYEngU
namespace Go.Proofs.Ytgckpmcdlciibab
open Go.RowKit
theorem text_eq2 (g : Gt) : gText g = g.text := by cases g; rfl
theorem subs_eq2 (g : Gt) : gSubs g = g.subs := by cases g; rfl
theorem gt_at2 {l : List Gt} {i : Nat} (h : i < l.length) : l[i]? = some (gtAt l i) := by
  unfold gtAt
  rw [List.getD, List.getElem?_eq_getElem h]
  rfl
theorem sM_size (k : Nat) : ∀ d, (sM k d).size = 14 + 11 * d
  | 0 => by
    unfold sM
    rw [ByteArray.size_append, ByteArray.size_append]
    show 5 + 3 + 6 = _
    rfl
  | d + 1 => by
    unfold sM
    rw [ByteArray.size_append, sM_size k d]
    show 14 + 11 * d + 11 = _
    omega
theorem eM_size : ∀ d, (eM d).size = 1 + d
  | 0 => rfl
  | d + 1 => by
    unfold eM
    rw [ByteArray.size_append, eM_size d]
    show 1 + d + 1 = _
    omega
theorem chain_ok {n d : Nat} (hn : 0 < n) (h30 : n ≤ 30) (hd : d < 8) : chainOk n d = true := by
  have h1 := List.all_eq_true.1 chain_all (n - 1) (List.mem_range.2 (by omega))
  have h2 := List.all_eq_true.1 h1 d (List.mem_range.2 hd)
  rwa [Nat.sub_add_cancel hn] at h2
set_option maxHeartbeats 4000000 in
theorem TopChain_walk (n0 d0 : Int) (w : World) :
    Calls Try.prog 3 #[.int .i64 n0, .int .i64 d0] w fun en w' => en = .returned (.bool true) ∧ Up w w' := by
  refine calls_of_sim Try.func3 rfl (Nat.le_of_ble_eq_true rfl) ?_
  repeat (first | refine RL.vv ?_ | refine RL.p ?_ | refine RL.nil ?_ | refine Sim.seq ?_ | refine Sim.region ?_ | refine Sim.block ?_ | refine Sim.skip ?_ | refine Sim.inBlock ?_ | refine Sim.exit rfl ?_ | refine Sim.condT rfl ?_ | refine Sim.condF rfl ?_)
  refine RL.cu (.refl w) (aliveT_any w) fun w1 hu1 _ => ?_
  by_cases c1 : n0 < 1
  · repeat (first | refine RL.vv ?_ | refine RL.p ?_ | refine RL.nil ?_ | refine Sim.seq ?_ | refine Sim.region ?_ | refine Sim.block ?_ | refine Sim.skip ?_ | refine Sim.inBlock ?_ | refine Sim.exit rfl ?_ | refine Sim.condT rfl ?_ | refine Sim.condF rfl ?_)
    exact Sim.ret1 Try.func3 rfl rfl ⟨rfl, hu1⟩
  by_cases c2 : (30 : Int) < n0
  · repeat (first | refine RL.vv ?_ | refine RL.p ?_ | refine RL.nil ?_ | refine Sim.seq ?_ | refine Sim.region ?_ | refine Sim.block ?_ | refine Sim.skip ?_ | refine Sim.inBlock ?_ | refine Sim.exit rfl ?_ | refine Sim.condT rfl ?_ | refine Sim.condF rfl ?_)
    exact Sim.ret1 Try.func3 rfl rfl ⟨rfl, hu1⟩
  by_cases c3 : d0 < 0
  · repeat (first | refine RL.vv ?_ | refine RL.p ?_ | refine RL.nil ?_ | refine Sim.seq ?_ | refine Sim.region ?_ | refine Sim.block ?_ | refine Sim.skip ?_ | refine Sim.inBlock ?_ | refine Sim.exit rfl ?_ | refine Sim.condT rfl ?_ | refine Sim.condF rfl ?_)
    exact Sim.ret1 Try.func3 rfl rfl ⟨rfl, hu1⟩
  by_cases c4 : 8 ≤ d0
  · repeat (first | refine RL.vv ?_ | refine RL.p ?_ | refine RL.nil ?_ | refine Sim.seq ?_ | refine Sim.region ?_ | refine Sim.block ?_ | refine Sim.skip ?_ | refine Sim.inBlock ?_ | refine Sim.exit rfl ?_ | refine Sim.condT rfl ?_ | refine Sim.condF rfl ?_)
    exact Sim.ret1 Try.func3 rfl rfl ⟨rfl, hu1⟩
  obtain ⟨n, rfl⟩ := Int.eq_ofNat_of_zero_le (show 0 ≤ n0 by omega)
  obtain ⟨d, rfl⟩ := Int.eq_ofNat_of_zero_le (show 0 ≤ d0 by omega)
  have hd8 : d < 8 := by omega
  repeat (first | refine RL.vv ?_ | refine RL.p ?_ | refine RL.nil ?_ | refine Sim.seq ?_ | refine Sim.region ?_ | refine Sim.block ?_ | refine Sim.skip ?_ | refine Sim.inBlock ?_ | refine Sim.exit rfl ?_ | refine Sim.condT rfl ?_ | refine Sim.condF rfl ?_)
  refine RL.cu hu1 (key_any 0 (by decide) w1) fun w2 hu2 _ => ?_
  refine RL.vv ?_ (hy := y_cat rfl rfl (by show 5 + 3 ≤ _; decide))
  refine RL.vv ?_ (hy := y_cat rfl rfl (by show 8 + 6 ≤ _; decide))
  repeat (first | refine RL.vv ?_ | refine RL.p ?_ | refine RL.nil ?_ | refine Sim.seq ?_ | refine Sim.region ?_ | refine Sim.block ?_ | refine Sim.skip ?_ | refine Sim.inBlock ?_ | refine Sim.exit rfl ?_ | refine Sim.condT rfl ?_ | refine Sim.condF rfl ?_)
  refine Sim.loop (σ := Nat) (fun j => [(0, .int .i64 (n : Int)), (1, .int .i64 (d : Int)), (5, .string (sM 0 j)), (6, .string (eM j)), (30, .int .i64 (d : Int)), (31, .int .i64 (j : Int))]) (fun j w' => j ≤ d ∧ w' = w2) (fun j => d - j) 0 sb ⟨Nat.zero_le _, rfl⟩ ?_
  rintro j w3 ⟨hj, rfl⟩ next
  by_cases hlt : (j : Int) < (d : Int)
  · repeat (first | refine RL.vv ?_ | refine RL.p ?_ | refine RL.nil ?_ | refine Sim.seq ?_ | refine Sim.region ?_ | refine Sim.block ?_ | refine Sim.skip ?_ | refine Sim.inBlock ?_ | refine Sim.exit rfl ?_ | refine Sim.condT rfl ?_ | refine Sim.condF rfl ?_)
    refine RL.vv ?_ (hy := y_cat rfl rfl (by rw [sM_size]; show 14 + 11 * j + 11 ≤ _; omega))
    refine RL.vv ?_
    refine RL.vv ?_ (hy := y_cat rfl rfl (by rw [eM_size]; show 1 + j + 1 ≤ _; omega))
    repeat (first | refine RL.vv ?_ | refine RL.p ?_ | refine RL.nil ?_ | refine Sim.seq ?_ | refine Sim.region ?_ | refine Sim.block ?_ | refine Sim.skip ?_ | refine Sim.inBlock ?_ | refine Sim.exit rfl ?_ | refine Sim.condT rfl ?_ | refine Sim.condF rfl ?_)
    exact next (j + 1) _ _ ⟨by omega, rfl⟩ (by omega) sb
  obtain rfl : j = d := by omega
  clear next
  repeat (first | refine RL.vv ?_ | refine RL.p ?_ | refine RL.nil ?_ | refine Sim.seq ?_ | refine Sim.region ?_ | refine Sim.block ?_ | refine Sim.skip ?_ | refine Sim.inBlock ?_ | refine Sim.exit rfl ?_ | refine Sim.condT rfl ?_ | refine Sim.condF rfl ?_)
  refine RL.cx (people_any n (by omega) w3) ?_
  rintro _ w4 ⟨bl, x1, x2, x3, x4, x5, rfl, h34, hp⟩
  refine ⟨_, rfl, ?_⟩
  refine RL.vv ?_
  refine RL.vv ?_
  refine RL.vv ?_ (hy := y_cat rfl rfl (by rw [sM_size, eM_size]; omega))
  refine RL.cx (run_top (l := peopleM n) (sM 0 j ++ eM j) w4 hp.sl (ok_people (by omega))) ?_
  rintro _ w5 ⟨gv, rv, rfl, h45, hs, hr⟩
  refine ⟨_, rfl, ?_⟩
  have hu5 := (hu2.trans h34).trans h45
  have e1 : topM (peopleM n) (sM 0 j ++ eM j) = runM 9 (peopleM n) (chainA 0 j) := by
    unfold topM
    rw [parse_chain (by decide) hd8, if_pos rfl]
  have hh := chain_ok (n := n) (by omega) (by omega) hd8
  rw [e1] at hs hr ⊢
  unfold chainOk at hh
  generalize runM 9 (peopleM n) (chainA 0 j) = R at *
  simp only [Bool.and_eq_true, decide_eq_true_eq] at hh
  obtain ⟨h0, hck⟩ := hh
  have h0' : ¬ ¬ R.2.2 = 0 := fun h => h h0
  obtain ⟨ra, rc, rfl, hrc, hrm, _⟩ := id hr
  unfold maxLen at hrm
  have hs := hs.mono (S' := fun _ => True) fun _ _ => trivial
  have hga : ∃ ga gn gc, gv = .slice ga gn gc := by obtain ⟨ga, gc, rfl, _⟩ := id hs; exact ⟨_, _, _, rfl⟩
  clear e1 hp h34 h45 hr
  repeat (first | refine RL.vv ?_ | refine RL.p ?_ | refine RL.nil ?_ | refine Sim.seq ?_ | refine Sim.region ?_ | refine Sim.block ?_ | refine Sim.skip ?_ | refine Sim.inBlock ?_ | refine Sim.exit rfl ?_ | refine Sim.condT rfl ?_ | refine Sim.condF rfl ?_)
  refine Sim.loop (σ := Nat × Value × List Gt × Nat) (fun st => [(0, .int .i64 (n : Int)), (1, .int .i64 (j : Int)), (7, st.2.1), (8, .slice ra R.2.1.length rc), (50, .int .i64 (j : Int)), (51, .int .i64 (st.1 : Int))])
    (fun st w' => st.1 ≤ j ∧ Up w w' ∧ SliceOf (gtLay st.2.2.2) (fun _ => True) w' st.2.1 st.2.2.1 ∧ chkChain n R.2.1.length st.1 (j - st.1) st.2.2.1 = true) (fun st => j - st.1) (0, gv, R.1, 10) sb ⟨Nat.zero_le _, hu5, hs, hck⟩ ?_
  clear hs hck hga hu5
  rintro ⟨i, gv, g, m⟩ w6 ⟨hi, hu, hs, hck⟩ next
  simp only at hi hs hck next ⊢
  obtain ⟨ga, gc, rfl, _⟩ := id hs
  by_cases hlt : (i : Int) < (j : Int)
  · obtain ⟨e, he⟩ : ∃ e, j - i = e + 1 := ⟨j - i - 1, by omega⟩
    rw [he] at hck
    unfold chkChain at hck
    simp only [Bool.and_eq_true, beq_iff_eq, decide_eq_true_eq, text_eq2, subs_eq2] at hck
    obtain ⟨⟨hl2, ht0⟩, hrest⟩ := hck
    cases m with
    | zero =>
      obtain ⟨_, _, _, _, _, _, hgi, _⟩ := hs.at (gt_at2 (l := g) (i := 0) (by omega))
      exact hgi.elim
    | succ m =>
    obtain ⟨gb, go, cs, rfl, _, hgat, hgi, _⟩ := hs.at (gt_at2 (l := g) (i := 0) (by omega))
    obtain ⟨v1, v2, rfl, _, _⟩ := gt_succ.1 hgi
    obtain ⟨gb', go', cs, e1, _, hgat2, hgi2, _⟩ := hs.at (gt_at2 (l := g) (i := 1) (by omega))
    cases e1
    obtain ⟨v3, v4, rfl, _, hv4⟩ := gt_succ.1 hgi2
    obtain ⟨a4, c4, rfl, _⟩ := id hv4
    have hgat : At w6 gb (go + 0 * 6) _ := hgat
    have hgat2 : At w6 gb (go + 1 * 6) _ := hgat2
    rw [ht0] at hgat
    have k0 : nkeyM i = (⟨#[78]⟩ : Str) ++ keyM i := rfl
    have k1 : ¬ ¬ (g.length : Int) = 2 := by omega
    have k5 : 1 < g.length := by omega
    have k6 : 0 < g.length := by omega
    repeat (first | refine RL.vv ?_ | refine RL.p ?_ | refine RL.nil ?_ | refine Sim.seq ?_ | refine Sim.region ?_ | refine Sim.block ?_ | refine Sim.skip ?_ | refine Sim.inBlock ?_ | refine Sim.exit rfl ?_ | refine Sim.condT rfl ?_ | refine Sim.condF rfl ?_)
    refine Sim.q ?_
    repeat (first | refine RQ.vv ?_ | refine RQ.p ?_)
    refine RQ.cu (fun wq hq => (key_any i (by omega) wq).mono fun _ _ ⟨h1, h2⟩ => ⟨h1, hq.trans h2⟩) ?_
    refine RQ.vv ?_ (hy := fun wq hq => y_cat rfl rfl (by show 1 + 3 ≤ _; decide))
    repeat (first | refine RQ.vv ?_ | refine RQ.p ?_)
    refine RQ.nil fun w7 hq => ?_
    have hgat2 := hgat2.up hq
    have hv4 := hv4.up hq
    have hu := hu.trans hq
    clear hgat hgi hgi2 hs
    by_cases hlast : (n : Int) ≤ ((i + 1 : Nat) : Int)
    · rw [if_pos (by omega)] at hrest
      simp only [Bool.and_eq_true, beq_iff_eq] at hrest
      have k8 : (((gtAt g 1).subs.length : Nat) : Int) = 0 := by omega
      have k9 : (R.2.1.length : Int) = ((2 * (i + 1) : Nat) : Int) := by omega
      repeat (first | refine RL.vv ?_ | refine RL.p ?_ | refine RL.nil ?_ | refine Sim.seq ?_ | refine Sim.region ?_ | refine Sim.block ?_ | refine Sim.skip ?_ | refine Sim.inBlock ?_ | refine Sim.exit rfl ?_ | refine Sim.condT rfl ?_ | refine Sim.condF rfl ?_)
      refine RL.vv ?_ (hy := y_mulU (d := ((2 * (i + 1) : Nat) : Int)) rfl rfl (by omega) (by omega) (by omega))
      repeat (first | refine RL.vv ?_ | refine RL.p ?_ | refine RL.nil ?_ | refine Sim.seq ?_ | refine Sim.region ?_ | refine Sim.block ?_ | refine Sim.skip ?_ | refine Sim.inBlock ?_ | refine Sim.exit rfl ?_ | refine Sim.condT rfl ?_ | refine Sim.condF rfl ?_)
      exact Sim.ret1 Try.func3 rfl rfl ⟨rfl, hu⟩
    · rw [if_neg (by omega)] at hrest
      simp only [Bool.and_eq_true, beq_iff_eq] at hrest
      have k8 : ¬ ¬ (((gtAt g 1).subs.length : Nat) : Int) = 1 := by omega
      have k9 : 0 < (gtAt g 1).subs.length := by omega
      obtain ⟨sb4, so4, cs, rfl, _, hsat, ⟨u, rfl, hu4⟩, _⟩ := hv4.at (List.getElem?_eq_getElem k9)
      have hsat : At w7 sb4 (so4 + 0 * 1) _ := hsat
      have hgd : (gtAt g 1).subs.getD 0 [] = (gtAt g 1).subs[0] := by rw [List.getD, List.getElem?_eq_getElem k9]; rfl
      rw [hgd] at hrest
      repeat (first | refine RL.vv ?_ | refine RL.p ?_ | refine RL.nil ?_ | refine Sim.seq ?_ | refine Sim.region ?_ | refine Sim.block ?_ | refine Sim.skip ?_ | refine Sim.inBlock ?_ | refine Sim.exit rfl ?_ | refine Sim.condT rfl ?_ | refine Sim.condF rfl ?_)
      exact next (i + 1, u, (gtAt g 1).subs[0], m) w7 _ ⟨by simp only; omega, hu, hu4, by simp only; rw [show j - (i + 1) = e by omega]; exact hrest.2⟩ (by simp only; omega) sb
  obtain rfl : i = j := by omega
  rw [Nat.sub_self] at hck
  unfold chkChain at hck
  simp only [Bool.and_eq_true, beq_iff_eq, decide_eq_true_eq, text_eq2] at hck
  obtain ⟨⟨hl1, ht0⟩, hq2⟩ := hck
  cases m with
  | zero =>
    obtain ⟨_, _, _, _, _, _, hgi, _⟩ := hs.at (gt_at2 (l := g) (i := 0) (by omega))
    exact hgi.elim
  | succ m =>
  obtain ⟨gb, go, cs, rfl, _, hgat, hgi, _⟩ := hs.at (gt_at2 (l := g) (i := 0) (by omega))
  obtain ⟨v1, v2, rfl, _, _⟩ := gt_succ.1 hgi
  have hgat : At w6 gb (go + 0 * 6) _ := hgat
  rw [ht0] at hgat
  have k0 : nkeyM i = (⟨#[78]⟩ : Str) ++ keyM i := rfl
  have k1 : (g.length : Int) = 1 := by omega
  have k6 : 0 < g.length := by omega
  have k9 : (R.2.1.length : Int) = ((2 * (i + 1) : Nat) : Int) := by omega
  repeat (first | refine RL.vv ?_ | refine RL.p ?_ | refine RL.nil ?_ | refine Sim.seq ?_ | refine Sim.region ?_ | refine Sim.block ?_ | refine Sim.skip ?_ | refine Sim.inBlock ?_ | refine Sim.exit rfl ?_ | refine Sim.condT rfl ?_ | refine Sim.condF rfl ?_)
  refine Sim.q ?_
  repeat (first | refine RQ.vv ?_ | refine RQ.p ?_)
  refine RQ.cu (fun wq hq => (key_any i (by omega) wq).mono fun _ _ ⟨h1, h2⟩ => ⟨h1, hq.trans h2⟩) ?_
  refine RQ.vv ?_ (hy := fun wq hq => y_cat rfl rfl (by show 1 + 3 ≤ _; decide))
  repeat (first | refine RQ.vv ?_ | refine RQ.p ?_)
  refine RQ.vv ?_ (hy := fun wq hq => y_mulU (d := ((2 * (i + 1) : Nat) : Int)) rfl rfl (by omega) (by omega) (by omega))
  repeat (first | refine RQ.vv ?_ | refine RQ.p ?_)
  refine RQ.nil fun w7 hq => ?_
  repeat (first | refine RL.vv ?_ | refine RL.p ?_ | refine RL.nil ?_ | refine Sim.seq ?_ | refine Sim.region ?_ | refine Sim.block ?_ | refine Sim.skip ?_ | refine Sim.inBlock ?_ | refine Sim.exit rfl ?_ | refine Sim.condT rfl ?_ | refine Sim.condF rfl ?_)
  exact Sim.ret1 Try.func3 rfl rfl ⟨rfl, hu.trans hq⟩
end Go.Proofs.Ytgckpmcdlciibab
