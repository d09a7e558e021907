/- The walk of GateFew. -/
import Derived.Test.YtgckpmcdlciibacYL31
namespace Go.Proofs.Ytgckpmcdlciibac
open Go.RowKit
def ListsC (m : Nat) : Prop := ∀ {S : Nat → Prop} {v : Value} {ps : List Pck} (w : World), SliceOf (pckLay m) S w v ps → listsL ps ≤ 60 → Calls Try.prog 23 #[v] w fun en w' => en = .returned (.int .i64 ((1 + listsL ps : Nat) : Int)) ∧ Up w w'
theorem listsL_app : ∀ xs ys : List Pck, listsL (xs ++ ys) = listsL xs + listsL ys
  | [], ys => by simp [listsL]
  | x :: xs, ys => by simp only [List.cons_append, listsL, listsL_app xs ys]; omega
theorem Lists_gen {m : Nat} (H : ∀ n, m = n + 1 → ListsC n) : ListsC m := by
  intro S v ps w hps h60
  refine calls_of_sim Try.func23 rfl (Nat.le_of_ble_eq_true rfl) ?_
  obtain ⟨ka, kc, rfl, hnc, hcm, _⟩ := id hps
  unfold maxLen at hcm
  repeat (first | refine RL.vv ?_ | refine RL.p ?_ | refine RL.nil ?_ | refine Sim.seq ?_ | refine Sim.region ?_ | refine Sim.block ?_ | refine Sim.skip ?_ | refine Sim.inBlock ?_ | refine Sim.exit rfl ?_ | refine Sim.condT rfl ?_ | refine Sim.condF rfl ?_)
  refine Sim.loop (σ := Nat) (fun i => [(0, .slice ka ps.length kc), (6, .slice ka ps.length kc), (7, .int .i64 (ps.length : Int)), (8, .int .i64 (i : Int)), (3, .int .i64 ((1 + listsL (ps.take i) : Nat) : Int))]) (fun i w' => i ≤ ps.length ∧ Up w w') (fun i => ps.length - i) 0 sb ⟨Nat.zero_le _, .refl _⟩ ?_
  rintro i w1 ⟨hi, hu⟩ next
  by_cases hlt : i < ps.length
  rotate_left
  · have : i = ps.length := by omega
    subst this
    rw [List.take_length]
    repeat (first | refine RL.vv ?_ | refine RL.p ?_ | refine RL.nil ?_ | refine Sim.seq ?_ | refine Sim.region ?_ | refine Sim.block ?_ | refine Sim.skip ?_ | refine Sim.inBlock ?_ | refine Sim.exit rfl ?_ | refine Sim.condT rfl ?_ | refine Sim.condF rfl ?_)
    exact Sim.ret1 Try.func23 rfl rfl ⟨rfl, hu⟩
  have hx : ps[i]? = some ps[i] := List.getElem?_eq_getElem hlt
  cases m with
  | zero => exact absurd hlt (by have := pck_zero hps; omega)
  | succ m =>
  obtain ⟨kb, ko, cs, rfl, _, hkat, hkis, _⟩ := (hps.up hu).at hx
  have hkat : At w1 kb (ko + i * 3) _ := hkat
  have htk : listsL (ps.take (i + 1)) = listsL (ps.take i) + listsP ps[i] := by
    rw [List.take_succ_eq_append_getElem hlt, listsL_app]
    simp [listsL]
  have hle : listsL (ps.take (i + 1)) ≤ listsL ps := by
    conv => rhs; rw [← List.take_append_drop (i + 1) ps, listsL_app]
    omega
  generalize ps[i] = p at *
  obtain ⟨qv, rfl, hqv⟩ := pckLay_succ hkis
  obtain ⟨qa, qc, rfl, _⟩ := id hqv
  obtain ⟨pa, pf, pp⟩ := p
  have hpk : (Pck.mk pa pf pp).picks = pp := rfl
  rw [hpk] at hqv hkat
  have hP : listsP (.mk pa pf pp) = if pp.length = 0 then 0 else 1 + listsL pp := rfl
  repeat (first | refine RL.vv ?_ | refine RL.p ?_ | refine RL.nil ?_ | refine Sim.seq ?_ | refine Sim.region ?_ | refine Sim.block ?_ | refine Sim.skip ?_ | refine Sim.inBlock ?_ | refine Sim.exit rfl ?_ | refine Sim.condT rfl ?_ | refine Sim.condF rfl ?_)
  refine RL.al hu fun b5 w2 he5 hle5 hu2 h12 hb5 => ?_
  repeat (first | refine RL.vv ?_ | refine RL.p ?_ | refine RL.nil ?_ | refine Sim.seq ?_ | refine Sim.region ?_ | refine Sim.block ?_ | refine Sim.skip ?_ | refine Sim.inBlock ?_ | refine Sim.exit rfl ?_ | refine Sim.condT rfl ?_ | refine Sim.condF rfl ?_)
  refine RL.st hu2 hb5 hle5 fun w3 hu3 hbt hb5 => ?_
  have hb5 : Box w3 b5 _ [.string (Pck.mk pa pf pp).as, .string (Pck.mk pa pf pp).field, .slice qa pp.length qc] := hb5
  have h13 : Up w1 w3 := Up.but h12 hbt (Nat.le_of_eq he5.symm)
  have ha5 := hb5.at
  clear hkat
  by_cases h0 : pp.length = 0
  · have h0' : ¬ (0 : Int) < (pp.length : Int) := by omega
    rw [hP, if_pos h0, Nat.add_zero] at htk
    repeat (first | refine RL.vv ?_ | refine RL.p ?_ | refine RL.nil ?_ | refine Sim.seq ?_ | refine Sim.region ?_ | refine Sim.block ?_ | refine Sim.skip ?_ | refine Sim.inBlock ?_ | refine Sim.exit rfl ?_ | refine Sim.condT rfl ?_ | refine Sim.condF rfl ?_)
    exact next (i + 1) _ _ ⟨by omega, hu3⟩ (by omega) (by rw [htk]; exact sb)
  · have h0' : (0 : Int) < (pp.length : Int) := by omega
    rw [hP, if_neg h0] at htk
    repeat (first | refine RL.vv ?_ | refine RL.p ?_ | refine RL.nil ?_ | refine Sim.seq ?_ | refine Sim.region ?_ | refine Sim.block ?_ | refine Sim.skip ?_ | refine Sim.inBlock ?_ | refine Sim.exit rfl ?_ | refine Sim.condT rfl ?_ | refine Sim.condF rfl ?_)
    refine RL.cu hu3 (H m rfl w3 (hqv.up h13) (by omega)) fun w4 hu4 h34 => ?_
    refine RL.vv ?_ (hy := y_add (d := ((1 + listsL (ps.take (i + 1)) : Nat) : Int)) rfl rfl (by rw [htk]; omega) (by omega) (by omega))
    repeat (first | refine RL.vv ?_ | refine RL.p ?_ | refine RL.nil ?_ | refine Sim.seq ?_ | refine Sim.region ?_ | refine Sim.block ?_ | refine Sim.skip ?_ | refine Sim.inBlock ?_ | refine Sim.exit rfl ?_ | refine Sim.condT rfl ?_ | refine Sim.condF rfl ?_)
    exact next (i + 1) _ _ ⟨by omega, hu4⟩ (by omega) sb
theorem Lists_any : ∀ m, ListsC m
  | 0 => Lists_gen fun n h => by cases h
  | m + 1 => Lists_gen fun n h => by cases h; exact Lists_any m
theorem run_few {m : Nat} {l : List Svc} {a : Ak} (hl : lvl m a.picks) (h : (runM m l a).2.2 = 0) : (runM m l a).2.1.length ≤ (1 + listsL a.picks) * l.length ∧ 1 ≤ (runM m l a).2.1.length ∧ listsL a.picks ≤ 60 ∧ l.length ≤ 5 := by
  unfold runM at h ⊢
  by_cases h0 : (meanM m l a).2 = 0
  · rw [if_pos h0] at h ⊢
    obtain ⟨h1, hc, _⟩ := meanM_zero.1 h0
    obtain ⟨_, _, h3, h4⟩ := checkM_zero.1 hc
    have h2 := lists_count m a.picks 1 0 hl h3
    have h5 := (shapeM_le m a.picks 1 0 (by decide) h3).1
    have h6 := (wrongS_iff.1 (allM_canon h1).2.1).1
    cases hp : partM (allM l).1 a.type with
    | none => rw [hp] at h; simp at h
    | some p =>
      obtain ⟨hp1, hp2⟩ := partM_in hp
      have h7 := asksM_few h1 hp1 (keys := [a.key]) hl (by rw [hp2]; exact h4)
      exact ⟨h7.1, h7.2, by omega, by omega⟩
  · rw [if_neg h0] at h
    exact absurd h h0
section
variable {P : Program} {e : Env} {w : World} {t u ty : TypeId} {x y : Operand} {a b : Int}
theorem y_mul {d : Int} (hx : e.ev x = some (.int .i64 a)) (hy : e.ev y = some (.int .i64 b)) (hd : a * b = d) (h1 : -9223372036854775808 ≤ d) (h2 : d ≤ 9223372036854775807) : Yld P (.binOp .mul t x y u) ty e w (.int .i64 d) :=
  y_arith .mul _ d hx hy rfl hd (wrap_i64 h1 h2) (by simp)
end
set_option maxHeartbeats 2000000 in
theorem GateFew_walk {m : Nat} {S S3 : Nat → Prop} {lv kv : Value} {l : List Svc} (q : Ak) (w : World) (hl : SliceOf svcLay S w lv l) (hok : ∀ s ∈ l, okSvc s) (hps : SliceOf (pckLay (m + 1)) S3 w kv q.picks) :
    Calls Try.prog 6 #[lv, .agg #[.string q.type, .string q.key, kv]] w fun en w' => en = .returned (.bool true) ∧ Up w w' := by
  refine calls_of_sim Try.func6 rfl (Nat.le_of_ble_eq_true rfl) ?_
  have hlv := lay_lvl hps
  obtain ⟨la, lc, rfl, _⟩ := id hl
  obtain ⟨ka, kc, rfl, _⟩ := id hps
  repeat (first | refine RL.vv ?_ | refine RL.p ?_ | refine RL.nil ?_ | refine Sim.seq ?_ | refine Sim.region ?_ | refine Sim.block ?_ | refine Sim.skip ?_ | refine Sim.inBlock ?_ | refine Sim.exit rfl ?_ | refine Sim.condT rfl ?_ | refine Sim.condF rfl ?_)
  refine RL.bx (.refl w) fun b3 w1 he3 hle3 hu1 _ hb3 => ?_
  have hb3 : Box w1 b3 _ [.string q.type, .string q.key, .slice ka q.picks.length kc] := hb3
  repeat (first | refine RL.vv ?_ | refine RL.p ?_ | refine RL.nil ?_ | refine Sim.seq ?_ | refine Sim.region ?_ | refine Sim.block ?_ | refine Sim.skip ?_ | refine Sim.inBlock ?_ | refine Sim.exit rfl ?_ | refine Sim.condT rfl ?_ | refine Sim.condF rfl ?_)
  refine RL.cu hu1 (alive7_any w1) fun w2 hu h12 => ?_
  have hb3 := hb3.up h12
  have ha3 := hb3.at
  clear h12 hu1
  repeat (first | refine RL.vv ?_ | refine RL.p ?_ | refine RL.nil ?_ | refine Sim.seq ?_ | refine Sim.region ?_ | refine Sim.block ?_ | refine Sim.skip ?_ | refine Sim.inBlock ?_ | refine Sim.exit rfl ?_ | refine Sim.condT rfl ?_ | refine Sim.condF rfl ?_)
  refine RL.cx (Run_any q w2 (hl.up hu) hok (hps.up hu)) ?_
  rintro _ w3 ⟨v, rv, rfl, h23, hs, hr⟩
  refine ⟨_, rfl, ?_⟩
  have hu3 := hu.trans h23
  obtain ⟨va, vc, rfl, _⟩ := id hs
  obtain ⟨ra, rc, rfl, hrnc, hrcm, _⟩ := id hr
  unfold maxLen at hrcm
  have hfew := run_few hlv (l := l)
  generalize runM (m + 1) l q = R at *
  have ha3 := ha3.up h23
  clear hs hb3
  by_cases h0 : R.2.2 = 0
  rotate_left
  · repeat (first | refine RL.vv ?_ | refine RL.p ?_ | refine RL.nil ?_ | refine Sim.seq ?_ | refine Sim.region ?_ | refine Sim.block ?_ | refine Sim.skip ?_ | refine Sim.inBlock ?_ | refine Sim.exit rfl ?_ | refine Sim.condT rfl ?_ | refine Sim.condF rfl ?_)
    exact Sim.ret1 Try.func6 rfl rfl ⟨rfl, hu3⟩
  obtain ⟨h1, h2, h60, h5⟩ := hfew h0
  repeat (first | refine RL.vv ?_ | refine RL.p ?_ | refine RL.nil ?_ | refine Sim.seq ?_ | refine Sim.region ?_ | refine Sim.block ?_ | refine Sim.skip ?_ | refine Sim.inBlock ?_ | refine Sim.exit rfl ?_ | refine Sim.condT rfl ?_ | refine Sim.condF rfl ?_)
  refine RL.cu hu3 (Lists_any (m + 1) w3 (hps.up hu3) h60) fun w4 hu4 h34 => ?_
  repeat (first | refine RL.vv ?_ | refine RL.p ?_ | refine RL.nil ?_ | refine Sim.seq ?_ | refine Sim.region ?_ | refine Sim.block ?_ | refine Sim.skip ?_ | refine Sim.inBlock ?_ | refine Sim.exit rfl ?_ | refine Sim.condT rfl ?_ | refine Sim.condF rfl ?_)
  have hm : ((1 + listsL q.picks : Nat) : Int) * (l.length : Int) = (((1 + listsL q.picks) * l.length : Nat) : Int) := by simp
  have hm2 : (1 + listsL q.picks) * l.length ≤ 61 * 5 := Nat.mul_le_mul (by omega) h5
  refine RL.vv ?_ (hy := y_mul (d := (((1 + listsL q.picks) * l.length : Nat) : Int)) rfl rfl hm (by omega) (by omega))
  have h1' : (R.2.1.length : Int) ≤ (((1 + listsL q.picks) * l.length : Nat) : Int) := by omega
  generalize (1 + listsL q.picks) * l.length = n at *
  repeat (first | refine RL.vv ?_ | refine RL.p ?_ | refine RL.nil ?_ | refine Sim.seq ?_ | refine Sim.region ?_ | refine Sim.block ?_ | refine Sim.skip ?_ | refine Sim.inBlock ?_ | refine Sim.exit rfl ?_ | refine Sim.condT rfl ?_ | refine Sim.condF rfl ?_)
  exact Sim.ret1 Try.func6 rfl rfl ⟨rfl, hu4⟩
end Go.Proofs.Ytgckpmcdlciibac
