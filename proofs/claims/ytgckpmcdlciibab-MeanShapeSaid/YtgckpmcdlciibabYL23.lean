/- The walk of MeanShape. -/
import Derived.Test.YtgckpmcdlciibabYL21
import Derived.Test.YtgckpmcdlciibabZX
namespace Go.Proofs.Ytgckpmcdlciibab
open Go.RowKit
def ShapeC (m : Nat) : Prop := ∀ {S S' : Nat → Prop} {gv kv : Value} {l : List Gt} {ps : List Pck} (w : World), SliceOf (gtLay (m + 1)) S w gv l → SliceOf (pckLay m) S' w kv ps → ShapeOk m l ps → Calls Try.prog 41 #[gv, kv] w fun en w' => en = .returned (.bool true) ∧ Up w w'
set_option maxHeartbeats 4000000 in
theorem shape_gen {m : Nat} (H : ∀ n, m = n + 1 → ShapeC n) : ShapeC m := by
  intro S S' gv kv l ps w hl hk hok
  refine calls_of_sim Try.func41 rfl (Nat.le_of_ble_eq_true rfl) ?_
  obtain ⟨ga, gc, rfl, hgnc, hgcm, _⟩ := id hl
  obtain ⟨ka, kc, rfl, hknc, hkcm, _⟩ := id hk
  unfold maxLen at hgcm hkcm
  have hlen : l.length = ps.length := by cases m with | zero => exact hok | succ m => exact hok.1
  have hlz : (l.length : Int) = (ps.length : Int) := by omega
  repeat (first | refine RL.vv ?_ | refine RL.p ?_ | refine RL.nil ?_ | refine Sim.seq ?_ | refine Sim.region ?_ | refine Sim.block ?_ | refine Sim.skip ?_ | refine Sim.inBlock ?_ | refine Sim.exit rfl ?_ | refine Sim.condT rfl ?_ | refine Sim.condF rfl ?_)
  refine Sim.loop (σ := Nat) (fun i => [(0, .slice ga l.length gc), (1, .slice ka ps.length kc), (14, .slice ga l.length gc), (15, .int .i64 (l.length : Int)), (16, .int .i64 (i : Int))]) (fun i w' => i ≤ l.length ∧ Up w w') (fun i => l.length - i) 0 sb ⟨Nat.zero_le _, .refl _⟩ ?_
  rintro i w1 ⟨hi, hu⟩ next0
  by_cases hlt : i < l.length
  rotate_left
  · repeat (first | refine RL.vv ?_ | refine RL.p ?_ | refine RL.nil ?_ | refine Sim.seq ?_ | refine Sim.region ?_ | refine Sim.block ?_ | refine Sim.skip ?_ | refine Sim.inBlock ?_ | refine Sim.exit rfl ?_ | refine Sim.condT rfl ?_ | refine Sim.condF rfl ?_)
    exact Sim.ret1 Try.func41 rfl rfl ⟨rfl, hu⟩
  have hx : l[i]? = some l[i] := List.getElem?_eq_getElem hlt
  have hy : ps[i]? = some (ps[i]'(by omega)) := List.getElem?_eq_getElem _
  cases m with
  | zero =>
    obtain ⟨_, _, _, _, _, _, h, _⟩ := hk.at hy
    exact h.elim
  | succ m =>
  have hgo := hok.2 i _ _ hx hy
  obtain ⟨gb, go, cs, rfl, _, hgat, hgi, _⟩ := (hl.up hu).at hx
  obtain ⟨kb, ko, cs', rfl, _, hkat, hki, hkl⟩ := (hk.up hu).at hy
  have hgat : At w1 gb (go + i * 6) _ := hgat
  have hkat : At w1 kb (ko + i * 3) _ := hkat
  generalize l[i] = g at *
  generalize (ps[i]'(by omega)) = p at *
  obtain ⟨v1, v2, rfl, hv1, hv2⟩ := gt_succ.1 hgi
  obtain ⟨pv, rfl, hpv⟩ := pckLay_succ hki
  obtain ⟨a1, c1, rfl, _⟩ := id hv1
  obtain ⟨a2, c2, rfl, hn2, hm2, _⟩ := id hv2
  obtain ⟨a3, c3, rfl, _⟩ := id hpv
  unfold maxLen at hm2
  obtain ⟨nm, k, nl, tx, xb, xs⟩ := g
  obtain ⟨hnm, hnull, hkind⟩ := (show _ ∧ _ ∧ _ from hgo)
  simp only [Gt.name, Gt.kind, Gt.null, Gt.text, Gt.sub, Gt.subs] at *
  repeat (first | refine RL.vv ?_ | refine RL.p ?_ | refine RL.nil ?_ | refine Sim.seq ?_ | refine Sim.region ?_ | refine Sim.block ?_ | refine Sim.skip ?_ | refine Sim.inBlock ?_ | refine Sim.exit rfl ?_ | refine Sim.condT rfl ?_ | refine Sim.condF rfl ?_)
  refine RL.al (.refl w1) fun b6 w2 _ hle6 h12 _ hb6 => ?_
  repeat (first | refine RL.vv ?_ | refine RL.p ?_ | refine RL.nil ?_ | refine Sim.seq ?_ | refine Sim.region ?_ | refine Sim.block ?_ | refine Sim.skip ?_ | refine Sim.inBlock ?_ | refine Sim.exit rfl ?_ | refine Sim.condT rfl ?_ | refine Sim.condF rfl ?_)
  refine RL.st h12 hb6 hle6 fun w3 h13 _ hb6 => ?_
  have hb6 : Box w3 b6 _ [.string nm, .int .i64 k, .bool nl, .string tx, .slice a1 xb.length c1, .slice a2 xs.length c2] := hb6
  have ha6 := hb6.at
  have hkat := hkat.up h13
  have hu3 := hu.trans h13
  have hv1 := hv1.up h13
  have hv2 := hv2.up h13
  have hpv := hpv.up h13
  clear h12 hb6 hgat h13
  repeat (first | refine RL.vv ?_ | refine RL.p ?_ | refine RL.nil ?_ | refine Sim.seq ?_ | refine Sim.region ?_ | refine Sim.block ?_ | refine Sim.skip ?_ | refine Sim.inBlock ?_ | refine Sim.exit rfl ?_ | refine Sim.condT rfl ?_ | refine Sim.condF rfl ?_)
  refine Sim.q ?_
  repeat (first | refine RQ.vv ?_ | refine RQ.p ?_)
  refine RQ.cu (fun wq hq => q_call (RCalled_any p _ wq) hq) ?_
  repeat (first | refine RQ.vv ?_ | refine RQ.p ?_)
  refine RQ.nil fun w4 h34 => ?_
  have ha6 := ha6.up h34
  have hkat := hkat.up h34
  have hu4 := hu3.trans h34
  have hv1 := hv1.up h34
  have hv2 := hv2.up h34
  have hpv := hpv.up h34
  clear h34 hu3
  cases nl with
  | true =>
    obtain ⟨rfl, rfl, rfl⟩ := hnull rfl
    have e0 : (⟨#[]⟩ : Str) = ⟨#[]⟩ := rfl
    repeat (first | refine RL.vv ?_ | refine RL.p ?_ | refine RL.nil ?_ | refine Sim.seq ?_ | refine Sim.region ?_ | refine Sim.block ?_ | refine Sim.skip ?_ | refine Sim.inBlock ?_ | refine Sim.exit rfl ?_ | refine Sim.condT rfl ?_ | refine Sim.condF rfl ?_)
    refine RL.vv ?_ (hy := y_add (d := 0) rfl rfl rfl (by omega) (by omega))
    rcases hkind with ⟨rfl, _, _, hpp⟩ | ⟨rfl, _⟩ | ⟨rfl, _⟩
    · have hp0 : (p.picks.length : Int) = 0 := by rw [hpp]; rfl
      repeat (first | refine RL.vv ?_ | refine RL.p ?_ | refine RL.nil ?_ | refine Sim.seq ?_ | refine Sim.region ?_ | refine Sim.block ?_ | refine Sim.skip ?_ | refine Sim.inBlock ?_ | refine Sim.exit rfl ?_ | refine Sim.condT rfl ?_ | refine Sim.condF rfl ?_)
      refine Sim.q ?_
      repeat (first | refine RQ.vv ?_ | refine RQ.p ?_)
      refine RQ.vv ?_ (hy := fun wq hq => y_add (d := 0) rfl rfl rfl (by omega) (by omega))
      repeat (first | refine RQ.vv ?_ | refine RQ.p ?_)
      refine RQ.vv ?_ (hy := fun wq hq => y_add (d := 0) rfl rfl (by rw [hp0]; rfl) (by omega) (by omega))
      repeat (first | refine RQ.vv ?_ | refine RQ.p ?_)
      refine RQ.nil fun w5 h45 => ?_
      have hu5 := hu4.trans h45
      clear ha6
      repeat (first | refine RL.vv ?_ | refine RL.p ?_ | refine RL.nil ?_ | refine Sim.seq ?_ | refine Sim.region ?_ | refine Sim.block ?_ | refine Sim.skip ?_ | refine Sim.inBlock ?_ | refine Sim.exit rfl ?_ | refine Sim.condT rfl ?_ | refine Sim.condF rfl ?_)
      exact next0 (i + 1) _ _ ⟨by omega, hu5⟩ (by omega) sb
    · repeat (first | refine RL.vv ?_ | refine RL.p ?_ | refine RL.nil ?_ | refine Sim.seq ?_ | refine Sim.region ?_ | refine Sim.block ?_ | refine Sim.skip ?_ | refine Sim.inBlock ?_ | refine Sim.exit rfl ?_ | refine Sim.condT rfl ?_ | refine Sim.condF rfl ?_)
      refine Sim.q ?_
      repeat (first | refine RQ.vv ?_ | refine RQ.p ?_)
      refine RQ.nil fun w5 h45 => ?_
      have hu5 := hu4.trans h45
      clear ha6
      repeat (first | refine RL.vv ?_ | refine RL.p ?_ | refine RL.nil ?_ | refine Sim.seq ?_ | refine Sim.region ?_ | refine Sim.block ?_ | refine Sim.skip ?_ | refine Sim.inBlock ?_ | refine Sim.exit rfl ?_ | refine Sim.condT rfl ?_ | refine Sim.condF rfl ?_)
      exact next0 (i + 1) _ _ ⟨by omega, hu5⟩ (by omega) sb
    · repeat (first | refine RL.vv ?_ | refine RL.p ?_ | refine RL.nil ?_ | refine Sim.seq ?_ | refine Sim.region ?_ | refine Sim.block ?_ | refine Sim.skip ?_ | refine Sim.inBlock ?_ | refine Sim.exit rfl ?_ | refine Sim.condT rfl ?_ | refine Sim.condF rfl ?_)
      refine Sim.loop (σ := Nat) (fun j => [(0, .slice (some ⟨gb, go, none⟩) l.length gc), (1, .slice (some ⟨kb, ko, none⟩) ps.length kc), (14, .slice (some ⟨gb, go, none⟩) l.length gc), (15, .int .i64 (l.length : Int)), (16, .int .i64 (i : Int)), (5, .int .i64 (i : Int)), (104, .slice a2 ([] : List (List Gt)).length c2), (105, .int .i64 (([] : List (List Gt)).length : Int)), (106, .int .i64 (j : Int))]) (fun j w' => j ≤ ([] : List (List Gt)).length ∧ Up w4 w') (fun j => ([] : List (List Gt)).length - j) 0 sb ⟨Nat.zero_le _, .refl _⟩ ?_
      rintro j w5 ⟨hj, h45⟩ next
      by_cases hjl : j < ([] : List (List Gt)).length
      rotate_left
      · clear ha6
        repeat (first | refine RL.vv ?_ | refine RL.p ?_ | refine RL.nil ?_ | refine Sim.seq ?_ | refine Sim.region ?_ | refine Sim.block ?_ | refine Sim.skip ?_ | refine Sim.inBlock ?_ | refine Sim.exit rfl ?_ | refine Sim.condT rfl ?_ | refine Sim.condF rfl ?_)
        exact next0 (i + 1) _ _ ⟨by omega, hu4.trans h45⟩ (by omega) sb
      exact absurd hjl (Nat.not_lt_zero _)
  | false =>
    rcases hkind with ⟨rfl, rfl, rfl, hpp⟩ | ⟨rfl, rfl, rfl, hsub⟩ | ⟨rfl, rfl, rfl, hsub⟩
    · have hp0 : (p.picks.length : Int) = 0 := by rw [hpp]; rfl
      repeat (first | refine RL.vv ?_ | refine RL.p ?_ | refine RL.nil ?_ | refine Sim.seq ?_ | refine Sim.region ?_ | refine Sim.block ?_ | refine Sim.skip ?_ | refine Sim.inBlock ?_ | refine Sim.exit rfl ?_ | refine Sim.condT rfl ?_ | refine Sim.condF rfl ?_)
      refine Sim.q ?_
      repeat (first | refine RQ.vv ?_ | refine RQ.p ?_)
      refine RQ.vv ?_ (hy := fun wq hq => y_add (d := 0) rfl rfl rfl (by omega) (by omega))
      repeat (first | refine RQ.vv ?_ | refine RQ.p ?_)
      refine RQ.vv ?_ (hy := fun wq hq => y_add (d := 0) rfl rfl (by rw [hp0]; rfl) (by omega) (by omega))
      repeat (first | refine RQ.vv ?_ | refine RQ.p ?_)
      refine RQ.nil fun w5 h45 => ?_
      have hu5 := hu4.trans h45
      clear ha6
      repeat (first | refine RL.vv ?_ | refine RL.p ?_ | refine RL.nil ?_ | refine Sim.seq ?_ | refine Sim.region ?_ | refine Sim.block ?_ | refine Sim.skip ?_ | refine Sim.inBlock ?_ | refine Sim.exit rfl ?_ | refine Sim.condT rfl ?_ | refine Sim.condF rfl ?_)
      exact next0 (i + 1) _ _ ⟨by omega, hu5⟩ (by omega) sb
    · have e0 : (⟨#[]⟩ : Str) = ⟨#[]⟩ := rfl
      repeat (first | refine RL.vv ?_ | refine RL.p ?_ | refine RL.nil ?_ | refine Sim.seq ?_ | refine Sim.region ?_ | refine Sim.block ?_ | refine Sim.skip ?_ | refine Sim.inBlock ?_ | refine Sim.exit rfl ?_ | refine Sim.condT rfl ?_ | refine Sim.condF rfl ?_)
      refine Sim.q ?_
      repeat (first | refine RQ.vv ?_ | refine RQ.p ?_)
      refine RQ.cu (fun wq hq => q_call (H m rfl wq (hv1.up hq) (hpv.up hq) (hsub rfl)) hq) ?_
      repeat (first | refine RQ.vv ?_ | refine RQ.p ?_)
      refine RQ.nil fun w5 h45 => ?_
      have hu5 := hu4.trans h45
      clear ha6
      repeat (first | refine RL.vv ?_ | refine RL.p ?_ | refine RL.nil ?_ | refine Sim.seq ?_ | refine Sim.region ?_ | refine Sim.block ?_ | refine Sim.skip ?_ | refine Sim.inBlock ?_ | refine Sim.exit rfl ?_ | refine Sim.condT rfl ?_ | refine Sim.condF rfl ?_)
      exact next0 (i + 1) _ _ ⟨by omega, hu5⟩ (by omega) sb
    · have e0 : (⟨#[]⟩ : Str) = ⟨#[]⟩ := rfl
      repeat (first | refine RL.vv ?_ | refine RL.p ?_ | refine RL.nil ?_ | refine Sim.seq ?_ | refine Sim.region ?_ | refine Sim.block ?_ | refine Sim.skip ?_ | refine Sim.inBlock ?_ | refine Sim.exit rfl ?_ | refine Sim.condT rfl ?_ | refine Sim.condF rfl ?_)
      refine Sim.loop (σ := Nat) (fun j => [(0, .slice (some ⟨gb, go, none⟩) l.length gc), (1, .slice (some ⟨kb, ko, none⟩) ps.length kc), (14, .slice (some ⟨gb, go, none⟩) l.length gc), (15, .int .i64 (l.length : Int)), (16, .int .i64 (i : Int)), (5, .int .i64 (i : Int)), (104, .slice a2 xs.length c2), (105, .int .i64 (xs.length : Int)), (106, .int .i64 (j : Int))]) (fun j w' => j ≤ xs.length ∧ Up w4 w') (fun j => xs.length - j) 0 sb ⟨Nat.zero_le _, .refl _⟩ ?_
      rintro j w5 ⟨hj, h45⟩ next
      by_cases hjl : j < xs.length
      rotate_left
      · clear ha6
        repeat (first | refine RL.vv ?_ | refine RL.p ?_ | refine RL.nil ?_ | refine Sim.seq ?_ | refine Sim.region ?_ | refine Sim.block ?_ | refine Sim.skip ?_ | refine Sim.inBlock ?_ | refine Sim.exit rfl ?_ | refine Sim.condT rfl ?_ | refine Sim.condF rfl ?_)
        exact next0 (i + 1) _ _ ⟨by omega, hu4.trans h45⟩ (by omega) sb
      have hz : xs[j]? = some xs[j] := List.getElem?_eq_getElem hjl
      obtain ⟨ub, uo, cs, rfl, _, huat, ⟨uv, rfl, huv⟩, _⟩ := (hv2.up h45).at hz
      have huat : At w5 ub (uo + j * 1) _ := huat
      have hkat := hkat.up h45
      have hsubj := hsub xs[j] (List.mem_of_getElem? hz)
      generalize xs[j] = x at *
      obtain ⟨ua, uc, rfl, _⟩ := id huv
      clear ha6
      repeat (first | refine RL.vv ?_ | refine RL.p ?_ | refine RL.nil ?_ | refine Sim.seq ?_ | refine Sim.region ?_ | refine Sim.block ?_ | refine Sim.skip ?_ | refine Sim.inBlock ?_ | refine Sim.exit rfl ?_ | refine Sim.condT rfl ?_ | refine Sim.condF rfl ?_)
      refine RL.cu h45 (H m rfl w5 huv (hpv.up h45) hsubj) fun w6 h46 _ => ?_
      repeat (first | refine RL.vv ?_ | refine RL.p ?_ | refine RL.nil ?_ | refine Sim.seq ?_ | refine Sim.region ?_ | refine Sim.block ?_ | refine Sim.skip ?_ | refine Sim.inBlock ?_ | refine Sim.exit rfl ?_ | refine Sim.condT rfl ?_ | refine Sim.condF rfl ?_)
      exact next (j + 1) _ _ ⟨by omega, h46⟩ (by omega) sb
theorem shape6_any : ∀ m, ShapeC m
  | 0 => shape_gen fun n h => by cases h
  | m + 1 => shape_gen fun n h => by cases h; exact shape6_any m
set_option maxHeartbeats 1000000 in
theorem MeanShape_walk {m : Nat} {S S3 : Nat → Prop} {lv kv : Value} {l : List Svc} (q : Ak) (w : World) (hl : SliceOf svcLay S w lv l) (hps : SliceOf (pckLay (m + 1)) S3 w kv q.picks) :
    Calls Try.prog 14 #[lv, .agg #[.string q.type, .string q.key, kv]] w fun en w' => en = .returned (.bool true) ∧ Up w w' := by
  refine calls_of_sim Try.func14 rfl (Nat.le_of_ble_eq_true rfl) ?_
  obtain ⟨la, lc, rfl, _⟩ := id hl
  obtain ⟨ka, kc, rfl, _⟩ := id hps
  repeat (first | refine RL.vv ?_ | refine RL.p ?_ | refine RL.nil ?_ | refine Sim.seq ?_ | refine Sim.region ?_ | refine Sim.block ?_ | refine Sim.skip ?_ | refine Sim.inBlock ?_ | refine Sim.exit rfl ?_ | refine Sim.condT rfl ?_ | refine Sim.condF rfl ?_)
  refine RL.bx (.refl w) fun b3 w1 he3 hle3 hu1 _ hb3 => ?_
  have hb3 : Box w1 b3 _ [.string q.type, .string q.key, .slice ka q.picks.length kc] := hb3
  repeat (first | refine RL.vv ?_ | refine RL.p ?_ | refine RL.nil ?_ | refine Sim.seq ?_ | refine Sim.region ?_ | refine Sim.block ?_ | refine Sim.skip ?_ | refine Sim.inBlock ?_ | refine Sim.exit rfl ?_ | refine Sim.condT rfl ?_ | refine Sim.condF rfl ?_)
  refine RL.cu hu1 (alive6_any w1) fun w2 hu h12 => ?_
  have ha3 := (hb3.up h12).at
  clear hb3 h12 hu1
  repeat (first | refine RL.vv ?_ | refine RL.p ?_ | refine RL.nil ?_ | refine Sim.seq ?_ | refine Sim.region ?_ | refine Sim.block ?_ | refine Sim.skip ?_ | refine Sim.inBlock ?_ | refine Sim.exit rfl ?_ | refine Sim.condT rfl ?_ | refine Sim.condF rfl ?_)
  refine RL.cx (Mean_any q w2 (hl.up hu) (hps.up hu)) ?_
  rintro _ w3 ⟨gv, rfl, h23, ho⟩
  refine ⟨_, rfl, ?_⟩
  have hu := hu.trans h23
  have ha3 := ha3.up h23
  have hs := ho.sl (S' := fun _ => True) (fun _ _ _ _ => trivial) fun _ _ => trivial
  clear ho h23
  obtain ⟨ga, gc, rfl, _⟩ := id hs
  by_cases he : (meanM (m + 1) l q).2 = 0
  · obtain ⟨h1, h2, _⟩ := meanM_zero.1 he
    have hgot := meanM_got he
    have hsh := thing_shape (wholeOk h1) (m + 1) q.type q.key q.picks (checkM_zero.1 h2).2.2.2
    rw [← hgot] at hsh
    repeat (first | refine RL.vv ?_ | refine RL.p ?_ | refine RL.nil ?_ | refine Sim.seq ?_ | refine Sim.region ?_ | refine Sim.block ?_ | refine Sim.skip ?_ | refine Sim.inBlock ?_ | refine Sim.exit rfl ?_ | refine Sim.condT rfl ?_ | refine Sim.condF rfl ?_)
    refine RL.cu hu (shape6_any (m + 1) w3 hs (hps.up hu) hsh) fun w4 hu _ => ?_
    repeat (first | refine RL.vv ?_ | refine RL.p ?_ | refine RL.nil ?_ | refine Sim.seq ?_ | refine Sim.region ?_ | refine Sim.block ?_ | refine Sim.skip ?_ | refine Sim.inBlock ?_ | refine Sim.exit rfl ?_ | refine Sim.condT rfl ?_ | refine Sim.condF rfl ?_)
    exact Sim.ret1 Try.func14 rfl rfl ⟨rfl, hu⟩
  · have hn := meanM_none he
    have hlz : ((meanM (m + 1) l q).1.length : Int) = 0 := by rw [hn]; rfl
    repeat (first | refine RL.vv ?_ | refine RL.p ?_ | refine RL.nil ?_ | refine Sim.seq ?_ | refine Sim.region ?_ | refine Sim.block ?_ | refine Sim.skip ?_ | refine Sim.inBlock ?_ | refine Sim.exit rfl ?_ | refine Sim.condT rfl ?_ | refine Sim.condF rfl ?_)
    exact Sim.ret1 Try.func14 rfl rfl ⟨rfl, hu⟩
end Go.Proofs.Ytgckpmcdlciibab
