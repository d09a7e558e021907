/- The walk of MeanOrder. -/
import Derived.Test.YtgckpmcdlciibacYL21
import Derived.Test.YtgckpmcdlciibacZX
import Derived.Test.YtgckpmcdlciibacYRev
namespace Go.Proofs.Ytgckpmcdlciibac
open Go.RowKit
set_option maxHeartbeats 4000000 in
theorem MeanOrder_walk {m : Nat} {S S3 : Nat → Prop} {lv kv : Value} {l : List Svc} (q : Ak) (w : World) (hl : SliceOf svcLay S w lv l) (hps : SliceOf (pckLay (m + 1)) S3 w kv q.picks) (hlen : l.length * 72 ≤ 140737488351232) :
    Calls Try.prog 3 #[lv, .agg #[.string q.type, .string q.key, kv]] w fun en w' => en = .returned (.bool true) ∧ Up w w' := by
  refine calls_of_sim Try.func3 rfl (Nat.le_of_ble_eq_true rfl) ?_
  obtain ⟨la, lc, rfl, hlnc, hlcm, _⟩ := id hl
  obtain ⟨ka, kc, rfl, _⟩ := id hps
  unfold maxLen at hlcm
  repeat (first | refine RL.vv ?_ | refine RL.p ?_ | refine RL.nil ?_ | refine Sim.seq ?_ | refine Sim.region ?_ | refine Sim.block ?_ | refine Sim.skip ?_ | refine Sim.inBlock ?_ | refine Sim.exit rfl ?_ | refine Sim.condT rfl ?_ | refine Sim.condF rfl ?_)
  refine RL.bx (.refl w) fun b3 w1 he3 hle3 hu1 _ hb3 => ?_
  have hb3 : Box w1 b3 _ [.string q.type, .string q.key, .slice ka q.picks.length kc] := hb3
  repeat (first | refine RL.vv ?_ | refine RL.p ?_ | refine RL.nil ?_ | refine Sim.seq ?_ | refine Sim.region ?_ | refine Sim.block ?_ | refine Sim.skip ?_ | refine Sim.inBlock ?_ | refine Sim.exit rfl ?_ | refine Sim.condT rfl ?_ | refine Sim.condF rfl ?_)
  refine RL.cu hu1 (alive6_any w1) fun w1' hu h12 => ?_
  have ha3 := (hb3.up h12).at
  clear hb3 h12 hu1
  repeat (first | refine RL.vv ?_ | refine RL.p ?_ | refine RL.nil ?_ | refine Sim.seq ?_ | refine Sim.region ?_ | refine Sim.block ?_ | refine Sim.skip ?_ | refine Sim.inBlock ?_ | refine Sim.exit rfl ?_ | refine Sim.condT rfl ?_ | refine Sim.condF rfl ?_)
  refine RL.vv ?_ (hy := y_sub (d := (l.length : Int) - 1 - ((0 : Nat) : Int)) rfl rfl (by omega) (by omega) (by omega))
  repeat (first | refine RL.vv ?_ | refine RL.p ?_ | refine RL.nil ?_ | refine Sim.seq ?_ | refine Sim.region ?_ | refine Sim.block ?_ | refine Sim.skip ?_ | refine Sim.inBlock ?_ | refine Sim.exit rfl ?_ | refine Sim.condT rfl ?_ | refine Sim.condF rfl ?_)
  refine Sim.loop (σ := Nat × Value) (fun st => [(0, .slice la l.length lc), (3, .pointer (some ⟨b3, 0, none⟩)), (6, .int .i64 ((l.length : Int) - 1 - (st.1 : Int))), (5, st.2)])
    (fun st w' => st.1 ≤ l.length ∧ Up w1' w' ∧ Own svcLay 31 w1'.heap.size (fun b => b < w1'.heap.size ∨ w1'.heap.size ≤ b) w' st.2 (l.drop (l.length - st.1)).reverse) (fun st => l.length - st.1) (0, .slice none 0 0) sb ⟨Nat.zero_le _, .refl _, by rw [Nat.sub_zero, List.drop_length]; exact Own.nil _ _ _ _ _⟩ ?_
  have hl := hl.up hu
  rintro ⟨n, v⟩ w2 ⟨hn, hu2, ho⟩ next
  simp only at hn ho next ⊢
  by_cases hlt : n < l.length
  · have e : (l.length : Int) - 1 - (n : Int) = ((l.length - 1 - n : Nat) : Int) := by omega
    have hx : l[l.length - 1 - n]? = some (l[l.length - 1 - n]'(by omega)) := List.getElem?_eq_getElem (by omega)
    have hrs := rev_snoc hlt
    obtain ⟨vb, vo, cs, rfl, _, hat, ⟨v1, v2, v3, rfl, hv1, hv2, hv3⟩, _⟩ := hl.at hx
    have hat : At w1' vb (vo + (l.length - 1 - n) * 3) _ := hat
    have hat := hat.up hu2
    generalize (l[l.length - 1 - n]'(by omega)) = s at *
    rw [e]
    obtain ⟨a1, c1, rfl, _⟩ := id hv1
    obtain ⟨a2, c2, rfl, _⟩ := id hv2
    obtain ⟨a3, c3, rfl, _⟩ := id hv3
    have h0 : (0 : Int) ≤ ((l.length - 1 - n : Nat) : Int) := by omega
    repeat (first | refine RL.vv ?_ | refine RL.p ?_ | refine RL.nil ?_ | refine Sim.seq ?_ | refine Sim.region ?_ | refine Sim.block ?_ | refine Sim.skip ?_ | refine Sim.inBlock ?_ | refine Sim.exit rfl ?_ | refine Sim.condT rfl ?_ | refine Sim.condF rfl ?_)
    refine RL.bu (el := 31) [.slice a1 s.types.length c1, .slice a2 s.changes.length c2, .slice a3 s.things.length c3] (.refl w2) fun b6 w3 he6 _ _ h23 hb6 => ?_
    have hu3 := hu2.trans h23
    have hs3 := hu3.size
    refine RL.app (L := svcLay) (el := 31) (S := fun b => b < w1'.heap.size ∨ w1'.heap.size ≤ b) (B := w1'.heap.size) (ys := [s]) hu3 (ho.up h23) (SliceOf.one hb6 ⟨by omega, ho.ne (Nat.le_of_eq he6.symm)⟩ ⟨_, _, _, rfl, (hv1.old.up hu3).mono fun k hk => ⟨.inl hk.2, ho.ne' hk.2⟩, (hv2.old.up hu3).mono fun k hk => ⟨.inl hk.2, ho.ne' hk.2⟩, (hv3.old.up hu3).mono fun k hk => ⟨.inl hk.2, ho.ne' hk.2⟩⟩) (by simp; omega) (Nat.le_refl _) (by omega) fun v2 w4 hu4 ho2 hg hv => ?_
    repeat (first | refine RL.vv ?_ | refine RL.p ?_ | refine RL.nil ?_ | refine Sim.seq ?_ | refine Sim.region ?_ | refine Sim.block ?_ | refine Sim.skip ?_ | refine Sim.inBlock ?_ | refine Sim.exit rfl ?_ | refine Sim.condT rfl ?_ | refine Sim.condF rfl ?_)
    refine RL.vv ?_ (hy := y_sub (d := (l.length : Int) - 1 - ((n + 1 : Nat) : Int)) rfl rfl (by omega) (by omega) (by omega))
    repeat (first | refine RL.vv ?_ | refine RL.p ?_ | refine RL.nil ?_ | refine Sim.seq ?_ | refine Sim.region ?_ | refine Sim.block ?_ | refine Sim.skip ?_ | refine Sim.inBlock ?_ | refine Sim.exit rfl ?_ | refine Sim.condT rfl ?_ | refine Sim.condF rfl ?_)
    exact next (n + 1, v2) _ _ ⟨by first | omega | (simp only; omega), hu4, by rw [hrs]; exact ho2⟩ (by first | omega | (simp only; omega)) sb
  have hnn : n = l.length := by omega
  subst hnn
  rw [Nat.sub_self, List.drop_zero] at ho
  have hneg : ¬ (0 : Int) ≤ (l.length : Int) - 1 - (l.length : Int) := by omega
  have hb := ho.sl (S' := fun _ => True) (fun _ _ _ _ => trivial) (fun _ _ => trivial)
  obtain ⟨ba, bc, rfl, _⟩ := id hb
  have hps := hps.up (hu.trans hu2)
  have hl := hl.up hu2
  have ha3 := ha3.up hu2
  have hu := hu.trans hu2
  clear ho hu2
  repeat (first | refine RL.vv ?_ | refine RL.p ?_ | refine RL.nil ?_ | refine Sim.seq ?_ | refine Sim.region ?_ | refine Sim.block ?_ | refine Sim.skip ?_ | refine Sim.inBlock ?_ | refine Sim.exit rfl ?_ | refine Sim.condT rfl ?_ | refine Sim.condF rfl ?_)
  refine RL.cx (MAll_any w2 hl) ?_
  rintro _ w3 ⟨pv, rfl, h23, hds, lab, _⟩
  refine ⟨_, rfl, ?_⟩
  unfold fltV
  repeat (first | refine RL.vv ?_ | refine RL.p ?_ | refine RL.nil ?_ | refine Sim.seq ?_ | refine Sim.region ?_ | refine Sim.block ?_ | refine Sim.skip ?_ | refine Sim.inBlock ?_ | refine Sim.exit rfl ?_ | refine Sim.condT rfl ?_ | refine Sim.condF rfl ?_)
  refine RL.al h23 fun b6 w4 he6 hle6 h24 h34 hb6 => ?_
  repeat (first | refine RL.vv ?_ | refine RL.p ?_ | refine RL.nil ?_ | refine Sim.seq ?_ | refine Sim.region ?_ | refine Sim.block ?_ | refine Sim.skip ?_ | refine Sim.inBlock ?_ | refine Sim.exit rfl ?_ | refine Sim.condT rfl ?_ | refine Sim.condF rfl ?_)
  refine RL.st h24 hb6 hle6 fun w5 h25 _ hb6 => ?_
  have hb6 : Box w5 b6 _ [.int .i64 (allM l).2.err, .int .i64 (allM l).2.at_] := hb6
  have hu := hu.trans h25
  have hb := hb.up h25
  have hl := hl.up h25
  have hps := hps.up h25
  have ha3 := ha3.up h25
  have ha6 := hb6.at
  clear h23 h24 h25 h34 hb6 he6
  by_cases he : (allM l).2.err = 0
  rotate_left
  · repeat (first | refine RL.vv ?_ | refine RL.p ?_ | refine RL.nil ?_ | refine Sim.seq ?_ | refine Sim.region ?_ | refine Sim.block ?_ | refine Sim.skip ?_ | refine Sim.inBlock ?_ | refine Sim.exit rfl ?_ | refine Sim.condT rfl ?_ | refine Sim.condF rfl ?_)
    exact Sim.ret1 Try.func3 rfl rfl ⟨rfl, hu⟩
  repeat (first | refine RL.vv ?_ | refine RL.p ?_ | refine RL.nil ?_ | refine Sim.seq ?_ | refine Sim.region ?_ | refine Sim.block ?_ | refine Sim.skip ?_ | refine Sim.inBlock ?_ | refine Sim.exit rfl ?_ | refine Sim.condT rfl ?_ | refine Sim.condF rfl ?_)
  refine RL.cx (Mean_any q w5 hl hps) ?_
  rintro _ w6 ⟨g1, rfl, h56, ho1⟩
  refine ⟨_, rfl, ?_⟩
  have hu := hu.trans h56
  have ha3 := ha3.up h56
  have hs1 := ho1.sl (S' := fun _ => True) (fun _ _ _ _ => trivial) fun _ _ => trivial
  clear ha6 ho1
  repeat (first | refine RL.vv ?_ | refine RL.p ?_ | refine RL.nil ?_ | refine Sim.seq ?_ | refine Sim.region ?_ | refine Sim.block ?_ | refine Sim.skip ?_ | refine Sim.inBlock ?_ | refine Sim.exit rfl ?_ | refine Sim.condT rfl ?_ | refine Sim.condF rfl ?_)
  refine RL.cx (Mean_any q w6 (hb.up h56) (hps.up h56)) ?_
  rintro _ w7 ⟨g2, rfl, h67, ho2⟩
  refine ⟨_, rfl, ?_⟩
  have hu := hu.trans h67
  have hs2 := ho2.sl (S' := fun _ => True) (fun _ _ _ _ => trivial) fun _ _ => trivial
  have hs1 := hs1.up h67
  rw [mean_rev he] at hs2 ⊢
  clear ho2 h67 ha3
  have hee : (meanM (m + 1) l q).2 = (meanM (m + 1) l q).2 := rfl
  repeat (first | refine RL.vv ?_ | refine RL.p ?_ | refine RL.nil ?_ | refine Sim.seq ?_ | refine Sim.region ?_ | refine Sim.block ?_ | refine Sim.skip ?_ | refine Sim.inBlock ?_ | refine Sim.exit rfl ?_ | refine Sim.condT rfl ?_ | refine Sim.condF rfl ?_)
  refine RL.cu hu (SameGot_any (m + 2) w7 hs1 hs2) fun w8 hu _ => ?_
  repeat (first | refine RL.vv ?_ | refine RL.p ?_ | refine RL.nil ?_ | refine Sim.seq ?_ | refine Sim.region ?_ | refine Sim.block ?_ | refine Sim.skip ?_ | refine Sim.inBlock ?_ | refine Sim.exit rfl ?_ | refine Sim.condT rfl ?_ | refine Sim.condF rfl ?_)
  exact Sim.ret1 Try.func3 rfl rfl ⟨rfl, hu⟩
end Go.Proofs.Ytgckpmcdlciibac
