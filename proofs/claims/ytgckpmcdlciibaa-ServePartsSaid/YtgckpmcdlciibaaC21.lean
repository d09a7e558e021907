/- Contracts of chapter 5: a service's thing; what is wrong with a request. -/
import Derived.Test.YtgckpmcdlciibaaC20
import Derived.Test.YtgckpmcdlciibaaOpenW
namespace Go.Proofs.Ytgckpmcdlciibaa
open Go.RowKit
set_option maxHeartbeats 400000 in
theorem thingAt_neg' {l : List Thg} {t k : Str} (h : thingAt l t k < 0) : thingAt l t k = -1 := firstIdx_neg (l := l) (p := fun x => decide (x.type = t ∧ x.key = k)) (by unfold thingAt at h; omega)
set_option maxHeartbeats 400000 in
theorem thing1_any (t k t2 k2 : Str) (vs : Value) (b b2 : Nat) (w : World) (hb : At w b 0 [.string t]) (hb2 : At w b2 0 [.string k]) :
    Calls Try.prog 96 #[.agg #[.string t2, .string k2, vs], .pointer (some ⟨b, 0, none⟩), .pointer (some ⟨b2, 0, none⟩)] w fun en w' => en = .returned (.bool (decide (t2 = t ∧ k2 = k))) ∧ Up w w' := by
  refine calls_of_sim Try.func96 rfl (Nat.le_of_ble_eq_true rfl) ?_
  repeat (first | refine RL.vv ?_ | refine RL.p ?_ | refine RL.nil ?_ | refine Sim.seq ?_ | refine Sim.region ?_ | refine Sim.block ?_ | refine Sim.skip ?_ | refine Sim.inBlock ?_ | refine Sim.exit rfl ?_ | refine Sim.condT rfl ?_ | refine Sim.condF rfl ?_)
  refine RL.bx (.refl w) fun b3 w1 hb3 _ hu _ hbx => ?_
  have ha := hbx.at
  by_cases h1 : t2 = t
  · by_cases h2 : k2 = k
    · repeat (first | refine RL.vv ?_ | refine RL.p ?_ | refine RL.nil ?_ | refine Sim.seq ?_ | refine Sim.region ?_ | refine Sim.block ?_ | refine Sim.skip ?_ | refine Sim.inBlock ?_ | refine Sim.exit rfl ?_ | refine Sim.condT rfl ?_ | refine Sim.condF rfl ?_)
      exact Sim.ret1 Try.func96 rfl rfl ⟨by rw [decide_eq_true ⟨h1, h2⟩], hu⟩
    · repeat (first | refine RL.vv ?_ | refine RL.p ?_ | refine RL.nil ?_ | refine Sim.seq ?_ | refine Sim.region ?_ | refine Sim.block ?_ | refine Sim.skip ?_ | refine Sim.inBlock ?_ | refine Sim.exit rfl ?_ | refine Sim.condT rfl ?_ | refine Sim.condF rfl ?_)
      exact Sim.ret1 Try.func96 rfl rfl ⟨by rw [decide_eq_false fun h => h2 h.2], hu⟩
  · repeat (first | refine RL.vv ?_ | refine RL.p ?_ | refine RL.nil ?_ | refine Sim.seq ?_ | refine Sim.region ?_ | refine Sim.block ?_ | refine Sim.skip ?_ | refine Sim.inBlock ?_ | refine Sim.exit rfl ?_ | refine Sim.condT rfl ?_ | refine Sim.condF rfl ?_)
    exact Sim.ret1 Try.func96 rfl rfl ⟨by rw [decide_eq_false fun h => h1 h.1], hu⟩
set_option maxHeartbeats 400000 in
theorem thing_any {S : Nat → Prop} {v1 v2 v3 : Value} {xs : List Thg} {sb so : Nat} (t k : Str) (w : World) (hat : At w sb so [v1, v2, v3]) (hx : SliceOf thgLay S w v3 xs) :
    Calls Try.prog 51 #[.pointer (some ⟨sb, so, none⟩), .string t, .string k] w fun en w' => en = .returned (ptrAt v3 3 (thingAt xs t k)) ∧ Up w w' := by
  refine calls_of_sim Try.func51 rfl (Nat.le_of_ble_eq_true rfl) ?_
  obtain ⟨a, c, rfl, hnc, hcm, hel⟩ := id hx
  unfold maxLen at hcm
  repeat (first | refine RL.vv ?_ | refine RL.p ?_ | refine RL.nil ?_ | refine Sim.seq ?_ | refine Sim.region ?_ | refine Sim.block ?_ | refine Sim.skip ?_ | refine Sim.inBlock ?_ | refine Sim.exit rfl ?_ | refine Sim.condT rfl ?_ | refine Sim.condF rfl ?_)
  refine RL.bx (.refl w) fun b1 w1 _ _ hu1 _ hb1 => ?_
  refine RL.bx hu1 fun b2 w2 _ _ hu hu12 hb2 => ?_
  have hb1 := hb1.up hu12
  repeat (first | refine RL.vv ?_ | refine RL.p ?_ | refine RL.nil ?_ | refine Sim.seq ?_ | refine Sim.region ?_ | refine Sim.block ?_ | refine Sim.skip ?_ | refine Sim.inBlock ?_ | refine Sim.exit rfl ?_ | refine Sim.condT rfl ?_ | refine Sim.condF rfl ?_)
  obtain ⟨cells, hel2, his⟩ := (hx.up hu).elems
  refine RL.cu hu (IndexFunc_Thing (g := 96) (caps := #[.pointer (some ⟨b1, 0, none⟩), .pointer (some ⟨b2, 0, none⟩)]) (p := fun i => match xs[i]? with | some y => decide (y.type = t ∧ y.key = k) | none => false) hel2 ?_) fun w3 hu _ => ?_
  · intro i hi w3 hu3
    obtain ⟨v1, hcs, _⟩ := his i xs[i] (List.getElem?_eq_getElem hi)
    rw [hcs]
    refine (thing1_any t k _ _ _ b1 b2 w3 (hb1.at.up hu3) (hb2.at.up hu3)).mono ?_
    rintro _ w4 ⟨rfl, hu4⟩
    exact ⟨by simp [List.getElem?_eq_getElem hi], hu4⟩
  rw [idx_firstIdx xs (fun y => decide (y.type = t ∧ y.key = k)) _ (fun i x hx => by simp only [hx]), show firstIdx xs (fun y => decide (y.type = t ∧ y.key = k)) = thingAt xs t k from rfl]
  by_cases hk : thingAt xs t k < 0
  · repeat (first | refine RL.vv ?_ | refine RL.p ?_ | refine RL.nil ?_ | refine Sim.seq ?_ | refine Sim.region ?_ | refine Sim.block ?_ | refine Sim.skip ?_ | refine Sim.inBlock ?_ | refine Sim.exit rfl ?_ | refine Sim.condT rfl ?_ | refine Sim.condF rfl ?_)
    have : thingAt xs t k = -1 := thingAt_neg' hk
    exact Sim.ret1 Try.func51 rfl rfl ⟨by rw [this, ptrAt_neg], hu⟩
  · obtain ⟨j, x, hj, hxj, _, hjl⟩ := firstIdx_lt (l := xs) (p := fun y => decide (y.type = t ∧ y.key = k)) (by unfold thingAt at hk; omega)
    have hj : thingAt xs t k = (j : Int) := hj
    rw [hj] at hk ⊢
    obtain ⟨b, o, cs, rfl, _, hat2, _, hjl⟩ := hx.at hxj
    repeat (first | refine RL.vv ?_ | refine RL.p ?_ | refine RL.nil ?_ | refine Sim.seq ?_ | refine Sim.region ?_ | refine Sim.block ?_ | refine Sim.skip ?_ | refine Sim.inBlock ?_ | refine Sim.exit rfl ?_ | refine Sim.condT rfl ?_ | refine Sim.condF rfl ?_)
    exact Sim.ret1 Try.func51 rfl rfl ⟨by rw [ptrAt_nat], hu⟩
end Go.Proofs.Ytgckpmcdlciibaa
