/- Several texts in one: Contracts of chapter 6: a thing is looked up. Contracts of chapter 6: is a thing there; a field of it. How what is got lies in memory. -/
import Derived.Test.YtgckpmcdlciibabZS
import Derived.Test.YtgckpmcdlciibabZG
import Derived.Test.YtgckpmcdlciibabZV
import Derived.Test.YtgckpmcdlciibabZR
namespace Go.Proofs.Ytgckpmcdlciibab
open Go.RowKit
set_option maxHeartbeats 400000 in
theorem find1_any (t2 k2 : Str) (vs : Value) (o : Ownr) (k : Str) (b b2 ob oo : Nat) (w : World) (hb : At w b 0 [.pointer (some ⟨ob, oo, none⟩)]) (ho : At w ob oo [.int .i64 o.service, .string o.type, .string o.field]) (hb2 : At w b2 0 [.string k]) :
    Calls Try.prog 136 #[.agg #[.string t2, .string k2, vs], .pointer (some ⟨b, 0, none⟩), .pointer (some ⟨b2, 0, none⟩)] w fun en w' => en = .returned (.bool (decide (t2 = o.type ∧ k2 = k))) ∧ Up w w' := by
  refine calls_of_sim Try.func136 rfl (Nat.le_of_ble_eq_true rfl) ?_
  repeat (first | refine RL.vv ?_ | refine RL.p ?_ | refine RL.nil ?_ | refine Sim.seq ?_ | refine Sim.region ?_ | refine Sim.block ?_ | refine Sim.skip ?_ | refine Sim.inBlock ?_ | refine Sim.exit rfl ?_ | refine Sim.condT rfl ?_ | refine Sim.condF rfl ?_)
  refine RL.bx (.refl w) fun b3 w1 hb3 _ hu _ hbx => ?_
  have ha := hbx.at
  by_cases h1 : t2 = o.type
  · by_cases h2 : k2 = k
    · repeat (first | refine RL.vv ?_ | refine RL.p ?_ | refine RL.nil ?_ | refine Sim.seq ?_ | refine Sim.region ?_ | refine Sim.block ?_ | refine Sim.skip ?_ | refine Sim.inBlock ?_ | refine Sim.exit rfl ?_ | refine Sim.condT rfl ?_ | refine Sim.condF rfl ?_)
      refine Sim.q ?_
      repeat (first | refine RQ.vv ?_ | refine RQ.p ?_)
      refine RQ.nil fun w2 hq => ?_
      repeat (first | refine RL.vv ?_ | refine RL.p ?_ | refine RL.nil ?_ | refine Sim.seq ?_ | refine Sim.region ?_ | refine Sim.block ?_ | refine Sim.skip ?_ | refine Sim.inBlock ?_ | refine Sim.exit rfl ?_ | refine Sim.condT rfl ?_ | refine Sim.condF rfl ?_)
      exact Sim.ret1 Try.func136 rfl rfl ⟨by rw [decide_eq_true ⟨h1, h2⟩], hu.trans hq⟩
    · repeat (first | refine RL.vv ?_ | refine RL.p ?_ | refine RL.nil ?_ | refine Sim.seq ?_ | refine Sim.region ?_ | refine Sim.block ?_ | refine Sim.skip ?_ | refine Sim.inBlock ?_ | refine Sim.exit rfl ?_ | refine Sim.condT rfl ?_ | refine Sim.condF rfl ?_)
      refine Sim.q ?_
      repeat (first | refine RQ.vv ?_ | refine RQ.p ?_)
      refine RQ.nil fun w2 hq => ?_
      repeat (first | refine RL.vv ?_ | refine RL.p ?_ | refine RL.nil ?_ | refine Sim.seq ?_ | refine Sim.region ?_ | refine Sim.block ?_ | refine Sim.skip ?_ | refine Sim.inBlock ?_ | refine Sim.exit rfl ?_ | refine Sim.condT rfl ?_ | refine Sim.condF rfl ?_)
      exact Sim.ret1 Try.func136 rfl rfl ⟨by rw [decide_eq_false fun h => h2 h.2], hu.trans hq⟩
  · repeat (first | refine RL.vv ?_ | refine RL.p ?_ | refine RL.nil ?_ | refine Sim.seq ?_ | refine Sim.region ?_ | refine Sim.block ?_ | refine Sim.skip ?_ | refine Sim.inBlock ?_ | refine Sim.exit rfl ?_ | refine Sim.condT rfl ?_ | refine Sim.condF rfl ?_)
    refine Sim.q ?_
    repeat (first | refine RQ.vv ?_ | refine RQ.p ?_)
    refine RQ.nil fun w2 hq => ?_
    repeat (first | refine RL.vv ?_ | refine RL.p ?_ | refine RL.nil ?_ | refine Sim.seq ?_ | refine Sim.region ?_ | refine Sim.block ?_ | refine Sim.skip ?_ | refine Sim.inBlock ?_ | refine Sim.exit rfl ?_ | refine Sim.condT rfl ?_ | refine Sim.condF rfl ?_)
    exact Sim.ret1 Try.func136 rfl rfl ⟨by rw [decide_eq_false fun h => h1 h.1], hu.trans hq⟩
set_option maxHeartbeats 1000000 in
theorem mfind_any {S : Nat → Prop} {wb ob oo : Nat} {lv pv : Value} {l : List Svc} {s : Svc} (o : Ownr) (k : Str) (w : World) (hw : At w wb 0 [lv, pv]) (hl : SliceOf svcLay S w lv l) (ho : At w ob oo [.int .i64 o.service, .string o.type, .string o.field]) (h0 : 0 ≤ o.service) (hs : l[o.service.toNat]? = some s) :
    Calls Try.prog 116 #[.pointer (some ⟨wb, 0, none⟩), .pointer (some ⟨ob, oo, none⟩), .string k] w fun en w' => ∃ v3, en = .returned (ptrAt v3 3 (thingAt s.things o.type k)) ∧ Up w w' ∧ SliceOf thgLay S w' v3 s.things := by
  refine calls_of_sim Try.func116 rfl (Nat.le_of_ble_eq_true rfl) ?_
  obtain ⟨n, hn⟩ := Int.eq_ofNat_of_zero_le h0
  rw [hn, Int.toNat_natCast] at hs
  obtain ⟨la, lc, rfl, hlnc, hlcm, _⟩ := id hl
  obtain ⟨vb, vo, cs, rfl, _, hvat, ⟨v1, v2, v3, rfl, hv1, hv2, hx⟩, _⟩ := hl.at hs
  have hvat : At w vb (vo + n * 3) _ := hvat
  have hnl := (List.getElem?_eq_some_iff.1 hs).1
  obtain ⟨a1, c1, rfl, _⟩ := id hv1
  obtain ⟨a2, c2, rfl, _⟩ := id hv2
  obtain ⟨a, c, rfl, hnc, hcm, hel⟩ := id hx
  unfold maxLen at hcm hlcm
  repeat (first | refine RL.vv ?_ | refine RL.p ?_ | refine RL.nil ?_ | refine Sim.seq ?_ | refine Sim.region ?_ | refine Sim.block ?_ | refine Sim.skip ?_ | refine Sim.inBlock ?_ | refine Sim.exit rfl ?_ | refine Sim.condT rfl ?_ | refine Sim.condF rfl ?_)
  refine RL.bx (.refl w) fun b4 w1 _ _ hu1 _ hb4 => ?_
  refine RL.bx hu1 fun b5 w2 _ _ hu hu12 hb5 => ?_
  have hb4 := hb4.up hu12
  have ha4 := hb4.at
  have ha5 := hb5.at
  have ho2 := ho.up hu
  rw [hn] at ho2
  have hw2 := hw.up hu
  have hvat2 := hvat.up hu
  repeat (first | refine RL.vv ?_ | refine RL.p ?_ | refine RL.nil ?_ | refine Sim.seq ?_ | refine Sim.region ?_ | refine Sim.block ?_ | refine Sim.skip ?_ | refine Sim.inBlock ?_ | refine Sim.exit rfl ?_ | refine Sim.condT rfl ?_ | refine Sim.condF rfl ?_)
  refine Sim.q ?_
  repeat (first | refine RQ.vv ?_ | refine RQ.p ?_)
  refine RQ.nil fun w3 hq => ?_
  have hu3 := hu.trans hq
  have ha4 := ha4.up hq
  have ha5 := ha5.up hq
  obtain ⟨cells, hel2, his⟩ := (hx.up hu3).elems
  repeat (first | refine RL.vv ?_ | refine RL.p ?_ | refine RL.nil ?_ | refine Sim.seq ?_ | refine Sim.region ?_ | refine Sim.block ?_ | refine Sim.skip ?_ | refine Sim.inBlock ?_ | refine Sim.exit rfl ?_ | refine Sim.condT rfl ?_ | refine Sim.condF rfl ?_)
  refine RL.cu hu3 (IndexFunc_Thing (g := 136) (caps := #[.pointer (some ⟨b4, 0, none⟩), .pointer (some ⟨b5, 0, none⟩)]) (p := fun i => match s.things[i]? with | some y => decide (y.type = o.type ∧ y.key = k) | none => false) hel2 ?_) fun w4 hu4 _ => ?_
  · intro i hi w4 hu4
    obtain ⟨v1, hcs, _⟩ := his i s.things[i] (List.getElem?_eq_getElem hi)
    rw [hcs]
    refine (find1_any _ _ v1 o k b4 b5 ob oo w4 (ha4.up hu4) ((ho.up hu3).up hu4) (ha5.up hu4)).mono ?_
    rintro _ w5 ⟨rfl, hu5⟩
    exact ⟨by simp [List.getElem?_eq_getElem hi], hu5⟩
  rw [idx_firstIdx s.things (fun y => decide (y.type = o.type ∧ y.key = k)) _ (fun i x hx => by simp only [hx]), show firstIdx s.things (fun y => decide (y.type = o.type ∧ y.key = k)) = thingAt s.things o.type k from rfl]
  by_cases hk : thingAt s.things o.type k < 0
  · repeat (first | refine RL.vv ?_ | refine RL.p ?_ | refine RL.nil ?_ | refine Sim.seq ?_ | refine Sim.region ?_ | refine Sim.block ?_ | refine Sim.skip ?_ | refine Sim.inBlock ?_ | refine Sim.exit rfl ?_ | refine Sim.condT rfl ?_ | refine Sim.condF rfl ?_)
    have : thingAt s.things o.type k = -1 := thingAt_neg' hk
    exact Sim.ret1 Try.func116 rfl rfl ⟨_, by rw [this, ptrAt_neg], hu4, hx.up hu4⟩
  · obtain ⟨j, x, hj, hxj, _, hjl⟩ := firstIdx_lt (l := s.things) (p := fun y => decide (y.type = o.type ∧ y.key = k)) (by unfold thingAt at hk; omega)
    have hj : thingAt s.things o.type k = (j : Int) := hj
    rw [hj] at hk ⊢
    have hx4 := hx.up hu4
    obtain ⟨b, o2, cs, rfl, _, hat2, _, hjl⟩ := hx.at hxj
    repeat (first | refine RL.vv ?_ | refine RL.p ?_ | refine RL.nil ?_ | refine Sim.seq ?_ | refine Sim.region ?_ | refine Sim.block ?_ | refine Sim.skip ?_ | refine Sim.inBlock ?_ | refine Sim.exit rfl ?_ | refine Sim.condT rfl ?_ | refine Sim.condF rfl ?_)
    exact Sim.ret1 Try.func116 rfl rfl ⟨_, by rw [ptrAt_nat], hu4, hx4⟩
end Go.Proofs.Ytgckpmcdlciibab

namespace Go.Proofs.Ytgckpmcdlciibab
open Go.RowKit
theorem findW_at {l : List Svc} {o : Ownr} {k : Str} {s : Svc} (hs : l[o.service.toNat]? = some s) : findW l o k = thingM s.things o.type k := by unfold findW; rw [hs]
theorem thingM_some {xs : List Thg} {t k : Str} {j : Nat} {x : Thg} (h : thingAt xs t k = (j : Int)) (hx : xs[j]? = some x) : thingM xs t k = some x := by
  unfold thingM
  rw [h, if_neg (by omega), Int.toNat_natCast, hx]
theorem thingM_no {xs : List Thg} {t k : Str} (h : thingAt xs t k < 0) : thingM xs t k = none := by
  unfold thingM
  rw [if_pos h]
theorem thingAt_get {xs : List Thg} {t k : Str} (h : ¬ thingAt xs t k < 0) : ∃ (j : Nat) (x : Thg), thingAt xs t k = (j : Int) ∧ xs[j]? = some x := by
  obtain ⟨j, x, hj, hx, _, _⟩ := firstIdx_lt (l := xs) (p := fun y => decide (y.type = t ∧ y.key = k)) (by unfold thingAt at h; omega)
  exact ⟨j, x, hj, hx⟩
set_option maxHeartbeats 1000000 in
theorem there_any {S S2 : Nat → Prop} {wb pb po : Nat} {lv pv fv ov hv : Value} {l : List Svc} (p : Prt) (k : Str) (w : World) (hw : At w wb 0 [lv, pv]) (hl : SliceOf svcLay S w lv l) (hp : At w pb po [.string p.type.name, fv, ov, hv]) (hh : SliceOf ownLay S2 w hv p.homes) (hok : ∀ h ∈ p.homes, 0 ≤ h.service ∧ ∃ s, l[h.service.toNat]? = some s) :
    Calls Try.prog 78 #[.pointer (some ⟨wb, 0, none⟩), .pointer (some ⟨pb, po, none⟩), .string k] w fun en w' => en = .returned (.bool (thereM l p k)) ∧ Up w w' := by
  refine calls_of_sim Try.func78 rfl (Nat.le_of_ble_eq_true rfl) ?_
  obtain ⟨ha, hc, rfl, hhnc, hhcm, _⟩ := id hh
  unfold maxLen at hhcm
  repeat (first | refine RL.vv ?_ | refine RL.p ?_ | refine RL.nil ?_ | refine Sim.seq ?_ | refine Sim.region ?_ | refine Sim.block ?_ | refine Sim.skip ?_ | refine Sim.inBlock ?_ | refine Sim.exit rfl ?_ | refine Sim.condT rfl ?_ | refine Sim.condF rfl ?_)
  refine Sim.loop (σ := Nat) (fun i => [(0, .pointer (some ⟨wb, 0, none⟩)), (1, .pointer (some ⟨pb, po, none⟩)), (2, .string k), (12, .int .i64 (p.homes.length : Int)), (13, .int .i64 (i : Int))]) (fun i w' => i ≤ p.homes.length ∧ Up w w' ∧ ∀ (j : Nat) h, j < i → p.homes[j]? = some h → findW l h k = none) (fun i => p.homes.length - i) 0 sb ⟨Nat.zero_le _, .refl _, fun j h hj => absurd hj (Nat.not_lt_zero _)⟩ ?_
  rintro i w1 ⟨hi, hu, hno⟩ next
  by_cases hlt : i < p.homes.length
  rotate_left
  · have hf : thereM l p k = false := by
      unfold thereM
      rw [List.any_eq_false]
      intro h hh
      obtain ⟨j, hj⟩ := List.getElem?_of_mem hh
      rw [hno j h (by have := (List.getElem?_eq_some_iff.1 hj).1; omega) hj]
      simp
    rw [hf]
    repeat (first | refine RL.vv ?_ | refine RL.p ?_ | refine RL.nil ?_ | refine Sim.seq ?_ | refine Sim.region ?_ | refine Sim.block ?_ | refine Sim.skip ?_ | refine Sim.inBlock ?_ | refine Sim.exit rfl ?_ | refine Sim.condT rfl ?_ | refine Sim.condF rfl ?_)
    exact Sim.ret1 Try.func78 rfl rfl ⟨rfl, hu⟩
  have hx : p.homes[i]? = some p.homes[i] := List.getElem?_eq_getElem hlt
  obtain ⟨b, o, cs, rfl, _, hat, rfl, _⟩ := hh.at hx
  have hat : At w b (o + i * 3) _ := hat
  have hmem := List.mem_of_getElem? hx
  obtain ⟨h0, s, hs⟩ := hok _ hmem
  generalize p.homes[i] = h at *
  repeat (first | refine RL.vv ?_ | refine RL.p ?_ | refine RL.nil ?_ | refine Sim.seq ?_ | refine Sim.region ?_ | refine Sim.block ?_ | refine Sim.skip ?_ | refine Sim.inBlock ?_ | refine Sim.exit rfl ?_ | refine Sim.condT rfl ?_ | refine Sim.condF rfl ?_)
  refine RL.cx (mfind_any h k w1 (hw.up hu) (hl.up hu) (hat.up hu) h0 hs) ?_
  rintro _ w2 ⟨v3, rfl, h12, hx3⟩
  refine ⟨_, rfl, ?_⟩
  have hu := hu.trans h12
  by_cases hk : thingAt s.things h.type k < 0
  · have e : thingAt s.things h.type k = -1 := thingAt_neg' hk
    rw [e, ptrAt_neg]
    repeat (first | refine RL.vv ?_ | refine RL.p ?_ | refine RL.nil ?_ | refine Sim.seq ?_ | refine Sim.region ?_ | refine Sim.block ?_ | refine Sim.skip ?_ | refine Sim.inBlock ?_ | refine Sim.exit rfl ?_ | refine Sim.condT rfl ?_ | refine Sim.condF rfl ?_)
    refine next (i + 1) _ _ ⟨by omega, hu, fun j h' hj hj' => ?_⟩ (by omega) sb
    by_cases hji : j = i
    · subst hji
      rw [hx] at hj'
      cases hj'
      rw [findW_at hs]
      exact thingM_no hk
    · exact hno j h' (by omega) hj'
  · obtain ⟨j, x, hj, hxj⟩ := thingAt_get hk
    obtain ⟨xa, xc, rfl, _⟩ := id hx3
    obtain ⟨tb, to, cs, rfl, _⟩ := hx3.at hxj
    rw [hj, ptrAt_nat]
    have ht : thereM l p k = true := by
      unfold thereM
      rw [List.any_eq_true]
      refine ⟨h, hmem, ?_⟩
      rw [findW_at hs, thingM_some hj hxj]
      rfl
    rw [ht]
    repeat (first | refine RL.vv ?_ | refine RL.p ?_ | refine RL.nil ?_ | refine Sim.seq ?_ | refine Sim.region ?_ | refine Sim.block ?_ | refine Sim.skip ?_ | refine Sim.inBlock ?_ | refine Sim.exit rfl ?_ | refine Sim.condT rfl ?_ | refine Sim.condF rfl ?_)
    exact Sim.ret1 Try.func78 rfl rfl ⟨rfl, hu⟩
set_option maxHeartbeats 400000 in
theorem IndexFunc_Val {g : FuncId} [Fun Try.prog g] {caps : Array Value} {sv : Value} {n : Nat} {cells : Nat → List Value} {p : Nat → Bool} {w : World} (hs : Elems 3 w sv n cells)
    (hp : ∀ i, i < n → ∀ w', Up w w' → Calls Try.prog g (#[.agg (cells i).toArray] ++ caps) w' fun en w'' => en = .returned (.bool (p i)) ∧ Up w' w'') :
    Calls Try.prog 142 #[sv, .func (.func g) #[] caps] w fun en w' => en = .returned (.int .i64 (idx p n)) ∧ Up w w' := by
  obtain ⟨a, c, rfl, hnc, hcm, hel⟩ := hs
  unfold maxLen at hcm
  refine calls_of_sim Try.func142 rfl (Nat.le_of_ble_eq_true rfl) ?_
  repeat (first | refine RL.vv ?_ | refine RL.p ?_ | refine RL.nil ?_ | refine Sim.seq ?_ | refine Sim.region ?_ | refine Sim.block ?_ | refine Sim.skip ?_ | refine Sim.inBlock ?_ | refine Sim.exit rfl ?_ | refine Sim.condT rfl ?_ | refine Sim.condF rfl ?_)
  refine Sim.loop (σ := Nat) (fun i => [(0, .slice a n c), (1, .func (.func g) #[] caps), (6, .slice a n c), (7, .int .i64 (n : Int)), (8, .int .i64 (i : Int))]) (fun i w' => i ≤ n ∧ Up w w' ∧ ∀ j, j < i → p j = false) (fun i => n - i) 0 sb ⟨Nat.zero_le _, Up.refl _, fun j hj => absurd hj (Nat.not_lt_zero _)⟩ ?_
  rintro i w1 ⟨hi, hu, hno⟩ next
  by_cases hlt : i < n
  · obtain ⟨b, o, rfl, hc⟩ := hel (by omega)
    obtain ⟨hk, hcell⟩ := hc i hlt
    have hcell := hcell.up hu
    repeat (first | refine RL.vv ?_ | refine RL.p ?_ | refine RL.nil ?_ | refine Sim.seq ?_ | refine Sim.region ?_ | refine Sim.block ?_ | refine Sim.skip ?_ | refine Sim.inBlock ?_ | refine Sim.exit rfl ?_ | refine Sim.condT rfl ?_ | refine Sim.condF rfl ?_)
    refine RL.call trivial rfl (c_closure rfl rfl) (hp i hlt w1 hu) ?_
    rintro _ w2 ⟨rfl, hu2⟩
    refine ⟨_, rfl, ?_⟩
    refine RL.nil ?_
    refine Sim.cond rfl (fun ht => ?_) (fun hf => ?_)
    · repeat (first | refine RL.vv ?_ | refine RL.p ?_ | refine RL.nil ?_ | refine Sim.seq ?_ | refine Sim.region ?_ | refine Sim.block ?_ | refine Sim.skip ?_ | refine Sim.inBlock ?_ | refine Sim.exit rfl ?_ | refine Sim.condT rfl ?_ | refine Sim.condF rfl ?_)
      exact Sim.ret1 Try.func142 rfl rfl ⟨by rw [idx_hit hlt ht hno], hu.trans hu2⟩
    · repeat (first | refine RL.vv ?_ | refine RL.p ?_ | refine RL.nil ?_ | refine Sim.seq ?_ | refine Sim.region ?_ | refine Sim.block ?_ | refine Sim.skip ?_ | refine Sim.inBlock ?_ | refine Sim.exit rfl ?_ | refine Sim.condT rfl ?_ | refine Sim.condF rfl ?_)
      refine next (i + 1) w2 _ ⟨by omega, hu.trans hu2, fun j hj => ?_⟩ (by omega) sb
      by_cases hji : j = i
      · subst hji; exact hf
      · exact hno j (by omega)
  · repeat (first | refine RL.vv ?_ | refine RL.p ?_ | refine RL.nil ?_ | refine Sim.seq ?_ | refine Sim.region ?_ | refine Sim.block ?_ | refine Sim.skip ?_ | refine Sim.inBlock ?_ | refine Sim.exit rfl ?_ | refine Sim.condT rfl ?_ | refine Sim.condF rfl ?_)
    exact Sim.ret1 Try.func142 rfl rfl ⟨by rw [idx_miss (fun j hj => hno j (by omega))], hu⟩
set_option maxHeartbeats 400000 in
theorem val1_any (f t : Str) (kv : Value) (o : Ownr) (b ob oo : Nat) (w : World) (hb : At w b 0 [.pointer (some ⟨ob, oo, none⟩)]) (ho : At w ob oo [.int .i64 o.service, .string o.type, .string o.field]) :
    Calls Try.prog 143 #[.agg #[.string f, .string t, kv], .pointer (some ⟨b, 0, none⟩)] w fun en w' => en = .returned (.bool (decide (f = o.field))) ∧ Up w w' := by
  refine calls_of_sim Try.func143 rfl (Nat.le_of_ble_eq_true rfl) ?_
  repeat (first | refine RL.vv ?_ | refine RL.p ?_ | refine RL.nil ?_ | refine Sim.seq ?_ | refine Sim.region ?_ | refine Sim.block ?_ | refine Sim.skip ?_ | refine Sim.inBlock ?_ | refine Sim.exit rfl ?_ | refine Sim.condT rfl ?_ | refine Sim.condF rfl ?_)
  refine RL.bx (.refl w) fun b3 w1 hb3 _ hu _ hbx => ?_
  have ha := hbx.at
  repeat (first | refine RL.vv ?_ | refine RL.p ?_ | refine RL.nil ?_ | refine Sim.seq ?_ | refine Sim.region ?_ | refine Sim.block ?_ | refine Sim.skip ?_ | refine Sim.inBlock ?_ | refine Sim.exit rfl ?_ | refine Sim.condT rfl ?_ | refine Sim.condF rfl ?_)
  refine Sim.q ?_
  repeat (first | refine RQ.vv ?_ | refine RQ.p ?_)
  refine RQ.nil fun w2 hq => ?_
  repeat (first | refine RL.vv ?_ | refine RL.p ?_ | refine RL.nil ?_ | refine Sim.seq ?_ | refine Sim.region ?_ | refine Sim.block ?_ | refine Sim.skip ?_ | refine Sim.inBlock ?_ | refine Sim.exit rfl ?_ | refine Sim.condT rfl ?_ | refine Sim.condF rfl ?_)
  exact Sim.ret1 Try.func143 rfl rfl ⟨rfl, hu.trans hq⟩
/-- a field's value as it is handed back: all of it empty where there is none -/
def valV (v : Option VVal) (kv : Value) : List Value := match v with
  | some v => [.string v.field, .string v.text, kv]
  | none => [.string ⟨#[]⟩, .string ⟨#[]⟩, .slice none 0 0]
set_option maxHeartbeats 1000000 in
theorem val_any {S S2 : Nat → Prop} {wb pb po f : Nat} {lv pv fv ov hv : Value} {l : List Svc} {o : Ownr} {s : Svc} (p : Prt) (k : Str) (w : World) (hw : At w wb 0 [lv, pv]) (hl : SliceOf svcLay S w lv l) (hp : At w pb po [.string p.type.name, fv, ov, hv]) (hov : SliceOf ownLay S2 w ov p.owners) (hf : p.owners[f]? = some o) (h0 : 0 ≤ o.service) (hs : l[o.service.toNat]? = some s)
    (hex : ∀ x, findW l o k = some x → ∃ v ∈ x.vals, v.field = o.field) :
    Calls Try.prog 137 #[.pointer (some ⟨wb, 0, none⟩), .pointer (some ⟨pb, po, none⟩), .int .i64 (f : Int), .string k] w fun en w' => ∃ kv, en = .returned (.tuple #[.agg (valV (valM l p f k) kv).toArray, .bool (valM l p f k).isSome]) ∧ Up w w' ∧ SliceOf strLay S w' kv (match valM l p f k with | some v => v.keys | none => []) := by
  refine calls_of_sim Try.func137 rfl (Nat.le_of_ble_eq_true rfl) ?_
  obtain ⟨oa, oc, rfl, _⟩ := id hov
  obtain ⟨ob, oo, cs, rfl, _, hoat, rfl, _⟩ := hov.at hf
  have hoat : At w ob (oo + f * 3) _ := hoat
  have hfl := (List.getElem?_eq_some_iff.1 hf).1
  have hvm : valM l p f k = match findW l o k with
    | some x => x.vals.find? fun v => decide (v.field = o.field)
    | none => none := by unfold valM; simp only [hf]; cases findW l o k <;> rfl
  repeat (first | refine RL.vv ?_ | refine RL.p ?_ | refine RL.nil ?_ | refine Sim.seq ?_ | refine Sim.region ?_ | refine Sim.block ?_ | refine Sim.skip ?_ | refine Sim.inBlock ?_ | refine Sim.exit rfl ?_ | refine Sim.condT rfl ?_ | refine Sim.condF rfl ?_)
  refine RL.al (.refl w) fun b8 w1 _ hle8 hu _ hb8 => ?_
  repeat (first | refine RL.vv ?_ | refine RL.p ?_ | refine RL.nil ?_ | refine Sim.seq ?_ | refine Sim.region ?_ | refine Sim.block ?_ | refine Sim.skip ?_ | refine Sim.inBlock ?_ | refine Sim.exit rfl ?_ | refine Sim.condT rfl ?_ | refine Sim.condF rfl ?_)
  refine RL.al hu fun b10 w2 he10 hle10 hu2 h12 hb10 => ?_
  have hne : b8 ≠ b10 := by have := hb8.lt; omega
  have hb8 := hb8.up h12
  refine RL.st hu2 hb10 hle10 fun w3 hu hbt hb10 => ?_
  have hb8 : Box w3 b8 _ [.string ⟨#[]⟩, .string ⟨#[]⟩, .slice none 0 0] := hb8.but hbt hne
  have hb10 : Box w3 b10 _ [.pointer (some ⟨ob, oo + f * 3, none⟩)] := hb10
  have ha10 := hb10.at
  clear h12 hbt hu2
  repeat (first | refine RL.vv ?_ | refine RL.p ?_ | refine RL.nil ?_ | refine Sim.seq ?_ | refine Sim.region ?_ | refine Sim.block ?_ | refine Sim.skip ?_ | refine Sim.inBlock ?_ | refine Sim.exit rfl ?_ | refine Sim.condT rfl ?_ | refine Sim.condF rfl ?_)
  refine RL.cx (mfind_any o k w3 (hw.up hu) (hl.old.up hu) (hoat.up hu) h0 hs) ?_
  rintro _ w4 ⟨v3, rfl, h34, hx3⟩
  refine ⟨_, rfl, ?_⟩
  have hu := hu.trans h34
  have hb8 := hb8.up h34
  have ha10 := ha10.up h34
  by_cases hk : thingAt s.things o.type k < 0
  · have e : thingAt s.things o.type k = -1 := thingAt_neg' hk
    have hno : valM l p f k = none := by rw [hvm, findW_at hs, thingM_no hk]
    rw [e, ptrAt_neg, hno]
    repeat (first | refine RL.vv ?_ | refine RL.p ?_ | refine RL.nil ?_ | refine Sim.seq ?_ | refine Sim.region ?_ | refine Sim.block ?_ | refine Sim.skip ?_ | refine Sim.inBlock ?_ | refine Sim.exit rfl ?_ | refine Sim.condT rfl ?_ | refine Sim.condF rfl ?_)
    refine RL.val trivial rfl (y_build (v := .agg #[.string ⟨#[]⟩, .string ⟨#[]⟩, .slice none 0 0]) rfl (fun w => by kernel_rfl)) ?_
    refine RL.st hu hb8 hle8 fun w5 hu5 _ hb8 => ?_
    repeat (first | refine RL.vv ?_ | refine RL.p ?_ | refine RL.nil ?_ | refine Sim.seq ?_ | refine Sim.region ?_ | refine Sim.block ?_ | refine Sim.skip ?_ | refine Sim.inBlock ?_ | refine Sim.exit rfl ?_ | refine Sim.condT rfl ?_ | refine Sim.condF rfl ?_)
    exact Sim.retCT (cs := [.string ⟨#[]⟩, .string ⟨#[]⟩, .slice none 0 0]) Try.func137 rfl rfl rfl hb8.at rfl ⟨.slice none 0 0, rfl, hu5, SliceOf.nil _ _ _⟩
  obtain ⟨j, x, hj, hxj⟩ := thingAt_get hk
  have hfw : findW l o k = some x := by rw [findW_at hs, thingM_some hj hxj]
  rw [hfw] at hvm
  simp only at hvm
  obtain ⟨xa, xc, rfl, _⟩ := id hx3
  obtain ⟨tb, to, cs, rfl, _, htat, ⟨vv, rfl, hvv⟩, _⟩ := hx3.at hxj
  have htat : At w4 tb (to + j * 3) _ := htat
  rw [hj, ptrAt_nat]
  obtain ⟨va, vc, rfl, hvnc, hvcm, _⟩ := id hvv
  unfold maxLen at hvcm
  obtain ⟨v0, hv0, hv0f⟩ := hex x hfw
  obtain ⟨m, v, hm, hvm2, hvf⟩ : ∃ (m : Nat) (v : VVal), (firstIdx x.vals fun v => decide (v.field = o.field)) = (m : Int) ∧ x.vals[m]? = some v ∧ x.vals.find? (fun v => decide (v.field = o.field)) = some v := by
    have h1 : 0 ≤ firstIdx x.vals fun v => decide (v.field = o.field) := firstIdx_nonneg_iff.2 (List.any_eq_true.2 ⟨v0, hv0, decide_eq_true hv0f⟩)
    unfold firstIdx at h1 ⊢
    cases hf : x.vals.findIdx? fun v => decide (v.field = o.field) with
    | none => rw [hf] at h1; simp at h1
    | some i =>
      obtain ⟨hlt, hp, hno⟩ := List.findIdx?_eq_some_iff_getElem.1 hf
      refine ⟨i, x.vals[i], rfl, List.getElem?_eq_getElem hlt, ?_⟩
      rw [List.find?_eq_some_iff_getElem]
      exact ⟨hp, i, hlt, rfl, fun j hj => by have := hno j hj; simpa using this⟩
  rw [hvf] at hvm
  rw [hvm]
  obtain ⟨cells, hel2, his⟩ := hvv.elems
  repeat (first | refine RL.vv ?_ | refine RL.p ?_ | refine RL.nil ?_ | refine Sim.seq ?_ | refine Sim.region ?_ | refine Sim.block ?_ | refine Sim.skip ?_ | refine Sim.inBlock ?_ | refine Sim.exit rfl ?_ | refine Sim.condT rfl ?_ | refine Sim.condF rfl ?_)
  refine RL.cu hu (IndexFunc_Val (g := 143) (caps := #[.pointer (some ⟨b10, 0, none⟩)]) (p := fun i => match x.vals[i]? with | some y => decide (y.field = o.field) | none => false) hel2 ?_) fun w5 hu5 h45 => ?_
  · intro i hi w6 hu6
    obtain ⟨v1, hcs, _⟩ := his i x.vals[i] (List.getElem?_eq_getElem hi)
    rw [hcs]
    refine (val1_any _ _ v1 o b10 ob (oo + f * 3) w6 (ha10.up hu6) ((hoat.up hu).up hu6)).mono ?_
    rintro _ w7 ⟨rfl, hu7⟩
    exact ⟨by simp [List.getElem?_eq_getElem hi], hu7⟩
  rw [idx_firstIdx x.vals (fun y => decide (y.field = o.field)) _ (fun i x hx => by simp only [hx]), hm]
  have htat := htat.up h45
  have hb8 := hb8.up h45
  obtain ⟨vb, vo, cs, rfl, _, hvat, ⟨kv, rfl, hkv⟩, hml⟩ := (hvv.up h45).at hvm2
  have hvat : At w5 vb (vo + m * 3) _ := hvat
  obtain ⟨ka, kc, rfl, _⟩ := id hkv
  repeat (first | refine RL.vv ?_ | refine RL.p ?_ | refine RL.nil ?_ | refine Sim.seq ?_ | refine Sim.region ?_ | refine Sim.block ?_ | refine Sim.skip ?_ | refine Sim.inBlock ?_ | refine Sim.exit rfl ?_ | refine Sim.condT rfl ?_ | refine Sim.condF rfl ?_)
  refine RL.st hu5 hb8 hle8 fun w6 hu6 hbt hb8 => ?_
  have hb8 : Box w6 b8 _ [.string v.field, .string v.text, .slice ka v.keys.length kc] := hb8
  repeat (first | refine RL.vv ?_ | refine RL.p ?_ | refine RL.nil ?_ | refine Sim.seq ?_ | refine Sim.region ?_ | refine Sim.block ?_ | refine Sim.skip ?_ | refine Sim.inBlock ?_ | refine Sim.exit rfl ?_ | refine Sim.condT rfl ?_ | refine Sim.condF rfl ?_)
  refine Sim.retCT (cs := [.string v.field, .string v.text, .slice ka v.keys.length kc]) Try.func137 rfl rfl rfl hb8.at rfl ⟨.slice ka v.keys.length kc, rfl, hu6, ?_⟩
  exact (hkv.bt hbt (fun k hk => by have := hk.2; omega)).mono fun k hk => hk.1
end Go.Proofs.Ytgckpmcdlciibab

namespace Go.Proofs.Ytgckpmcdlciibab
open Go.RowKit
def Gt.name : Gt → Str | .mk a _ _ _ _ _ => a
def Gt.kind : Gt → Int | .mk _ a _ _ _ _ => a
def Gt.null : Gt → Bool | .mk _ _ a _ _ _ => a
def Gt.text : Gt → Str | .mk _ _ _ a _ _ => a
def Gt.sub : Gt → List Gt | .mk _ _ _ _ a _ => a
def Gt.subs : Gt → List (List Gt) | .mk _ _ _ _ _ a => a
/-- a slice value whose elements are so -/
def SlIs {α : Type} (k : Nat) (is : (Nat → Prop) → World → List Value → α → Prop) (S : Nat → Prop) (w : World) (v : Value) (xs : List α) : Prop :=
  ∃ a c, v = .slice a xs.length c ∧ xs.length ≤ c ∧ c ≤ maxLen ∧ (0 < xs.length → ∃ b o, a = some ⟨b, o, none⟩ ∧ S b ∧ ∀ (i : Nat) x, xs[i]? = some x → ∃ cs, At w b (o + i * k) cs ∧ is S w cs x)
section
variable {α : Type} {k : Nat} {is is' : (Nat → Prop) → World → List Value → α → Prop} {S S' : Nat → Prop} {w w' : World} {v : Value} {xs : List α}
theorem SlIs.keep (h : SlIs k is S w v xs) (hk : Keep S w w') (hi : ∀ {cs x}, is S w cs x → is S w' cs x) : SlIs k is S w' v xs := by
  obtain ⟨a, c, rfl, h1, h2, h3⟩ := h
  refine ⟨a, c, rfl, h1, h2, fun hp => ?_⟩
  obtain ⟨b, o, rfl, hb, he⟩ := h3 hp
  exact ⟨b, o, rfl, hb, fun i x hx => by obtain ⟨cs, hc, h4⟩ := he i x hx; exact ⟨cs, hc.keep hk hb, hi h4⟩⟩
theorem SlIs.mono (h : SlIs k is S w v xs) (hS : ∀ b, S b → S' b) (hi : ∀ {cs x}, is S w cs x → is' S' w cs x) : SlIs k is' S' w v xs := by
  obtain ⟨a, c, rfl, h1, h2, h3⟩ := h
  refine ⟨a, c, rfl, h1, h2, fun hp => ?_⟩
  obtain ⟨b, o, rfl, hb, he⟩ := h3 hp
  exact ⟨b, o, rfl, hS b hb, fun i x hx => by obtain ⟨cs, hc, h4⟩ := he i x hx; exact ⟨cs, hc, hi h4⟩⟩
theorem SlIs.old (hk : 0 < k) (hl : ∀ {cs x}, is S w cs x → cs.length = k) (h : SlIs k is S w v xs) (hi : ∀ {cs x}, is S w cs x → is (fun b => S b ∧ b < w.heap.size) w cs x) : SlIs k is (fun b => S b ∧ b < w.heap.size) w v xs := by
  obtain ⟨a, c, rfl, h1, h2, h3⟩ := h
  refine ⟨a, c, rfl, h1, h2, fun hp => ?_⟩
  obtain ⟨b, o, rfl, hb, he⟩ := h3 hp
  obtain ⟨cs, hc, h4⟩ := he 0 xs[0] (List.getElem?_eq_getElem hp)
  have hlt : b < w.heap.size := by
    have := hl h4
    match cs, this with
    | c0 :: _, _ => exact hc.lt
    | [], h5 => simp at h5; omega
  exact ⟨b, o, rfl, ⟨hb, hlt⟩, fun i x hx => by obtain ⟨cs, hc, h4⟩ := he i x hx; exact ⟨cs, hc, hi h4⟩⟩
end
/-- a list in a cell -/
def cellIs (is : (Nat → Prop) → World → List Value → Gt → Prop) (S : Nat → Prop) (w : World) (cs : List Value) (xs : List Gt) : Prop := ∃ v, cs = [v] ∧ SlIs 6 is S w v xs
/-- n levels of what is got -/
def gtIs : Nat → (Nat → Prop) → World → List Value → Gt → Prop
  | 0, _, _, _, _ => False
  | n + 1, S, w, cs, g => ∃ v1 v2, cs = [.string g.name, .int .i64 g.kind, .bool g.null, .string g.text, v1, v2] ∧ SlIs 6 (gtIs n) S w v1 g.sub ∧ SlIs 1 (cellIs (gtIs n)) S w v2 g.subs
theorem gtIs_len {n : Nat} {S : Nat → Prop} {w : World} {cs : List Value} {g : Gt} (h : gtIs n S w cs g) : cs.length = 6 := by
  cases n with
  | zero => exact h.elim
  | succ n => obtain ⟨v1, v2, rfl, _⟩ := h; rfl
theorem gtIs_keep : ∀ {n : Nat} {S : Nat → Prop} {w w' : World} {cs : List Value} {g : Gt}, gtIs n S w cs g → Keep S w w' → gtIs n S w' cs g
  | 0, _, _, _, _, _, h, _ => h.elim
  | _ + 1, _, _, _, _, _, ⟨v1, v2, h, h1, h2⟩, hk => ⟨v1, v2, h, h1.keep hk fun h => gtIs_keep h hk, h2.keep hk fun ⟨v, h3, h4⟩ => ⟨v, h3, h4.keep hk fun h => gtIs_keep h hk⟩⟩
theorem gtIs_mono : ∀ {n : Nat} {S S' : Nat → Prop} {w : World} {cs : List Value} {g : Gt}, gtIs n S w cs g → (∀ b, S b → S' b) → gtIs n S' w cs g
  | 0, _, _, _, _, _, h, _ => h.elim
  | _ + 1, _, _, _, _, _, ⟨v1, v2, h, h1, h2⟩, hk => ⟨v1, v2, h, h1.mono hk fun h => gtIs_mono h hk, h2.mono hk fun ⟨v, h3, h4⟩ => ⟨v, h3, h4.mono hk fun h => gtIs_mono h hk⟩⟩
theorem gtIs_old : ∀ {n : Nat} {S : Nat → Prop} {w : World} {cs : List Value} {g : Gt}, gtIs n S w cs g → gtIs n (fun b => S b ∧ b < w.heap.size) w cs g
  | 0, _, _, _, _, h => h.elim
  | _ + 1, _, _, _, _, ⟨v1, v2, h, h1, h2⟩ => ⟨v1, v2, h, h1.old (by decide) gtIs_len fun h => gtIs_old h, h2.old (by decide) (by rintro _ _ ⟨v, rfl, _⟩; rfl) fun ⟨v, h3, h4⟩ => ⟨v, h3, h4.old (by decide) gtIs_len fun h => gtIs_old h⟩⟩
def gtLay (n : Nat) : Lay Gt where
  k := 6
  pos := by decide
  is := gtIs n
  len := gtIs_len
  keep := gtIs_keep
  mono := gtIs_mono
  old := gtIs_old
theorem gt_succ {n : Nat} {S : Nat → Prop} {w : World} {cs : List Value} {g : Gt} : (gtLay (n + 1)).is S w cs g ↔ ∃ v1 v2, cs = [.string g.name, .int .i64 g.kind, .bool g.null, .string g.text, v1, v2] ∧ SliceOf (gtLay n) S w v1 g.sub ∧ SliceOf (gtLay n).slice S w v2 g.subs := Iff.rfl
instance (n : Nat) : OneC (gtLay n) := ⟨by
  rintro S w cs x h c hc
  cases n with
  | zero => exact h.elim
  | succ n =>
    obtain ⟨v1, v2, rfl, ⟨a, c1, rfl, _⟩, ⟨b, c2, rfl, _⟩⟩ := h
    simp only [List.mem_cons, List.not_mem_nil, or_false] at hc
    rcases hc with rfl | rfl | rfl | rfl | rfl | rfl <;> rfl⟩
end Go.Proofs.Ytgckpmcdlciibab
