/- Several texts in one: The document's chapter 3, walked: what is wrong with services. The document's chapter 3, walked: the schema of all services. -/
import Derived.Test.YtgckpmcdlciibacZ7
import Derived.Test.YtgckpmcdlciibacZD
import Derived.Test.YtgckpmcdlciibacZM
import Derived.Test.YtgckpmcdlciibacZF
import Derived.Test.YtgckpmcdlciibacZS
namespace Go.Proofs.Ytgckpmcdlciibac
open Go.RowKit
theorem okTs_svc {s : Svc} (h : okSvc s) : okTs s.types := fun t ht => ⟨(h.1.2 t ht).1, fun f hf => ((h.1.2 t ht).2.2 f hf).1⟩
theorem okCs_svc {s : Svc} (h : okSvc s) : ∀ c ∈ s.changes, c.to.size ≤ maxLen := fun c hc => (h.2.1.2 c hc).2.2
theorem okXs_svc {s : Svc} (h : okSvc s) : okXs s.things := fun x hx => ⟨(h.2.2.2 x hx).2.1, fun v hv k hk => ((h.2.2.2 x hx).2.2.2 v hv).2.2.2 k hk⟩
set_option maxHeartbeats 2000000 in
theorem RWrongS_any {S : Nat → Prop} {lv : Value} {l : List Svc} (w : World) (hl : SliceOf svcLay S w lv l) (hok : ∀ s ∈ l, okSvc s) :
    Calls Try.prog 75 #[lv] w fun en w' => en = .returned (fltV (wrongS l)) ∧ Up w w' := by
  refine calls_of_sim Try.func75 rfl (Nat.le_of_ble_eq_true rfl) ?_
  obtain ⟨la, lc, rfl, hlnc, hlcm, _⟩ := id hl
  unfold maxLen at hlcm
  unfold fltV
  repeat (first | refine RL.vv ?_ | refine RL.p ?_ | refine RL.nil ?_ | refine Sim.seq ?_ | refine Sim.region ?_ | refine Sim.block ?_ | refine Sim.skip ?_ | refine Sim.inBlock ?_ | refine Sim.exit rfl ?_ | refine Sim.condT rfl ?_ | refine Sim.condF rfl ?_)
  refine RL.al (.refl w) fun b2 w1 _ hle2 hu1 _ hb2 => ?_
  by_cases h5 : (5 : Int) < l.length
  · repeat (first | refine RL.vv ?_ | refine RL.p ?_ | refine RL.nil ?_ | refine Sim.seq ?_ | refine Sim.region ?_ | refine Sim.block ?_ | refine Sim.skip ?_ | refine Sim.inBlock ?_ | refine Sim.exit rfl ?_ | refine Sim.condT rfl ?_ | refine Sim.condF rfl ?_)
    refine RL.val trivial rfl (y_build (v := .agg #[.int .i64 4, .int .i64 0]) rfl (fun w => by kernel_rfl)) ?_
    refine RL.st hu1 hb2 hle2 fun w2 hu2 _ hb2 => ?_
    repeat (first | refine RL.vv ?_ | refine RL.p ?_ | refine RL.nil ?_ | refine Sim.seq ?_ | refine Sim.region ?_ | refine Sim.block ?_ | refine Sim.skip ?_ | refine Sim.inBlock ?_ | refine Sim.exit rfl ?_ | refine Sim.condT rfl ?_ | refine Sim.condF rfl ?_)
    exact Sim.retC Try.func75 rfl rfl hb2.at rfl ⟨by rw [wrongS, if_pos (by omega)]; rfl, hu2⟩
  have hwr : wrongS l = _ := if_neg (by omega)
  repeat (first | refine RL.vv ?_ | refine RL.p ?_ | refine RL.nil ?_ | refine Sim.seq ?_ | refine Sim.region ?_ | refine Sim.block ?_ | refine Sim.skip ?_ | refine Sim.inBlock ?_ | refine Sim.exit rfl ?_ | refine Sim.condT rfl ?_ | refine Sim.condF rfl ?_)
  refine Sim.loop (σ := Nat) (fun i => [(0, .slice la l.length lc), (2, .pointer (some ⟨b2, 0, none⟩)), (12, .slice la l.length lc), (13, .int .i64 (l.length : Int)), (14, .int .i64 (i : Int))])
    (fun i w' => i ≤ l.length ∧ Up w w' ∧ Box w' b2 35 [.int .i64 0, .int .i64 0] ∧ ∀ (j : Nat) s, j < i → l[j]? = some s → svcErr s = 0) (fun i => l.length - i) 0 sb ⟨Nat.zero_le _, hu1, hb2, fun j s hj => absurd hj (Nat.not_lt_zero _)⟩ ?_
  clear hu1 hb2
  rintro i w2 ⟨hi, hu, hb2, hno⟩ next
  by_cases hlt : i < l.length
  rotate_left
  · repeat (first | refine RL.vv ?_ | refine RL.p ?_ | refine RL.nil ?_ | refine Sim.seq ?_ | refine Sim.region ?_ | refine Sim.block ?_ | refine Sim.skip ?_ | refine Sim.inBlock ?_ | refine Sim.exit rfl ?_ | refine Sim.condT rfl ?_ | refine Sim.condF rfl ?_)
    refine RL.val trivial rfl (y_build (v := .agg #[.int .i64 0, .int .i64 0]) rfl (fun w => by kernel_rfl)) ?_
    refine RL.st hu hb2 hle2 fun w3 hu3 _ hb2 => ?_
    repeat (first | refine RL.vv ?_ | refine RL.p ?_ | refine RL.nil ?_ | refine Sim.seq ?_ | refine Sim.region ?_ | refine Sim.block ?_ | refine Sim.skip ?_ | refine Sim.inBlock ?_ | refine Sim.exit rfl ?_ | refine Sim.condT rfl ?_ | refine Sim.condF rfl ?_)
    exact Sim.retC Try.func75 rfl rfl hb2.at rfl ⟨by rw [hwr, firstBad_none fun j s hj => hno j s (by have := (List.getElem?_eq_some_iff.1 hj).1; omega) hj]; rfl, hu3⟩
  have hx : l[i]? = some l[i] := List.getElem?_eq_getElem hlt
  obtain ⟨vb, vo, cs, rfl, _, hat, ⟨v1, v2, v3, rfl, hv1, hv2, hv3⟩, _⟩ := hl.at hx
  have hat : At w vb (vo + i * 3) _ := hat
  have bad : ∀ e, svcErr l[i] = e → e ≠ 0 → wrongS l = ⟨e, i⟩ := fun e he h => by rw [hwr, firstBad_hit (g := fun _ s => svcErr s) hx hno (by simp only [he]; exact h)]; simp only [he]
  have good := goodTo (g := fun _ s => svcErr s) hx hno
  have hoks := hok l[i] (List.getElem_mem hlt)
  unfold svcErr at bad good
  generalize l[i] = s at *
  obtain ⟨a1, c1, rfl, _⟩ := id hv1
  obtain ⟨a2, c2, rfl, _⟩ := id hv2
  obtain ⟨a3, c3, rfl, _⟩ := id hv3
  obtain ⟨hst, _⟩ := see_traced s.types s.changes
  repeat (first | refine RL.vv ?_ | refine RL.p ?_ | refine RL.nil ?_ | refine Sim.seq ?_ | refine Sim.region ?_ | refine Sim.block ?_ | refine Sim.skip ?_ | refine Sim.inBlock ?_ | refine Sim.exit rfl ?_ | refine Sim.condT rfl ?_ | refine Sim.condF rfl ?_)
  refine RL.al (.refl w2) fun b4 w3 _ hle4 h23 _ hb4 => ?_
  repeat (first | refine RL.vv ?_ | refine RL.p ?_ | refine RL.nil ?_ | refine Sim.seq ?_ | refine Sim.region ?_ | refine Sim.block ?_ | refine Sim.skip ?_ | refine Sim.inBlock ?_ | refine Sim.exit rfl ?_ | refine Sim.condT rfl ?_ | refine Sim.condF rfl ?_)
  refine RL.st h23 hb4 hle4 fun w4 h24 _ hb4 => ?_
  have hb4 : Box w4 b4 _ [.slice a1 s.types.length c1, .slice a2 s.changes.length c2, .slice a3 s.things.length c3] := hb4
  have hu := hu.trans h24
  have hb2 := hb2.up h24
  have ha4 := hb4.at
  clear h23 h24
  repeat (first | refine RL.vv ?_ | refine RL.p ?_ | refine RL.nil ?_ | refine Sim.seq ?_ | refine Sim.region ?_ | refine Sim.block ?_ | refine Sim.skip ?_ | refine Sim.inBlock ?_ | refine Sim.exit rfl ?_ | refine Sim.condT rfl ?_ | refine Sim.condF rfl ?_)
  refine RL.cx (RSee_any w4 (hv1.up hu) (hv2.up hu) (okTs_svc hoks) (okCs_svc hoks)) ?_
  rintro _ w5 ⟨vo', vc', vf', rfl, h45, hrs⟩
  refine ⟨_, rfl, ?_⟩
  rw [← hst]
  unfold fltV
  have hu := hu.trans h45
  have hb2 := hb2.up h45
  have hb4 := hb4.up h45
  obtain ⟨xa, xc, rfl, _⟩ := id hrs.o
  obtain ⟨ya, yc, rfl, _⟩ := id hrs.c
  obtain ⟨za, zc, rfl, _⟩ := id hrs.f
  clear hrs h45 ha4
  repeat (first | refine RL.vv ?_ | refine RL.p ?_ | refine RL.nil ?_ | refine Sim.seq ?_ | refine Sim.region ?_ | refine Sim.block ?_ | refine Sim.skip ?_ | refine Sim.inBlock ?_ | refine Sim.exit rfl ?_ | refine Sim.condT rfl ?_ | refine Sim.condF rfl ?_)
  refine RL.al (.refl w5) fun b5 w6 he5 hle5 h56 _ hb5 => ?_
  refine RL.al h56 fun b6 w7 he6 hle6 h57 h67 hb6 => ?_
  have hn56 : b5 ≠ b6 := by have := hb5.lt; omega
  refine RL.st h57 (hb5.up h67) hle5 fun w8 h58 hbt8 hb5 => ?_
  refine RL.st h58 (hb6.but hbt8 hn56.symm) hle6 fun w9 h59 hbt9 hb6 => ?_
  have hb6 : Box w9 b6 35 [.int .i64 (seeM s.types s.changes).2.err, .int .i64 (seeM s.types s.changes).2.at_] := hb6
  have hu := hu.trans h59
  have hne : b2 ≠ b6 := by have := hb2.lt; omega
  have hw6 : w.heap.size ≤ b6 := Nat.le_trans hle2 (by have := hb2.lt; omega)
  have hb2 := hb2.up h59
  have ha4 := hb4.at.up h59
  have ha6 := hb6.at
  clear h56 h57 h58 h59 h67 hbt8 hbt9 hb4 hb5
  by_cases he : (seeM s.types s.changes).2.err = 0
  · rw [if_pos he] at bad good
    have he' : ¬ ¬ (seeM s.types s.changes).2.err = 0 := fun h => h he
    repeat (first | refine RL.vv ?_ | refine RL.p ?_ | refine RL.nil ?_ | refine Sim.seq ?_ | refine Sim.region ?_ | refine Sim.block ?_ | refine Sim.skip ?_ | refine Sim.inBlock ?_ | refine Sim.exit rfl ?_ | refine Sim.condT rfl ?_ | refine Sim.condF rfl ?_)
    refine RL.cu hu (RWrongThings_any w9 (hv1.up hu) (hv3.up hu) (okXs_svc hoks)) fun w10 hu10 h910 => ?_
    unfold fltV
    have hb2 := hb2.up h910
    refine RL.al hu10 fun b7 w11 he7 hle7 hu11 h1011 hb7 => ?_
    have hn27 : b2 ≠ b7 := by have := hb2.lt; omega
    refine RL.st hu11 hb7 hle7 fun w12 hu12 hbt hb7 => ?_
    have hb7 : Box w12 b7 35 [.int .i64 (thgsErr s.types s.things).err, .int .i64 (thgsErr s.types s.things).at_] := hb7
    have hb2 := (hb2.up h1011).but hbt hn27
    have ha7 := hb7.at
    clear ha6
    by_cases ht : (thgsErr s.types s.things).err = 0
    · have ht' : ¬ ¬ (thgsErr s.types s.things).err = 0 := fun h => h ht
      repeat (first | refine RL.vv ?_ | refine RL.p ?_ | refine RL.nil ?_ | refine Sim.seq ?_ | refine Sim.region ?_ | refine Sim.block ?_ | refine Sim.skip ?_ | refine Sim.inBlock ?_ | refine Sim.exit rfl ?_ | refine Sim.condT rfl ?_ | refine Sim.condF rfl ?_)
      exact next (i + 1) _ _ ⟨by omega, hu12, hb2, good ht⟩ (by omega) sb
    · repeat (first | refine RL.vv ?_ | refine RL.p ?_ | refine RL.nil ?_ | refine Sim.seq ?_ | refine Sim.region ?_ | refine Sim.block ?_ | refine Sim.skip ?_ | refine Sim.inBlock ?_ | refine Sim.exit rfl ?_ | refine Sim.condT rfl ?_ | refine Sim.condF rfl ?_)
      refine RL.val trivial rfl (y_build (v := .agg #[.int .i64 (thgsErr s.types s.things).err, .int .i64 (i : Int)]) rfl (fun w => by kernel_rfl)) ?_
      refine RL.st hu12 hb2 hle2 fun w13 hu13 _ hb2 => ?_
      repeat (first | refine RL.vv ?_ | refine RL.p ?_ | refine RL.nil ?_ | refine Sim.seq ?_ | refine Sim.region ?_ | refine Sim.block ?_ | refine Sim.skip ?_ | refine Sim.inBlock ?_ | refine Sim.exit rfl ?_ | refine Sim.condT rfl ?_ | refine Sim.condF rfl ?_)
      exact Sim.retC Try.func75 rfl rfl hb2.at rfl ⟨by rw [bad _ rfl ht]; rfl, hu13⟩
  · rw [if_neg he] at bad
    repeat (first | refine RL.vv ?_ | refine RL.p ?_ | refine RL.nil ?_ | refine Sim.seq ?_ | refine Sim.region ?_ | refine Sim.block ?_ | refine Sim.skip ?_ | refine Sim.inBlock ?_ | refine Sim.exit rfl ?_ | refine Sim.condT rfl ?_ | refine Sim.condF rfl ?_)
    refine RL.val trivial rfl (y_build (v := .agg #[.int .i64 (seeM s.types s.changes).2.err, .int .i64 (i : Int)]) rfl (fun w => by kernel_rfl)) ?_
    refine RL.st hu hb2 hle2 fun w10 hu10 _ hb2 => ?_
    repeat (first | refine RL.vv ?_ | refine RL.p ?_ | refine RL.nil ?_ | refine Sim.seq ?_ | refine Sim.region ?_ | refine Sim.block ?_ | refine Sim.skip ?_ | refine Sim.inBlock ?_ | refine Sim.exit rfl ?_ | refine Sim.condT rfl ?_ | refine Sim.condF rfl ?_)
    exact Sim.retC Try.func75 rfl rfl hb2.at rfl ⟨by rw [bad _ rfl he]; rfl, hu10⟩
end Go.Proofs.Ytgckpmcdlciibac

namespace Go.Proofs.Ytgckpmcdlciibac
open Go.RowKit
set_option maxHeartbeats 8000000 in
theorem RAll_any {S : Nat → Prop} {lv : Value} {l : List Svc} (w : World) (hl : SliceOf svcLay S w lv l) (hok : ∀ s ∈ l, okSvc s) :
    Calls Try.prog 41 #[lv] w fun en w' => ∃ v, en = .returned (.tuple #[v, fltV (allM l).2]) ∧ Up w w' ∧ ∃ hds lab, PartsAt w.heap.size w' v hds (allM l).1 lab := by
  refine calls_of_sim Try.func41 rfl (Nat.le_of_ble_eq_true rfl) ?_
  obtain ⟨la, lc, rfl, hlnc, hlcm, _⟩ := id hl
  unfold maxLen at hlcm
  repeat (first | refine RL.vv ?_ | refine RL.p ?_ | refine RL.nil ?_ | refine Sim.seq ?_ | refine Sim.region ?_ | refine Sim.block ?_ | refine Sim.skip ?_ | refine Sim.inBlock ?_ | refine Sim.exit rfl ?_ | refine Sim.condT rfl ?_ | refine Sim.condF rfl ?_)
  refine RL.al (.refl w) fun b3 w1 _ hle3 hu1 _ hb3 => ?_
  repeat (first | refine RL.vv ?_ | refine RL.p ?_ | refine RL.nil ?_ | refine Sim.seq ?_ | refine Sim.region ?_ | refine Sim.block ?_ | refine Sim.skip ?_ | refine Sim.inBlock ?_ | refine Sim.exit rfl ?_ | refine Sim.condT rfl ?_ | refine Sim.condF rfl ?_)
  refine RL.cu hu1 (RWrongS_any w1 (hl.up hu1) hok) fun w2 hu h12 => ?_
  have hb3 := hb3.up h12
  clear hu1 h12
  refine RL.al hu fun b4 w3 he4 hle4 hu h23 hb4 => ?_
  have hl34 : b3 < b4 := by have := hb3.lt; omega
  have hb3 := hb3.up h23
  unfold fltV
  refine RL.st hu hb4 hle4 fun w4 hu hbt hb4 => ?_
  have hb4 : Box w4 b4 _ [.int .i64 (wrongS l).err, .int .i64 (wrongS l).at_] := hb4
  have hb3 : Box w4 b3 _ [.int .i64 0, .int .i64 0] := hb3.but hbt (by omega)
  clear h23 hbt he4
  have ha4 := hb4.at
  by_cases he : (wrongS l).err = 0
  rotate_left
  · have hall : allM l = ([], wrongS l) := if_neg he
    rw [hall]
    repeat (first | refine RL.vv ?_ | refine RL.p ?_ | refine RL.nil ?_ | refine Sim.seq ?_ | refine Sim.region ?_ | refine Sim.block ?_ | refine Sim.skip ?_ | refine Sim.inBlock ?_ | refine Sim.exit rfl ?_ | refine Sim.condT rfl ?_ | refine Sim.condF rfl ?_)
    have hS : Up w w4.drew ∧ At w4.drew b4 0 [.int .i64 (wrongS l).err, .int .i64 (wrongS l).at_] := ⟨hu.trans (Up.drew _), ha4.up (Up.drew _)⟩
    refine Sim.ord (fun wq => Up w wq ∧ At wq b4 0 [.int .i64 (wrongS l).err, .int .i64 (wrongS l).at_]) ?_
    refine RO.tk 0 ?_ (hy := fun wq hq => y_loadA rfl hq.2 rfl)
    refine RO.tk 1 ?_
    refine RO.one 2 ?_
    refine RL.st hS.1 (hb3.up (Up.drew _)) hle3 fun w5 hu5 hbt hb3 => ?_
    refine RL.ord ⟨hu5, (hb4.up (Up.drew _)).but hbt (by omega) |>.at⟩ ?_
    refine RO.done (RL.nil ?_)
    repeat (first | refine RL.vv ?_ | refine RL.p ?_ | refine RL.nil ?_ | refine Sim.seq ?_ | refine Sim.region ?_ | refine Sim.block ?_ | refine Sim.skip ?_ | refine Sim.inBlock ?_ | refine Sim.exit rfl ?_ | refine Sim.condT rfl ?_ | refine Sim.condF rfl ?_)
    exact Sim.retTC (cs := [.int .i64 (wrongS l).err, .int .i64 (wrongS l).at_]) Try.func41 rfl rfl rfl hb3.at rfl ⟨_, rfl, hu5, [], fun _ => none, PartsAt.nil _ _⟩
  have hall : allM l = allGo [] 0 l := if_pos he
  rw [hall]
  obtain ⟨hl5, hright⟩ := wrongS_iff.1 he
  have hlt3 := hb3.lt
  have hs4 := hu.size
  have he' : ¬ ¬ (wrongS l).err = 0 := fun h => h he
  repeat (first | refine RL.vv ?_ | refine RL.p ?_ | refine RL.nil ?_ | refine Sim.seq ?_ | refine Sim.region ?_ | refine Sim.block ?_ | refine Sim.skip ?_ | refine Sim.inBlock ?_ | refine Sim.exit rfl ?_ | refine Sim.condT rfl ?_ | refine Sim.condF rfl ?_)
  refine Sim.loop (σ := Nat × Value × List Ph × List Prt × Lab) (fun st => [(0, .slice la l.length lc), (3, .pointer (some ⟨b3, 0, none⟩)), (24, .slice la l.length lc), (25, .int .i64 (l.length : Int)), (26, .int .i64 (st.1 : Int)), (5, st.2.1)])
    (fun st w' => st.1 ≤ l.length ∧ Up w w' ∧ w4.heap.size ≤ w'.heap.size ∧ Box w' b3 35 [.int .i64 0, .int .i64 0] ∧ PartsAt w4.heap.size w' st.2.1 st.2.2.1 st.2.2.2.1 st.2.2.2.2 ∧ Sorted st.2.2.2.1 ∧ st.2.2.2.1.length ≤ 80 * st.1 ∧ (∀ p ∈ st.2.2.2.1, smallP (80 * st.1) p) ∧ allGo [] 0 l = allGo st.2.2.2.1 st.1 (l.drop st.1))
    (fun st => l.length - st.1) (0, .slice none 0 0, [], [], fun _ => none) sb ⟨Nat.zero_le _, hu, Nat.le_refl _, hb3, PartsAt.nil _ _, List.Pairwise.nil, by simp, fun p hp => by simp at hp, rfl⟩ ?_
  clear hu hb3 hb4 ha4
  generalize w4.heap.size = B at *
  rintro ⟨i, v, hds, ps, lab⟩ w5 ⟨hi, hu, hB5, hb3, hp, hso, hpl, hsm, heq⟩ next
  simp only at hi hp hso hpl hsm heq next ⊢
  by_cases hlt : i < l.length
  rotate_left
  · rw [List.drop_eq_nil_of_le (by omega)] at heq
    rw [heq]
    obtain ⟨va, vn, vc, rfl⟩ := hp.row.sh
    repeat (first | refine RL.vv ?_ | refine RL.p ?_ | refine RL.nil ?_ | refine Sim.seq ?_ | refine Sim.region ?_ | refine Sim.block ?_ | refine Sim.skip ?_ | refine Sim.inBlock ?_ | refine Sim.exit rfl ?_ | refine Sim.condT rfl ?_ | refine Sim.condF rfl ?_)
    refine RL.val trivial rfl (y_build (v := .agg #[.int .i64 0, .int .i64 0]) rfl (fun w => by kernel_rfl)) ?_
    repeat (first | refine RL.vv ?_ | refine RL.p ?_ | refine RL.nil ?_ | refine Sim.seq ?_ | refine Sim.region ?_ | refine Sim.block ?_ | refine Sim.skip ?_ | refine Sim.inBlock ?_ | refine Sim.exit rfl ?_ | refine Sim.condT rfl ?_ | refine Sim.condF rfl ?_)
    refine RL.st hu hb3 hle3 fun w6 hu6 hbt hb3 => ?_
    repeat (first | refine RL.vv ?_ | refine RL.p ?_ | refine RL.nil ?_ | refine Sim.seq ?_ | refine Sim.region ?_ | refine Sim.block ?_ | refine Sim.skip ?_ | refine Sim.inBlock ?_ | refine Sim.exit rfl ?_ | refine Sim.condT rfl ?_ | refine Sim.condF rfl ?_)
    exact Sim.retTC (cs := [.int .i64 0, .int .i64 0]) Try.func41 rfl rfl rfl hb3.at rfl ⟨_, rfl, hu6, hds, lab, (hp.bt hbt hlt3).lower hs4⟩
  have hx : l[i]? = some l[i] := List.getElem?_eq_getElem hlt
  rw [List.drop_eq_getElem_cons hlt, allGo_cons] at heq
  obtain ⟨vb, vo, cs, rfl, _, hat, ⟨v1, v2, v3, rfl, hv1, hv2, hv3⟩, _⟩ := hl.at hx
  have hat : At w vb (vo + i * 3) _ := hat
  have hrs := hright l[i] (List.mem_of_getElem? hx)
  have hoks := hok l[i] (List.getElem_mem hlt)
  generalize l[i] = s at *
  obtain ⟨a1, c1, rfl, _⟩ := id hv1
  obtain ⟨a2, c2, rfl, _⟩ := id hv2
  obtain ⟨a3, c3, rfl, _⟩ := id hv3
  obtain ⟨hst1, hst2⟩ := see_traced s.types s.changes
  obtain ⟨hst3, htr, hrT⟩ := hst2 (by rw [← hst1]; exact hrs.see)
  obtain ⟨hsr, hss⟩ := seeM_right hrs.see
  have h8 : (seeM s.types s.changes).1.length ≤ 8 := by have := hsr.len; rwa [List.length_map] at this
  have hp5 := hp.trim
  generalize hlab2 : (fun b => if b < w5.heap.size then lab b else none) = lab2 at hp5
  repeat (first | refine RL.vv ?_ | refine RL.p ?_ | refine RL.nil ?_ | refine Sim.seq ?_ | refine Sim.region ?_ | refine Sim.block ?_ | refine Sim.skip ?_ | refine Sim.inBlock ?_ | refine Sim.exit rfl ?_ | refine Sim.condT rfl ?_ | refine Sim.condF rfl ?_)
  refine RL.al (.refl w5) fun b7 w6 he7 hle7 h56 _ hb7 => ?_
  repeat (first | refine RL.vv ?_ | refine RL.p ?_ | refine RL.nil ?_ | refine Sim.seq ?_ | refine Sim.region ?_ | refine Sim.block ?_ | refine Sim.skip ?_ | refine Sim.inBlock ?_ | refine Sim.exit rfl ?_ | refine Sim.condT rfl ?_ | refine Sim.condF rfl ?_)
  refine RL.st h56 hb7 hle7 fun w7 h57 _ hb7 => ?_
  have hb7 : Box w7 b7 31 [.slice a1 s.types.length c1, .slice a2 s.changes.length c2, .slice a3 s.things.length c3] := hb7
  have hu7 := hu.trans h57
  have ha7 := hb7.at
  repeat (first | refine RL.vv ?_ | refine RL.p ?_ | refine RL.nil ?_ | refine Sim.seq ?_ | refine Sim.region ?_ | refine Sim.block ?_ | refine Sim.skip ?_ | refine Sim.inBlock ?_ | refine Sim.exit rfl ?_ | refine Sim.condT rfl ?_ | refine Sim.condF rfl ?_)
  refine RL.cx (RSee_any w7 (hv1.up hu7) (hv2.up hu7) (okTs_svc hoks) (okCs_svc hoks)) ?_
  rintro _ w8 ⟨qo, qc, qf, rfl, h78, hrsl⟩
  refine ⟨_, rfl, ?_⟩
  unfold fltV
  obtain ⟨xa, xc, rfl, _⟩ := id hrsl.o
  obtain ⟨ya, yc, rfl, _⟩ := id hrsl.c
  obtain ⟨za, zc, rfl, _⟩ := id hrsl.f
  repeat (first | refine RL.vv ?_ | refine RL.p ?_ | refine RL.nil ?_ | refine Sim.seq ?_ | refine Sim.region ?_ | refine Sim.block ?_ | refine Sim.skip ?_ | refine Sim.inBlock ?_ | refine Sim.exit rfl ?_ | refine Sim.condT rfl ?_ | refine Sim.condF rfl ?_)
  refine RL.al (.refl w8) fun b8 w9 he8 hle8 h89 _ hb8 => ?_
  refine RL.al h89 fun b9 w10 he9 hle9 h810 h910 hb9 => ?_
  have hn89 : b8 ≠ b9 := by have := hb8.lt; omega
  refine RL.st h810 (hb8.up h910) hle8 fun w11 h811 hbt8 hb8 => ?_
  refine RL.st h811 (hb9.but hbt8 hn89.symm) hle9 fun w12 h812 hbt9 hb9 => ?_
  have hb8 : Box w12 b8 160 [.slice xa (seeR s.types s.changes).1.own.length xc, .slice ya (seeR s.types s.changes).1.called.length yc, .slice za (seeR s.types s.changes).1.fields.length zc] := hb8.but hbt9 hn89
  have h712 := h78.trans h812
  have hu12 := hu7.trans h712
  have hb7 := hb7.up h712
  have hrsl := hrsl.up h812
  have ha7 := hb7.at
  have ha8 := hb8.at
  clear h89 h810 h811 h910 hbt8 hbt9 hb9
  repeat (first | refine RL.vv ?_ | refine RL.p ?_ | refine RL.nil ?_ | refine Sim.seq ?_ | refine Sim.region ?_ | refine Sim.block ?_ | refine Sim.skip ?_ | refine Sim.inBlock ?_ | refine Sim.exit rfl ?_ | refine Sim.condT rfl ?_ | refine Sim.condF rfl ?_)
  refine RL.cx (RTypes_any w12 ha8 hrsl (hv1.up hu12) htr hrT) ?_
  rintro _ w13 ⟨tv, ov, rfl, h1213, htv, hov⟩
  refine ⟨_, rfl, ?_⟩
  rw [← hst3] at htv hov
  generalize hsn : (seeM s.types s.changes).1 = sns at *
  obtain ⟨ta, tc, rfl, htnc, htcm, _⟩ := id htv
  obtain ⟨wa, wc, rfl, _⟩ := id hov
  unfold maxLen at htcm
  have hu13 := hu12.trans h1213
  have h713 := h712.trans h1213
  have h513 := h57.trans h713
  have hb7 := hb7.up h1213
  have hb3 := hb3.up h513
  have hp13 := hp5.up h513
  have hs513 := h513.size
  have hs712 := h712.size
  have hs57 := h57.size
  have hl7 := hb7.lt
  have htv := htv.old
  have hov := hov.old
  have htv : SliceOf typLay (fun b => w5.heap.size ≤ b ∧ b < w13.heap.size) w13 (.slice ta (sns.map (·.type)).length tc) (sns.map (·.type)) := htv.mono fun b hb => ⟨by have := hb.1; omega, hb.2⟩
  have hov : SliceOf strLay.slice (fun b => w5.heap.size ≤ b ∧ b < w13.heap.size) w13 (.slice wa (sns.map (·.fields)).length wc) (sns.map (·.fields)) := hov.mono fun b hb => ⟨by have := hb.1; omega, hb.2⟩
  have hnone : ∀ b, w5.heap.size ≤ b → b < w13.heap.size → lab2 b = none := fun b h1 _ => by
    rw [← hlab2]
    exact if_neg (by omega)
  clear hp5 hlab2 h56 h57 h78 h812 h1213 h712 h713 ha7 ha8 hb8 hrsl hst1 hst2 hst3
  repeat (first | refine RL.vv ?_ | refine RL.p ?_ | refine RL.nil ?_ | refine Sim.seq ?_ | refine Sim.region ?_ | refine Sim.block ?_ | refine Sim.skip ?_ | refine Sim.inBlock ?_ | refine Sim.exit rfl ?_ | refine Sim.condT rfl ?_ | refine Sim.condF rfl ?_)
  refine Sim.loop (σ := Nat × Value × List Ph × List Prt × Lab) (fun st => [(0, .slice (some ⟨vb, vo, none⟩) l.length lc), (3, .pointer (some ⟨b3, 0, none⟩)), (24, .slice (some ⟨vb, vo, none⟩) l.length lc), (25, .int .i64 (l.length : Int)), (26, .int .i64 (i : Int)), (6, .int .i64 (i : Int)), (7, .pointer (some ⟨b7, 0, none⟩)), (11, .slice wa (sns.map (·.fields)).length wc), (45, .slice ta (sns.map (·.type)).length tc), (46, .int .i64 ((sns.map (·.type)).length : Int)), (47, .int .i64 (st.1 : Int)), (5, st.2.1)])
    (fun st w' => st.1 ≤ sns.length ∧ Up w w' ∧ w13.heap.size ≤ w'.heap.size ∧ Box w' b3 35 [.int .i64 0, .int .i64 0] ∧ PartsAt B w' st.2.1 st.2.2.1 st.2.2.2.1 st.2.2.2.2 ∧ (∀ b, w5.heap.size ≤ b → b < w13.heap.size → st.2.2.2.2 b = none) ∧ Box w' b7 31 [.slice a1 s.types.length c1, .slice a2 s.changes.length c2, .slice a3 s.things.length c3] ∧
      SliceOf typLay (fun b => w5.heap.size ≤ b ∧ b < w13.heap.size) w' (.slice ta (sns.map (·.type)).length tc) (sns.map (·.type)) ∧ SliceOf strLay.slice (fun b => w5.heap.size ≤ b ∧ b < w13.heap.size) w' (.slice wa (sns.map (·.fields)).length wc) (sns.map (·.fields)) ∧ Sorted st.2.2.2.1 ∧ st.2.2.2.1.length ≤ 80 * i + 10 * st.1 ∧ (∀ p ∈ st.2.2.2.1, smallP (80 * i + 10 * st.1) p) ∧ addsM i ps sns = addsM i st.2.2.2.1 (sns.drop st.1))
    (fun st => sns.length - st.1) (0, v, hds, ps, lab2) sb ⟨Nat.zero_le _, hu13, Nat.le_refl _, hb3, hp13, hnone, hb7, htv, hov, hso, hpl, hsm, rfl⟩ ?_
  clear hp13 hnone hb3 hu13 hb7 htv hov hu7 hu12
  rintro ⟨j, v0, hdj, pj, labj0⟩ w14 ⟨hj, hu14, hs14, hb3, hpj0, hnj0, hb7, htv, hov, hsoj, hplj, hsmj, heqj⟩ next2
  simp only at hj hpj0 hnj0 hsoj hplj hsmj heqj next2 ⊢
  have hmt : (sns.map (·.type)).length = sns.length := List.length_map ..
  by_cases hjl : j < sns.length
  rotate_left
  · rw [List.drop_eq_nil_of_le (by omega)] at heqj
    rw [heqj] at heq
    repeat (first | refine RL.vv ?_ | refine RL.p ?_ | refine RL.nil ?_ | refine Sim.seq ?_ | refine Sim.region ?_ | refine Sim.block ?_ | refine Sim.skip ?_ | refine Sim.inBlock ?_ | refine Sim.exit rfl ?_ | refine Sim.condT rfl ?_ | refine Sim.condF rfl ?_)
    exact next (i + 1, v0, hdj, pj, labj0) _ _ ⟨by first | omega | (simp only; omega), hu14, by first | omega | (simp only; omega), hb3, hpj0, hsoj, by first | omega | (simp only; omega), fun p hp => by
      obtain ⟨h1, h2, h3⟩ := hsmj p hp
      exact ⟨by omega, by omega, by omega⟩, heq⟩ (by first | omega | (simp only; omega)) sb
  have hy : sns[j]? = some sns[j] := List.getElem?_eq_getElem hjl
  rw [List.drop_eq_getElem_cons hjl, addsM_cons] at heqj
  have hyt : (sns.map (·.type))[j]? = some sns[j].type := by rw [List.getElem?_map, hy]; rfl
  have hyo : (sns.map (·.fields))[j]? = some sns[j].fields := by rw [List.getElem?_map, hy]; rfl
  obtain ⟨qb, qo', cs, eta, hqS, hqat, ⟨fv, rfl, hfv⟩, _⟩ := htv.at hyt
  have hqat : At w14 qb (qo' + j * 2) _ := hqat
  obtain ⟨ob, oo, cs, eoa, hoS, hoat, ⟨nv, rfl, hnv⟩, _⟩ := hov.at hyo
  have hoat : At w14 ob (oo + j * 1) _ := hoat
  have hty : s.types[j]? = some (s.types[j]'(by have := hss.len; omega)) := List.getElem?_eq_getElem _
  have hsj : j < s.types.length := (List.getElem?_eq_some_iff.1 hty).1
  obtain ⟨e1, e2, e3⟩ := hss.at_ j _ _ hy hty
  have e4 := (hrs.types.fields _ (List.mem_of_getElem? hty)).len
  obtain ⟨yb, yo, cs, ea1, _, hyat, ⟨yv, rfl, _⟩, _⟩ := hv1.at hty
  have hyat : At w yb (yo + j * 2) _ := hyat
  have hysz := hyat.lt
  have hw4 : w.heap.size ≤ B := hs4
  generalize (s.types[j]'(by have := hss.len; omega)) = t at *
  generalize sns[j] = q at *
  obtain ⟨⟨tn, tf⟩, own, fl⟩ := q
  simp only at hfv hnv e1 e2 e3 hqat hoat
  obtain ⟨fa, fc, rfl, hfnc, hfcm, _⟩ := id hfv
  obtain ⟨na, nc, rfl, _⟩ := id hnv
  unfold maxLen at hfcm
  subst eta
  subst eoa
  subst ea1
  subst e1
  have hojl : j < (sns.map (·.fields)).length := by rw [List.length_map]; exact hjl
  have htjl : j < (sns.map (·.type)).length := by omega
  have hpjT := hpj0.trim
  have hnjT : ∀ b, (w5.heap.size ≤ b ∧ b < w13.heap.size) ∨ w14.heap.size ≤ b → (fun b => if b < w14.heap.size then labj0 b else none) b = none := fun b hb => by
    show (if _ then _ else _) = _
    split
    · rcases hb with hb | hb
      · exact hnj0 b hb.1 hb.2
      · omega
    · rfl
  generalize (fun b => if b < w14.heap.size then labj0 b else none) = labj at hpjT hnjT
  have hbs := hpjT.base
  clear hpj0 hnj0
  repeat (first | refine RL.vv ?_ | refine RL.p ?_ | refine RL.nil ?_ | refine Sim.seq ?_ | refine Sim.region ?_ | refine Sim.block ?_ | refine Sim.skip ?_ | refine Sim.inBlock ?_ | refine Sim.exit rfl ?_ | refine Sim.condT rfl ?_ | refine Sim.condF rfl ?_)
  refine RL.al (.refl w14) fun b13 w15 he13 hle13 h1415 _ hb13 => ?_
  repeat (first | refine RL.vv ?_ | refine RL.p ?_ | refine RL.nil ?_ | refine Sim.seq ?_ | refine Sim.region ?_ | refine Sim.block ?_ | refine Sim.skip ?_ | refine Sim.inBlock ?_ | refine Sim.exit rfl ?_ | refine Sim.condT rfl ?_ | refine Sim.condF rfl ?_)
  refine RL.st h1415 hb13 hle13 fun wA h14A _ hb13 => ?_
  have hb13 : Box wA b13 57 [.string tn, .slice fa tf.length fc] := hb13
  have hsA := h14A.size
  have huA := hu14.trans h14A
  have hb3 := hb3.up h14A
  have hb7 := hb7.up h14A
  have htv := htv.up h14A
  have hov := hov.up h14A
  have hfv := hfv.up h14A
  have hnv := hnv.up h14A
  have hoat := hoat.up h14A
  have hyat := hyat.up huA
  have hpj := hpjT.up h14A
  have ha13 := hb13.at
  have hl13 := hb13.lt
  have hn13 : labj b13 = none := hnjT b13 (.inr hle13)
  have hn7 : labj b7 = none := hnjT b7 (.inl ⟨hle7, hl7⟩)
  have hny : labj yb = none := hbs yb (by omega)
  have hno : labj ob = none := hnjT ob (.inl hoS)
  have hwB : B ≤ wA.heap.size := by omega
  have hl := hpj.len
  clear h1415 hqat hpjT h14A
  ((repeat (first | refine RL.vv ?_ | refine RL.p ?_)); refine RL.nil ?_)
  ((repeat refine Sim.seq ?_); refine Sim.region ?_; (repeat (first | refine RL.vv ?_ | refine RL.p ?_)); refine RL.nil ?_)
  -- the place
  have hsr0 : SliceOf phLay (fun b => b < wA.heap.size) wA v0 hdj := (hpj.row.no (S' := Nn)).sl (fun _ h _ _ => h.elim) fun g hg => (hpj.row.lt g hg).2
  obtain ⟨va, vc, rfl, hvnc, hvcm, _⟩ := id hsr0
  unfold maxLen at hvcm
  refine Sim.seq ?_
  refine Sim.cutX (σ := Nat) (fun k => [(0, .slice (some ⟨vb, vo, none⟩) l.length lc), (3, .pointer (some ⟨b3, 0, none⟩)), (24, .slice (some ⟨vb, vo, none⟩) l.length lc), (25, .int .i64 (l.length : Int)), (26, .int .i64 (i : Int)), (6, .int .i64 (i : Int)), (7, .pointer (some ⟨b7, 0, none⟩)), (11, .slice (some ⟨ob, oo, none⟩) (sns.map (·.fields)).length wc), (45, .slice (some ⟨qb, qo', none⟩) (sns.map (·.type)).length tc), (46, .int .i64 ((sns.map (·.type)).length : Int)), (47, .int .i64 (j : Int)), (5, .slice va hdj.length vc), (12, .int .i64 (j : Int)), (13, .pointer (some ⟨b13, 0, none⟩)), (14, .int .i64 (k : Int))])
    (fun k w' => Up wA w' ∧ k ≤ hdj.length ∧ (∀ (m : Nat) p, m < k → hdj[m]? = some p → strLt p.name tn = true) ∧ ∀ p, hdj[k]? = some p → strLt p.name tn = false) (fun k' nextc => ?_) ?_
  · refine Sim.block ?_
    refine Sim.loop (σ := Nat) (fun k => [(0, .slice (some ⟨vb, vo, none⟩) l.length lc), (3, .pointer (some ⟨b3, 0, none⟩)), (24, .slice (some ⟨vb, vo, none⟩) l.length lc), (25, .int .i64 (l.length : Int)), (26, .int .i64 (i : Int)), (6, .int .i64 (i : Int)), (7, .pointer (some ⟨b7, 0, none⟩)), (11, .slice (some ⟨ob, oo, none⟩) (sns.map (·.fields)).length wc), (45, .slice (some ⟨qb, qo', none⟩) (sns.map (·.type)).length tc), (46, .int .i64 ((sns.map (·.type)).length : Int)), (47, .int .i64 (j : Int)), (5, .slice va hdj.length vc), (12, .int .i64 (j : Int)), (13, .pointer (some ⟨b13, 0, none⟩)), (14, .int .i64 (k : Int))])
      (fun k w' => Up wA w' ∧ k ≤ hdj.length ∧ (∀ (m : Nat) p, m < k → hdj[m]? = some p → strLt p.name tn = true)) (fun k => hdj.length - k) 0 sb ⟨.refl _, Nat.zero_le _, fun m p hm => absurd hm (Nat.not_lt_zero _)⟩ ?_
    rintro k w16 ⟨hA16, hk, hbelow⟩ next3
    have ha13' := ha13.up hA16
    by_cases hkl : k < hdj.length
    · have hdk : hdj[k]? = some hdj[k] := List.getElem?_eq_getElem hkl
      obtain ⟨gb, go, cs, rfl, _, hgat, ⟨rfl, _⟩, _⟩ := (hsr0.up hA16).at hdk
      have hgat : At w16 gb (go + k * 4) _ := hgat
      have hkl' : (k : Int) < (hdj.length : Int) := by omega
      rcases Bool.eq_false_or_eq_true (strLt hdj[k].name tn) with hlt' | hlt'
      · repeat (first | refine RL.vv ?_ | refine RL.p ?_ | refine RL.nil ?_ | refine Sim.seq ?_ | refine Sim.region ?_ | refine Sim.block ?_ | refine Sim.skip ?_ | refine Sim.inBlock ?_ | refine Sim.exit rfl ?_ | refine Sim.condT rfl ?_ | refine Sim.condF rfl ?_)
        refine Sim.q ?_
        repeat (first | refine RQ.vv ?_ | refine RQ.p ?_)
        refine RQ.vv ?_ (v := .bool true) (hy := fun wq hq => by rw [← hlt']; exact y_lssS rfl rfl)
        repeat (first | refine RQ.vv ?_ | refine RQ.p ?_)
        refine RQ.nil fun w17 hq => ?_
        repeat (first | refine RL.vv ?_ | refine RL.p ?_ | refine RL.nil ?_ | refine Sim.seq ?_ | refine Sim.region ?_ | refine Sim.block ?_ | refine Sim.skip ?_ | refine Sim.inBlock ?_ | refine Sim.exit rfl ?_ | refine Sim.condT rfl ?_ | refine Sim.condF rfl ?_)
        exact next3 (k + 1) _ _ ⟨hA16.trans hq, by omega, fun m p hm hp => by
          by_cases hmk : m = k
          · subst hmk
            rw [hdk] at hp
            cases hp
            exact hlt'
          · exact hbelow m p (by omega) hp⟩ (by omega) sb
      · repeat (first | refine RL.vv ?_ | refine RL.p ?_ | refine RL.nil ?_ | refine Sim.seq ?_ | refine Sim.region ?_ | refine Sim.block ?_ | refine Sim.skip ?_ | refine Sim.inBlock ?_ | refine Sim.exit rfl ?_ | refine Sim.condT rfl ?_ | refine Sim.condF rfl ?_)
        refine Sim.q ?_
        repeat (first | refine RQ.vv ?_ | refine RQ.p ?_)
        refine RQ.vv ?_ (v := .bool false) (hy := fun wq hq => by rw [← hlt']; exact y_lssS rfl rfl)
        repeat (first | refine RQ.vv ?_ | refine RQ.p ?_)
        refine RQ.nil fun w17 hq => ?_
        repeat (first | refine RL.vv ?_ | refine RL.p ?_ | refine RL.nil ?_ | refine Sim.seq ?_ | refine Sim.region ?_ | refine Sim.block ?_ | refine Sim.skip ?_ | refine Sim.inBlock ?_ | refine Sim.exit rfl ?_ | refine Sim.condT rfl ?_ | refine Sim.condF rfl ?_)
        exact nextc k _ _ ⟨hA16.trans hq, hk, hbelow, fun p hp => by rw [hdk] at hp; cases hp; exact hlt'⟩ sb
    · have hkl' : ¬ (k : Int) < (hdj.length : Int) := by omega
      repeat (first | refine RL.vv ?_ | refine RL.p ?_ | refine RL.nil ?_ | refine Sim.seq ?_ | refine Sim.region ?_ | refine Sim.block ?_ | refine Sim.skip ?_ | refine Sim.inBlock ?_ | refine Sim.exit rfl ?_ | refine Sim.condT rfl ?_ | refine Sim.condF rfl ?_)
      refine Sim.q ?_
      repeat (first | refine RQ.vv ?_ | refine RQ.p ?_)
      refine RQ.nil fun w17 hq => ?_
      repeat (first | refine RL.vv ?_ | refine RL.p ?_ | refine RL.nil ?_ | refine Sim.seq ?_ | refine Sim.region ?_ | refine Sim.block ?_ | refine Sim.skip ?_ | refine Sim.inBlock ?_ | refine Sim.exit rfl ?_ | refine Sim.condT rfl ?_ | refine Sim.condF rfl ?_)
      exact nextc k _ _ ⟨hA16.trans hq, hk, hbelow, fun p hp => by have := (List.getElem?_eq_some_iff.1 hp).1; omega⟩ sb
  rintro k wK ⟨hAK, hkl, hbelow, hat_⟩
  obtain ⟨has, hhd⟩ : ∃ has : Bool, has = match hdj[k]? with | some p => decide (p.name = tn) | none => false := ⟨_, rfl⟩
  have hplace : PlaceOf hdj tn k has := ⟨hkl, hbelow, fun p hp => ⟨hat_ p hp, by rw [hhd, hp]⟩, fun h => by rw [hhd, List.getElem?_eq_none h]⟩
  obtain ⟨hk, hhas⟩ := hpj.place hplace
  refine Sim.seq ?_
  refine Sim.cutX (σ := Value × List Ph × Lab) (fun st => [(0, .slice (some ⟨vb, vo, none⟩) l.length lc), (3, .pointer (some ⟨b3, 0, none⟩)), (24, .slice (some ⟨vb, vo, none⟩) l.length lc), (25, .int .i64 (l.length : Int)), (26, .int .i64 (i : Int)), (6, .int .i64 (i : Int)), (7, .pointer (some ⟨b7, 0, none⟩)), (11, .slice (some ⟨ob, oo, none⟩) (sns.map (·.fields)).length wc), (45, .slice (some ⟨qb, qo', none⟩) (sns.map (·.type)).length tc), (46, .int .i64 ((sns.map (·.type)).length : Int)), (47, .int .i64 (j : Int)), (5, st.1), (12, .int .i64 (j : Int)), (13, .pointer (some ⟨b13, 0, none⟩)), (14, .int .i64 (k : Int))])
    (fun st w' => Up wA w' ∧ PartsAt B w' st.1 st.2.1 (insP pj tn) st.2.2 ∧ ∀ b, b < wA.heap.size → st.2.2 b = labj b) (fun k' nextc => ?_) ?_
  · refine Sim.seq ?_
    refine Sim.cutX (σ := Unit) (fun _ => [(0, .slice (some ⟨vb, vo, none⟩) l.length lc), (3, .pointer (some ⟨b3, 0, none⟩)), (24, .slice (some ⟨vb, vo, none⟩) l.length lc), (25, .int .i64 (l.length : Int)), (26, .int .i64 (i : Int)), (6, .int .i64 (i : Int)), (7, .pointer (some ⟨b7, 0, none⟩)), (11, .slice (some ⟨ob, oo, none⟩) (sns.map (·.fields)).length wc), (45, .slice (some ⟨qb, qo', none⟩) (sns.map (·.type)).length tc), (46, .int .i64 ((sns.map (·.type)).length : Int)), (47, .int .i64 (j : Int)), (5, .slice va hdj.length vc), (12, .int .i64 (j : Int)), (13, .pointer (some ⟨b13, 0, none⟩)), (14, .int .i64 (k : Int)), (83, .bool (!has))]) (fun _ w' => Up wA w') (fun k2 nextd => ?_) ?_
    · have ha13' := ha13.up hAK
      by_cases hkl' : k < hdj.length
      · have hdk : hdj[k]? = some hdj[k] := List.getElem?_eq_getElem hkl'
        rw [hdk] at hhd
        simp only at hhd
        obtain ⟨gb, go, cs, rfl, _, hgat, ⟨rfl, _⟩, _⟩ := (hsr0.up hAK).at hdk
        have hgat : At wK gb (go + k * 4) _ := hgat
        have hne : ¬ (k : Int) = (hdj.length : Int) := by omega
        by_cases hnm : hdj[k].name = tn
        · have hnm' : ¬ ¬ hdj[k].name = tn := fun h => h hnm
          rw [decide_eq_true hnm] at hhd
          subst hhd
          refine Sim.q ?_
          repeat (first | refine RQ.vv ?_ | refine RQ.p ?_)
          refine RQ.nil fun w17 hq => ?_
          exact nextd () _ _ (hAK.trans hq) sb
        · rw [decide_eq_false hnm] at hhd
          subst hhd
          refine Sim.q ?_
          repeat (first | refine RQ.vv ?_ | refine RQ.p ?_)
          refine RQ.nil fun w17 hq => ?_
          exact nextd () _ _ (hAK.trans hq) sb
      · have hee : (k : Int) = (hdj.length : Int) := by omega
        rw [List.getElem?_eq_none (by omega)] at hhd
        simp only at hhd
        subst hhd
        refine Sim.q ?_
        repeat (first | refine RQ.vv ?_ | refine RQ.p ?_)
        refine RQ.nil fun w17 hq => ?_
        exact nextd () _ _ (hAK.trans hq) sb
    rintro _ wL hAL
    cases has with
    | true =>
      repeat (first | refine RL.vv ?_ | refine RL.p ?_ | refine RL.nil ?_ | refine Sim.seq ?_ | refine Sim.region ?_ | refine Sim.block ?_ | refine Sim.skip ?_ | refine Sim.inBlock ?_ | refine Sim.exit rfl ?_ | refine Sim.condT rfl ?_ | refine Sim.condF rfl ?_)
      refine nextc (.slice va hdj.length vc, hdj, labj) _ _ ⟨hAL, ?_, fun _ _ => rfl⟩ sb
      unfold insP
      rw [hhas, if_pos rfl]
      exact hpj.up hAL
    | false =>
      refine Sim.condT rfl ?_
      have h0 := hAL.trans (Up.drew wL)
      have ha13 := ha13.up h0
      have hsr := hsr0.up h0
      refine Sim.ord (fun wq => At wq b13 0 [.string tn, .slice fa tf.length fc]) ?_
      have hS := ha13
      refine RO.tk 1 ?_
      refine RO.tk 2 ?_
      refine RO.tk 3 ?_ (hy := fun wq hq => y_sliceHi (i := k) rfl rfl (by omega))
      refine RO.tk 5 ?_
      refine RO.tk 6 ?_ (hy := fun wq hq => y_load0 rfl hq rfl)
      refine RO.tk 7 ?_ (hy := fun wq hq => y_build (v := .agg #[.string tn, .slice none 0 0]) rfl (fun w => by kernel_rfl))
      refine RO.tk 8 ?_ (hy := fun wq hq => y_build (v := .agg #[.string tn, .slice none 0 0, .slice none 0 0, .slice none 0 0]) rfl (fun w => by kernel_rfl))
      refine RO.tk 11 ?_
      refine RO.tk 12 ?_
      refine RO.tk 13 ?_ (hy := fun wq hq => y_sliceLo (i := k) (k := 4) rfl rfl hkl hvnc)
      clear hS
      refine RO.two 0 9 ?_ ?_
      · try have hl93 := hb93.lt
        refine RL.bu (el := 99) [] h0 fun b84 _ he84 hle84 h0 hx hb84 => ?_
        try have hb93 := hb93.up hx
        have hr := Own.empty (S := fun _ => True) (B := wA.heap.size) phLay hb84 hle84
        try have hn93 : some b93 ≠ Value.ownBlock (.slice (some ⟨b84, 0, none⟩) 0 0) := fun e => by simp [Value.ownBlock] at e; omega
        have ha13 := ha13.up hx
        have hsr := hsr.up hx
        refine RL.ord ha13 ?_
        clear hx
        refine RO.two 4 9 ?_ ?_
        · refine RL.app (L := phLay) (el := 99) (S := fun _ => True) (B := wA.heap.size) (ys := hdj.take k) h0 hr ((hsr.take hkl).mono fun b hb => ⟨trivial, hr.ne' hb⟩) (by rw [List.length_take]; simp only [List.length_nil]; omega) (Nat.le_refl _) h0.size fun v88 _ h0 hr2 hg hv => ?_
          try have hb93o := hb93.lt
          try have hb93 := hb93.grown hg hn93
          try have hn93 : some b93 ≠ v88.ownBlock := fun e => (hv b93 e.symm).elim (fun h1 => hn93 h1.symm) (fun h1 => by omega)
          have ha13 := ha13.keep (Grown.keep hg) (hr.ne' hl13)
          have hsr := hsr.grown hg fun b hb => hr.ne' hb
          have hr := hr2
          rw [List.nil_append] at hr
          refine RL.ord ha13 ?_
          clear hv hg hr2
          refine RO.one 9 ?_
          refine RL.bu (el := 99) [.string tn, .slice none 0 0, .slice none 0 0, .slice none 0 0] h0 fun b93 _ he93 hle93 h0 hx hb93 => ?_
          try have hn93 := hr.ne (Nat.le_of_eq he93.symm)
          try have hr := hr.up hx
          have ha13 := ha13.up hx
          have hsr := hsr.up hx
          refine RL.ord ha13 ?_
          clear hx
          refine RO.one 10 ?_
          refine RL.app (L := phLay) (el := 99) (S := fun _ => True) (B := wA.heap.size) (ys := [⟨tn, .slice none 0 0, .slice none 0 0, .slice none 0 0⟩]) h0 hr (SliceOf.one hb93 ⟨trivial, hn93⟩ ⟨rfl, rfl, rfl, rfl⟩) (by rw [List.length_take]; simp only [List.length_cons, List.length_nil]; omega) (Nat.le_refl _) h0.size fun v94 _ h0 hr2 hg hv => ?_
          have ha13 := ha13.keep (Grown.keep hg) (hr.ne' hl13)
          have hsr := hsr.grown hg fun b hb => hr.ne' hb
          have hr := hr2
          refine RL.ord ha13 ?_
          clear hv hg hr2
          refine RO.one 14 ?_
          refine RL.app (L := phLay) (el := 99) (S := fun _ => True) (B := wA.heap.size) (ys := hdj.drop k) h0 hr ((hsr.drop hkl).mono fun b hb => ⟨trivial, hr.ne' hb⟩) (by rw [List.length_drop, List.length_append, List.length_take]; simp only [List.length_cons, List.length_nil]; omega) (Nat.le_refl _) h0.size fun v98 w17 h0 hr2 hg hv => ?_
          have ha13 := ha13.keep (Grown.keep hg) (hr.ne' hl13)
          have hr := hr2
          rw [List.append_assoc] at hr
          refine RL.ord ha13 ?_
          clear hv hg hr2
          have hS13 := ha13
          refine RO.tk 15 ?_
          refine RO.done (RL.nil ?_)
          have hlo : ∀ g, v98.ownBlock = some g → wA.heap.size ≤ g := fun g hg => (hr.lt g hg).1
          have hrl : ∀ b, b < wA.heap.size → relab labj v98 none b = labj b := fun b hb => by
            unfold relab
            rw [if_neg fun e => by have := hlo b e; omega]
          refine nextc (v98, hdj.take k ++ ⟨tn, .slice none 0 0, .slice none 0 0, .slice none 0 0⟩ :: hdj.drop k, relab labj v98 none) _ _ ⟨h0, ?_, hrl⟩ sb
          have hins : insP pj tn = pj.take k ++ ⟨⟨tn, []⟩, [], []⟩ :: pj.drop k := by
            unfold insP
            rw [hhas, if_neg (by decide), hk]
          rw [hins]
          exact hpj.insert (by simpa using (hr.no (S' := Nn)).base hwB) (by rw [← hl]; exact hkl) (fun b hb => (hrl b (by omega)).trans (hbs b hb)) hrl (fun b hb _ => h0.block hb) (fun g hg => relab_own g hg)
        · refine RL.bu (el := 99) [.string tn, .slice none 0 0, .slice none 0 0, .slice none 0 0] h0 fun b93 _ he93 hle93 h0 hx hb93 => ?_
          try have hn93 := hr.ne (Nat.le_of_eq he93.symm)
          try have hr := hr.up hx
          have ha13 := ha13.up hx
          have hsr := hsr.up hx
          refine RL.ord ha13 ?_
          clear hx
          refine RO.one 4 ?_
          refine RL.app (L := phLay) (el := 99) (S := fun _ => True) (B := wA.heap.size) (ys := hdj.take k) h0 hr ((hsr.take hkl).mono fun b hb => ⟨trivial, hr.ne' hb⟩) (by rw [List.length_take]; simp only [List.length_nil]; omega) (Nat.le_refl _) h0.size fun v88 _ h0 hr2 hg hv => ?_
          try have hb93o := hb93.lt
          try have hb93 := hb93.grown hg hn93
          try have hn93 : some b93 ≠ v88.ownBlock := fun e => (hv b93 e.symm).elim (fun h1 => hn93 h1.symm) (fun h1 => by omega)
          have ha13 := ha13.keep (Grown.keep hg) (hr.ne' hl13)
          have hsr := hsr.grown hg fun b hb => hr.ne' hb
          have hr := hr2
          rw [List.nil_append] at hr
          refine RL.ord ha13 ?_
          clear hv hg hr2
          refine RO.one 10 ?_
          refine RL.app (L := phLay) (el := 99) (S := fun _ => True) (B := wA.heap.size) (ys := [⟨tn, .slice none 0 0, .slice none 0 0, .slice none 0 0⟩]) h0 hr (SliceOf.one hb93 ⟨trivial, hn93⟩ ⟨rfl, rfl, rfl, rfl⟩) (by rw [List.length_take]; simp only [List.length_cons, List.length_nil]; omega) (Nat.le_refl _) h0.size fun v94 _ h0 hr2 hg hv => ?_
          have ha13 := ha13.keep (Grown.keep hg) (hr.ne' hl13)
          have hsr := hsr.grown hg fun b hb => hr.ne' hb
          have hr := hr2
          refine RL.ord ha13 ?_
          clear hv hg hr2
          refine RO.one 14 ?_
          refine RL.app (L := phLay) (el := 99) (S := fun _ => True) (B := wA.heap.size) (ys := hdj.drop k) h0 hr ((hsr.drop hkl).mono fun b hb => ⟨trivial, hr.ne' hb⟩) (by rw [List.length_drop, List.length_append, List.length_take]; simp only [List.length_cons, List.length_nil]; omega) (Nat.le_refl _) h0.size fun v98 w17 h0 hr2 hg hv => ?_
          have ha13 := ha13.keep (Grown.keep hg) (hr.ne' hl13)
          have hr := hr2
          rw [List.append_assoc] at hr
          refine RL.ord ha13 ?_
          clear hv hg hr2
          have hS13 := ha13
          refine RO.tk 15 ?_
          refine RO.done (RL.nil ?_)
          have hlo : ∀ g, v98.ownBlock = some g → wA.heap.size ≤ g := fun g hg => (hr.lt g hg).1
          have hrl : ∀ b, b < wA.heap.size → relab labj v98 none b = labj b := fun b hb => by
            unfold relab
            rw [if_neg fun e => by have := hlo b e; omega]
          refine nextc (v98, hdj.take k ++ ⟨tn, .slice none 0 0, .slice none 0 0, .slice none 0 0⟩ :: hdj.drop k, relab labj v98 none) _ _ ⟨h0, ?_, hrl⟩ sb
          have hins : insP pj tn = pj.take k ++ ⟨⟨tn, []⟩, [], []⟩ :: pj.drop k := by
            unfold insP
            rw [hhas, if_neg (by decide), hk]
          rw [hins]
          exact hpj.insert (by simpa using (hr.no (S' := Nn)).base hwB) (by rw [← hl]; exact hkl) (fun b hb => (hrl b (by omega)).trans (hbs b hb)) hrl (fun b hb _ => h0.block hb) (fun g hg => relab_own g hg)
      · refine RL.bu (el := 99) [.string tn, .slice none 0 0, .slice none 0 0, .slice none 0 0] h0 fun b93 _ he93 hle93 h0 hx hb93 => ?_
        try have hn93 := hr.ne (Nat.le_of_eq he93.symm)
        try have hr := hr.up hx
        have ha13 := ha13.up hx
        have hsr := hsr.up hx
        refine RL.ord ha13 ?_
        clear hx
        refine RO.one 0 ?_
        try have hl93 := hb93.lt
        refine RL.bu (el := 99) [] h0 fun b84 _ he84 hle84 h0 hx hb84 => ?_
        try have hb93 := hb93.up hx
        have hr := Own.empty (S := fun _ => True) (B := wA.heap.size) phLay hb84 hle84
        try have hn93 : some b93 ≠ Value.ownBlock (.slice (some ⟨b84, 0, none⟩) 0 0) := fun e => by simp [Value.ownBlock] at e; omega
        have ha13 := ha13.up hx
        have hsr := hsr.up hx
        refine RL.ord ha13 ?_
        clear hx
        refine RO.one 4 ?_
        refine RL.app (L := phLay) (el := 99) (S := fun _ => True) (B := wA.heap.size) (ys := hdj.take k) h0 hr ((hsr.take hkl).mono fun b hb => ⟨trivial, hr.ne' hb⟩) (by rw [List.length_take]; simp only [List.length_nil]; omega) (Nat.le_refl _) h0.size fun v88 _ h0 hr2 hg hv => ?_
        try have hb93o := hb93.lt
        try have hb93 := hb93.grown hg hn93
        try have hn93 : some b93 ≠ v88.ownBlock := fun e => (hv b93 e.symm).elim (fun h1 => hn93 h1.symm) (fun h1 => by omega)
        have ha13 := ha13.keep (Grown.keep hg) (hr.ne' hl13)
        have hsr := hsr.grown hg fun b hb => hr.ne' hb
        have hr := hr2
        rw [List.nil_append] at hr
        refine RL.ord ha13 ?_
        clear hv hg hr2
        refine RO.one 10 ?_
        refine RL.app (L := phLay) (el := 99) (S := fun _ => True) (B := wA.heap.size) (ys := [⟨tn, .slice none 0 0, .slice none 0 0, .slice none 0 0⟩]) h0 hr (SliceOf.one hb93 ⟨trivial, hn93⟩ ⟨rfl, rfl, rfl, rfl⟩) (by rw [List.length_take]; simp only [List.length_cons, List.length_nil]; omega) (Nat.le_refl _) h0.size fun v94 _ h0 hr2 hg hv => ?_
        have ha13 := ha13.keep (Grown.keep hg) (hr.ne' hl13)
        have hsr := hsr.grown hg fun b hb => hr.ne' hb
        have hr := hr2
        refine RL.ord ha13 ?_
        clear hv hg hr2
        refine RO.one 14 ?_
        refine RL.app (L := phLay) (el := 99) (S := fun _ => True) (B := wA.heap.size) (ys := hdj.drop k) h0 hr ((hsr.drop hkl).mono fun b hb => ⟨trivial, hr.ne' hb⟩) (by rw [List.length_drop, List.length_append, List.length_take]; simp only [List.length_cons, List.length_nil]; omega) (Nat.le_refl _) h0.size fun v98 w17 h0 hr2 hg hv => ?_
        have ha13 := ha13.keep (Grown.keep hg) (hr.ne' hl13)
        have hr := hr2
        rw [List.append_assoc] at hr
        refine RL.ord ha13 ?_
        clear hv hg hr2
        have hS13 := ha13
        refine RO.tk 15 ?_
        refine RO.done (RL.nil ?_)
        have hlo : ∀ g, v98.ownBlock = some g → wA.heap.size ≤ g := fun g hg => (hr.lt g hg).1
        have hrl : ∀ b, b < wA.heap.size → relab labj v98 none b = labj b := fun b hb => by
          unfold relab
          rw [if_neg fun e => by have := hlo b e; omega]
        refine nextc (v98, hdj.take k ++ ⟨tn, .slice none 0 0, .slice none 0 0, .slice none 0 0⟩ :: hdj.drop k, relab labj v98 none) _ _ ⟨h0, ?_, hrl⟩ sb
        have hins : insP pj tn = pj.take k ++ ⟨⟨tn, []⟩, [], []⟩ :: pj.drop k := by
          unfold insP
          rw [hhas, if_neg (by decide), hk]
        rw [hins]
        exact hpj.insert (by simpa using (hr.no (S' := Nn)).base hwB) (by rw [← hl]; exact hkl) (fun b hb => (hrl b (by omega)).trans (hbs b hb)) hrl (fun b hb _ => h0.block hb) (fun g hg => relab_own g hg)
  rintro ⟨v1, hds1, lab1⟩ wB ⟨hAB, h1, hl1⟩
  simp only at h1 hl1 ⊢
  obtain ⟨p0, hp0, hpn, hpm⟩ := insP_at (l := pj) (n := tn)
  rw [hk] at hp0
  have hs1 := insP_sorted (n := tn) hsoj
  have hnd := sorted_nodup hs1
  have hbound : smallP (80 * i + 10 * j) p0 := by
    rcases hpm with h2 | h2
    · exact hsmj p0 h2
    · rw [h2]; exact ⟨Nat.zero_le _, Nat.zero_le _, Nat.zero_le _⟩
  obtain ⟨a0, ha0, han⟩ := h1.hd hp0
  obtain ⟨g, c1', cs, rfl, hg0, ⟨rfl, hq1, hq2, hq3⟩, hklt, _, _⟩ := h1.row.get ha0
  have hg0 : At wB g (0 + k * 4) [.string a0.name, a0.fv, a0.ov, a0.hv] := hg0
  have hOB : Off labj wA wB := Off.of_up hAB
  have huB := huA.trans hAB
  have hwBB : B ≤ wB.heap.size := Nat.le_trans hwB hAB.size
  have hown0 := h1.own0 g rfl
  obtain ⟨hh1, hh2⟩ := h1.hs k a0 p0 ha0 hp0
  obtain ⟨hva, hvn, hvc2, hhv⟩ := hh1.sh
  have h7A := hb7.at
  have hyA := hyat
  have h7B := h7A.up hAB
  have hyB := hyA.up hAB
  have h13B := ha13.up hAB
  have hl7' := hb7.lt
  have hlyA := hyA.lt
  repeat (first | refine RL.vv ?_ | refine RL.p ?_ | refine RL.nil ?_ | refine Sim.seq ?_ | refine Sim.region ?_ | refine Sim.block ?_ | refine Sim.skip ?_ | refine Sim.inBlock ?_ | refine Sim.exit rfl ?_ | refine Sim.condT rfl ?_ | refine Sim.condF rfl ?_)
  refine Sim.ordD [17] (fun wq => At wq g (0 + k * 4) [.string a0.name, a0.fv, a0.ov, a0.hv] ∧ At wq b7 0 [.slice (some ⟨yb, yo, none⟩) s.types.length c1, .slice a2 s.changes.length c2, .slice a3 s.things.length c3] ∧ At wq yb (yo + j * 2) [.string t.name, yv]) (fun _ => True) ?_ mixed
  have tv' : True := trivial
  have hd := Up.drew wB
  have hS1 : At wB.drew g (0 + k * 4) [.string a0.name, a0.fv, a0.ov, a0.hv] ∧ At wB.drew b7 0 [.slice (some ⟨yb, yo, none⟩) s.types.length c1, .slice a2 s.changes.length c2, .slice a3 s.things.length c3] ∧ At wB.drew yb (yo + j * 2) [.string t.name, yv] := ⟨hg0.up hd, h7B.up hd, hyB.up hd⟩
  refine RD.tk 0 ?_
  refine RD.tk 1 ?_
  refine RD.tk 2 ?_
  refine RD.tk 3 ?_
  refine RD.tk 4 ?_ (hy := fun wq hq => y_loadF rfl hq.1 rfl)
  refine RD.tk 5 ?_
  refine RD.tk 6 ?_
  refine RD.tk 7 ?_ (hy := fun wq hq => y_load0 rfl hq.2.1 rfl)
  refine RD.tk 8 ?_
  refine RD.tk 9 ?_ (hy := fun wq hq => y_indexAddr (i := j) (k := 2) rfl rfl hsj)
  refine RD.tk 10 ?_
  refine RD.tk 11 ?_ (hy := fun wq hq => y_load0 rfl hq.2.2 rfl)
  refine RD.tk 12 ?_ (hy := fun wq hq => y_build (v := .agg #[.int .i64 (i : Int), .string t.name, .string ⟨#[]⟩]) rfl (fun w => by kernel_rfl))
  refine RD.one 13 ?_
  refine RL.bu (el := 139) [.int .i64 (i : Int), .string t.name, .string ⟨#[]⟩] hd fun b115 w4' he115 hle115 h24 h hb115 => ?_
  have hh4 := hh1.up h24
  refine RL.od tv' ⟨hg0.up h24, h7B.up h24, hyB.up h24⟩ ?_
  refine RD.one 14 ?_
  refine RL.app (L := ownLay) (el := 139) (S := fun _ => True) (B := B) (ys := [⟨(i : Int), t.name, ⟨#[]⟩⟩]) (huB.trans h24) hh4.no (SliceOf.one hb115 ⟨trivial, fun e => by have := (hh1.lt b115 e.symm).2; have := hle115; omega⟩ rfl) (by have := hbound.2.2; simp only [List.length_cons, List.length_nil]; omega) hs4 (Nat.le_trans hwBB h24.size) fun v5 w5' hu5 ho5 hg5 hv5 => ?_
  obtain ⟨xa', xn', xc', rfl⟩ := ho5.sh
  have hgne : some g ≠ a0.hv.ownBlock := fun e => by have := hh2 g e.symm; rw [hown0] at this; cases this
  have h7ne : some b7 ≠ a0.hv.ownBlock := fun e => by have := hh2 b7 e.symm; rw [hl1 b7 hl7', hn7] at this; cases this
  have hyne : some yb ≠ a0.hv.ownBlock := fun e => by have := hh2 yb e.symm; rw [hl1 yb (by omega), hny] at this; cases this
  have hg05 := (hg0.up h24).keep (Grown.keep hg5) hgne
  have h75 := (h7B.up h24).keep (Grown.keep hg5) h7ne
  have hy5 := (hyB.up h24).keep (Grown.keep hg5) hyne
  have hr5 := (h1.row.up h24).keep (Grown.keep hg5) (fun _ h => h.elim) (fun b hb => by simp only [Value.ownBlock, Option.some.injEq] at hb; subst hb; exact hgne)
  have hS5 : At w5' g (0 + k * 4) [.string a0.name, a0.fv, a0.ov, a0.hv] ∧ At w5' b7 0 [.slice (some ⟨yb, yo, none⟩) s.types.length c1, .slice a2 s.changes.length c2, .slice a3 s.things.length c3] ∧ At w5' yb (yo + j * 2) [.string t.name, yv] := ⟨hg05, h75, hy5⟩
  refine RL.od tv' hS5 ?_
  refine RD.tm 15 ?_
  refine RD.tm 16 ?_
  refine RD.one 17 ?_
  refine RL.wr (i := k) (j := 3) (k := 4) (o := 0 + k * 4 + 3) (u := .slice xa' xn' xc') (x' := ⟨a0.name, a0.fv, a0.ov, .slice xa' xn' xc'⟩) hr5 ha0 (fun w6' hb6 hr6 => ?_) (hupd := by rintro _ ⟨rfl, h1, h2, h3⟩; exact ⟨rfl, h1, h2, rfl⟩)
  refine RL.ox tv' ?_
  refine RD.done (RL.nil ?_)
  obtain ⟨h6, hO6, hl6⟩ := h1.put_hv hnd hp0 ha0 h24 hg5 ho5 hv5 hb6 hr6
  generalize hp1 : (⟨p0.type, p0.owners, p0.homes ++ [⟨(i : Int), t.name, ⟨#[]⟩⟩]⟩ : Prt) = p1 at h6
  have hp1n : p1.type.name = tn := by rw [← hp1]; exact hpn
  have hb1 : p1.type.fields.length ≤ 80 * i + 10 * j ∧ p1.owners.length ≤ 80 * i + 10 * j ∧ p1.homes.length ≤ 80 * i + 10 * j + 1 := by
    rw [← hp1]
    exact ⟨hbound.1, hbound.2.1, by have := hbound.2.2; simp only [List.length_append, List.length_cons, List.length_nil]; omega⟩
  have hO6 : Off labj wA w6' := hOB.trans hO6 hl1
  have hlab6 : ∀ b, b < wA.heap.size → relab lab1 (.slice xa' xn' xc') (some (p0.type.name, 2)) b = labj b := fun b hb => (hl6 b (Nat.lt_of_lt_of_le hb hAB.size)).trans (hl1 b hb)
  generalize relab lab1 (.slice xa' xn' xc') (some (p0.type.name, 2)) = lab6 at *
  generalize hds1.set k ⟨a0.name, a0.fv, a0.ov, .slice xa' xn' xc'⟩ = hds6 at *
  have hadd : addM pj (i : Int) ⟨⟨tn, tf⟩, t.name, fl⟩ = (addF (i : Int) t.name p1 (tf.zip fl)).map fun p' => (insP pj tn).set k p' := by
    unfold addM
    simp only [hk, hp0, hp1]
  rw [hadd] at heqj
  have hpn' : ∀ p : Prt, p.type.name = tn → Sorted ((insP pj tn).set k p) := fun p hp => sorted_set hs1 hp0 (hp.trans hpn.symm)
  have hkp : k < (insP pj tn).length := (List.getElem?_eq_some_iff.1 hp0).1
  have hsm1 : ∀ p ∈ insP pj tn, smallP (80 * i + 10 * j) p := fun p hp => by
    unfold insP at hp
    split at hp
    · exact hsmj p hp
    · rcases List.mem_append.1 hp with h | h
      · exact hsmj p (List.mem_of_mem_take h)
      · rcases List.mem_cons.1 h with rfl | h
        · exact ⟨Nat.zero_le _, Nat.zero_le _, Nat.zero_le _⟩
        · exact hsmj p (List.mem_of_mem_drop h)
  have h13w : At w6' b13 0 [.string tn, .slice fa tf.length fc] := ha13.keep hO6.keep hn13
  have hfvA := hfv
  have hnvA := hnv
  have hoatA := hoat
  clear hS1 hS5 hg5 ho5 hv5 hb6 hr6 hr5 hd h24 hb115 h hu5 hh4 hg0 hg05 h75 hy5 h7B hyB h13B
  repeat (first | refine RL.vv ?_ | refine RL.p ?_ | refine RL.nil ?_ | refine Sim.seq ?_ | refine Sim.region ?_ | refine Sim.block ?_ | refine Sim.skip ?_ | refine Sim.inBlock ?_ | refine Sim.exit rfl ?_ | refine Sim.condT rfl ?_ | refine Sim.condF rfl ?_)
  refine Sim.loop (σ := Nat × List Ph × Prt × Lab) (fun st => [(0, .slice (some ⟨vb, vo, none⟩) l.length lc), (3, .pointer (some ⟨b3, 0, none⟩)), (24, .slice (some ⟨vb, vo, none⟩) l.length lc), (25, .int .i64 (l.length : Int)), (26, .int .i64 (i : Int)), (6, .int .i64 (i : Int)), (7, .pointer (some ⟨b7, 0, none⟩)), (11, .slice (some ⟨ob, oo, none⟩) (sns.map (·.fields)).length wc), (45, .slice (some ⟨qb, qo', none⟩) (sns.map (·.type)).length tc), (46, .int .i64 ((sns.map (·.type)).length : Int)), (47, .int .i64 (j : Int)), (5, .slice (some ⟨g, 0, none⟩) hds1.length c1'), (12, .int .i64 (j : Int)), (15, .pointer (some ⟨g, 0 + k * 4, none⟩)), (120, .slice fa tf.length fc), (121, .int .i64 (tf.length : Int)), (122, .int .i64 (st.1 : Int))])
    (fun st w' => st.1 ≤ tf.length ∧ Off labj wA w' ∧ PartsAt B w' (.slice (some ⟨g, 0, none⟩) hds1.length c1') st.2.1 ((insP pj tn).set k st.2.2.1) st.2.2.2 ∧ (∀ b, b < wA.heap.size → st.2.2.2 b = labj b) ∧ st.2.2.1.type.name = tn ∧ (st.2.2.1.type.fields.length ≤ 80 * i + 10 * j + st.1 ∧ st.2.2.1.owners.length ≤ 80 * i + 10 * j + st.1 ∧ st.2.2.1.homes.length ≤ 80 * i + 10 * j + 1) ∧ addF (i : Int) t.name p1 (tf.zip fl) = addF (i : Int) t.name st.2.2.1 ((tf.zip fl).drop st.1))
    (fun st => tf.length - st.1) (0, hds6, p1, lab6) sb ⟨Nat.zero_le _, hO6, h6, hlab6, hp1n, hb1, rfl⟩ ?_
  clear h6 hlab6 hp1n hb1 hO6 h13w hl6
  rintro ⟨m, hdm, pm, labm⟩ w7' ⟨hm, hO7, h7, hl7m, hn7m, hb7m, heqm⟩ next4
  simp only at hm h7 hl7m hn7m hb7m heqm next4 ⊢
  have hu7' := hO7.up huA hs4 hbs
  have hfl : fl.length = tf.length := e3
  by_cases hltm : m < tf.length
  rotate_left
  · have : m = tf.length := by omega
    subst this
    rw [List.drop_eq_nil_of_le (by rw [List.length_zip]; omega)] at heqm
    have haddM : addM pj (i : Int) ⟨⟨tn, tf⟩, t.name, fl⟩ = some ((insP pj tn).set k pm) := by rw [hadd, heqm]; rfl
    rw [heqm] at heqj
    have heqj : addsM (i : Int) ps sns = addsM (i : Int) ((insP pj tn).set k pm) (sns.drop (j + 1)) := heqj
    have hb3' := hb3.keep hO7.keep (hbs b3 hlt3)
    have hb7' := hb7.keep hO7.keep hn7
    have hs7' := hO7.size
    repeat (first | refine RL.vv ?_ | refine RL.p ?_ | refine RL.nil ?_ | refine Sim.seq ?_ | refine Sim.region ?_ | refine Sim.block ?_ | refine Sim.skip ?_ | refine Sim.inBlock ?_ | refine Sim.exit rfl ?_ | refine Sim.condT rfl ?_ | refine Sim.condF rfl ?_)
    refine next2 (j + 1, .slice (some ⟨g, 0, none⟩) hds1.length c1', hdm, (insP pj tn).set k pm, labm) _ _ ⟨by first | omega | (simp only; omega), hu7', by first | omega | (simp only; omega), hb3', h7, fun b hb1 hb2 => (hl7m b (by omega)).trans (hnjT b (.inl ⟨hb1, hb2⟩)), hb7', htv.keep (fun b hb hlt => hO7.block b hlt (hnjT b (.inl hb))), hov.keep (fun b hb hlt => hO7.block b hlt (hnjT b (.inl hb))), addM_sorted hsoj haddM, ?_, fun p hp => ?_, heqj⟩ (by first | omega | (simp only; omega)) sb
    · have := addM_len haddM
      simp only
      omega
    · simp only
      rcases List.mem_or_eq_of_mem_set hp with h | rfl
      · obtain ⟨h1, h2, h3⟩ := hsm1 p h
        exact ⟨by omega, by omega, by omega⟩
      · exact ⟨by omega, by omega, by omega⟩
  have hx : tf[m]? = some tf[m] := List.getElem?_eq_getElem hltm
  have hy2 : fl[m]? = some (fl[m]'(by omega)) := List.getElem?_eq_getElem (by omega)
  have hzip : (tf.zip fl).drop m = (tf[m], fl[m]'(by omega)) :: (tf.zip fl).drop (m + 1) := by
    rw [List.drop_eq_getElem_cons (by rw [List.length_zip]; omega), List.getElem_zip]
  have hlabN : ∀ b, w5.heap.size ≤ b ∧ b < w13.heap.size → labj b = none := fun b hb => hnjT b (.inl hb)
  obtain ⟨fb, fo, cs, rfl, hfb0, hfat, rfl, _⟩ := hfvA.at hx
  obtain ⟨nb, no, cs, rfl, hnb0, hnat, rfl, _⟩ := hnvA.at hy2
  have hfat : At wA fb (fo + m * 3) _ := hfat
  have hnat : At wA nb (no + m * 1) _ := hnat
  have hlnb := hnat.lt
  have hlob := hoatA.lt
  have hfat := hfat.keep hO7.keep (hlabN fb hfb0)
  have hnat := hnat.keep hO7.keep (hlabN nb hnb0)
  have h77 := h7A.keep hO7.keep hn7
  have hy7 := hyA.keep hO7.keep hny
  have ho7 := hoatA.keep hO7.keep hno
  have hmfl : m < fl.length := by omega
  generalize tf[m] = f at *
  generalize (fl[m]'(by omega)) = o at *
  repeat (first | refine RL.vv ?_ | refine RL.p ?_ | refine RL.nil ?_ | refine Sim.seq ?_ | refine Sim.region ?_ | refine Sim.block ?_ | refine Sim.skip ?_ | refine Sim.inBlock ?_ | refine Sim.exit rfl ?_ | refine Sim.condT rfl ?_ | refine Sim.condF rfl ?_)
  refine RL.al (.refl w7') fun b17 w8' he17 hle17 h78 _ hb17 => ?_
  repeat (first | refine RL.vv ?_ | refine RL.p ?_ | refine RL.nil ?_ | refine Sim.seq ?_ | refine Sim.region ?_ | refine Sim.block ?_ | refine Sim.skip ?_ | refine Sim.inBlock ?_ | refine Sim.exit rfl ?_ | refine Sim.condT rfl ?_ | refine Sim.condF rfl ?_)
  refine RL.st h78 hb17 hle17 fun w9' h79 _ hb17 => ?_
  have hb17 : Box w9' b17 68 [.string f.name, .int .i64 f.kind, .string f.type] := hb17
  have h9 := h7.up h79
  have hpk : ((insP pj tn).set k pm)[k]? = some pm := List.getElem?_set_self hkp
  obtain ⟨aj, haj, hanj⟩ := h9.hd hpk
  obtain ⟨g', c', cs, he'', hgj, ⟨rfl, hq1, hq2, hq3⟩, _⟩ := h9.row.get haj
  simp only [Value.slice.injEq, Option.some.injEq, Addr.mk.injEq, and_true] at he''
  obtain ⟨rfl, hln, rfl⟩ := he''
  have hgj : At w9' g (0 + k * 4) [.string aj.name, aj.fv, aj.ov, aj.hv] := hgj
  have hnd9 := sorted_nodup (hpn' pm hn7m)
  obtain ⟨hf1, hf2⟩ := h9.fs k aj pm haj hpk
  have hfj := (hf1.no (S' := Nn)).sl (S' := fun _ => True) (fun _ h _ _ => h.elim) (fun _ _ => trivial)
  have ha17 := hb17.at
  have hu9' := hu7'.trans h79
  have h79s := h79.size
  have h7b := h77.up h79
  have hyb := hy7.up h79
  have hobt := ho7.up h79
  have hnbt := hnat.up h79
  clear h78 hfat h77 hy7 ho7 hnat
  obtain ⟨fva, fvn, fvc, hfv'⟩ := hf1.sh
  repeat (first | refine RL.vv ?_ | refine RL.p ?_ | refine RL.nil ?_ | refine Sim.seq ?_ | refine Sim.region ?_ | refine Sim.block ?_ | refine Sim.skip ?_ | refine Sim.inBlock ?_ | refine Sim.exit rfl ?_ | refine Sim.condT rfl ?_ | refine Sim.condF rfl ?_)
  by_cases hc : 0 ≤ fieldF pm.type.fields f.name
  · refine Sim.q ?_
    repeat (first | refine RQ.vv ?_ | refine RQ.p ?_)
    refine RQ.cu (fun wq hq => q_call (RHas_any f.name wq (hfj.up hq)) hq) ?_
    refine RQ.nil fun w10' h910 => ?_
    rw [decide_eq_true hc]
    have haF : addM pj (i : Int) ⟨⟨tn, tf⟩, t.name, fl⟩ = none := by
      rw [hadd, heqm, hzip]
      simp only [addF, if_pos hc, Option.map_none]
    have heqm2 : addF (i : Int) t.name p1 (tf.zip fl) = none := by
      rw [heqm, hzip]
      simp only [addF, if_pos hc]
    rw [heqm2] at heqj
    have heqj : addsM (i : Int) ps sns = none := heqj
    rw [heqj] at heq
    rw [heq]
    have hb3' := ((hb3.keep hO7.keep (hbs b3 hlt3)).up h79).up h910
    have hu10 := hu9'.trans h910
    repeat (first | refine RL.vv ?_ | refine RL.p ?_ | refine RL.nil ?_ | refine Sim.seq ?_ | refine Sim.region ?_ | refine Sim.block ?_ | refine Sim.skip ?_ | refine Sim.inBlock ?_ | refine Sim.exit rfl ?_ | refine Sim.condT rfl ?_ | refine Sim.condF rfl ?_)
    refine RL.val trivial rfl (y_build (v := .agg #[.int .i64 6, .int .i64 (i : Int)]) rfl (fun w => by kernel_rfl)) ?_
    repeat (first | refine RL.vv ?_ | refine RL.p ?_ | refine RL.nil ?_ | refine Sim.seq ?_ | refine Sim.region ?_ | refine Sim.block ?_ | refine Sim.skip ?_ | refine Sim.inBlock ?_ | refine Sim.exit rfl ?_ | refine Sim.condT rfl ?_ | refine Sim.condF rfl ?_)
    refine RL.st hu10 hb3' hle3 fun w11' hu11 hbt hb3' => ?_
    repeat (first | refine RL.vv ?_ | refine RL.p ?_ | refine RL.nil ?_ | refine Sim.seq ?_ | refine Sim.region ?_ | refine Sim.block ?_ | refine Sim.skip ?_ | refine Sim.inBlock ?_ | refine Sim.exit rfl ?_ | refine Sim.condT rfl ?_ | refine Sim.condF rfl ?_)
    exact Sim.retTC (cs := [.int .i64 6, .int .i64 (i : Int)]) Try.func41 rfl rfl rfl hb3'.at rfl ⟨_, rfl, hu11, [], fun _ => none, PartsAt.nil _ _⟩
  refine Sim.q ?_
  repeat (first | refine RQ.vv ?_ | refine RQ.p ?_)
  refine RQ.cu (fun wq hq => q_call (RHas_any f.name wq (hfj.up hq)) hq) ?_
  refine RQ.nil fun w10' h910 => ?_
  rw [decide_eq_false hc]
  have hO10 : Off labj wA w10' := hO7.trans (Off.of_up (lab := labm) (h79.trans h910)) (fun b hb => hl7m b hb)
  have hB10 : B ≤ w10'.heap.size := Nat.le_trans hwB hO10.size
  have h10a := h9.up h910
  have hgj := hgj.up h910
  have hb17 := hb17.up h910
  have h7b := h7b.up h910
  have hyb := hyb.up h910
  have hobt := hobt.up h910
  have hnbt := hnbt.up h910
  have hu10 := hu9'.trans h910
  have hs10 := h10a.own0 g rfl
  have hn7j : labm b7 = none := by rw [hl7m b7 hl7']; exact hn7
  have hnyj : labm yb = none := by rw [hl7m yb hlyA]; exact hny
  have hnoj : labm ob = none := by rw [hl7m ob hlob]; exact hno
  have hnnj : labm nb = none := by rw [hl7m nb hlnb]; exact hlabN nb hnb0
  obtain ⟨hf1, hf2⟩ := h10a.fs k aj pm haj hpk
  have h910s := h910.size
  clear ha17 hfj h9
  repeat (first | refine RL.vv ?_ | refine RL.p ?_ | refine RL.nil ?_ | refine Sim.seq ?_ | refine Sim.region ?_ | refine Sim.block ?_ | refine Sim.skip ?_ | refine Sim.inBlock ?_ | refine Sim.exit rfl ?_ | refine Sim.condT rfl ?_ | refine Sim.condF rfl ?_)
  refine Sim.ordD [12] (fun wq => At wq g (0 + k * 4) [.string aj.name, aj.fv, aj.ov, aj.hv] ∧ At wq b17 0 [.string f.name, .int .i64 f.kind, .string f.type]) (fun _ => True) ?_ mixed
  have hd := Up.drew w10'
  have hS1 : At w10'.drew g (0 + k * 4) [.string aj.name, aj.fv, aj.ov, aj.hv] ∧ At w10'.drew b17 0 [.string f.name, .int .i64 f.kind, .string f.type] := ⟨hgj.up hd, hb17.at.up hd⟩
  refine RD.tk 0 ?_
  refine RD.tk 1 ?_
  refine RD.tk 2 ?_
  refine RD.tk 3 ?_
  refine RD.tk 4 ?_
  refine RD.tk 5 ?_ (hy := fun wq hq => y_loadF rfl hq.1 rfl)
  refine RD.tk 6 ?_ (hy := fun wq hq => y_loadA rfl hq.2 rfl)
  refine RD.one 7 ?_
  refine RL.bu (el := 68) [.string f.name, .int .i64 f.kind, .string f.type] hd fun b144 w4' he144 hle144 h24 h hb144 => ?_
  refine RL.od tv' ⟨hgj.up h24, hb17.at.up h24⟩ ?_
  refine RD.one 8 ?_
  refine RL.app (L := fldLay) (el := 68) (S := fun _ => True) (B := B) (ys := [f]) (hu10.trans h24) (hf1.up h24).no (SliceOf.one hb144 ⟨trivial, fun e => by have := (hf1.lt b144 e.symm).2; have := hle144; omega⟩ rfl) (by have := hb7m.1; simp only [List.length_cons, List.length_nil]; omega) hs4 (Nat.le_trans hB10 h24.size) fun v5 w5' hu5 ho5 hg5 hv5 => ?_
  obtain ⟨ya', yn', yc', rfl⟩ := ho5.sh
  have hgne : some g ≠ aj.fv.ownBlock := fun e => by have := hf2 g e.symm; rw [hs10] at this; cases this
  have h7ne : some b7 ≠ aj.fv.ownBlock := fun e => by have := hf2 b7 e.symm; rw [hn7j] at this; cases this
  have hyne : some yb ≠ aj.fv.ownBlock := fun e => by have := hf2 yb e.symm; rw [hnyj] at this; cases this
  have hone : some ob ≠ aj.fv.ownBlock := fun e => by have := hf2 ob e.symm; rw [hnoj] at this; cases this
  have hnne : some nb ≠ aj.fv.ownBlock := fun e => by have := hf2 nb e.symm; rw [hnnj] at this; cases this
  have h17ne : some b17 ≠ aj.fv.ownBlock := fun e => by have := ((h7.fs k aj pm haj hpk).1.lt b17 e.symm).2; omega
  have hS5 : At w5' g (0 + k * 4) [.string aj.name, aj.fv, aj.ov, aj.hv] ∧ At w5' b17 0 [.string f.name, .int .i64 f.kind, .string f.type] := ⟨(hgj.up h24).keep (Grown.keep hg5) hgne, (hb17.at.up h24).keep (Grown.keep hg5) h17ne⟩
  have hr5 := (h10a.row.up h24).keep (Grown.keep hg5) (fun _ h => h.elim) (fun b hb => by simp only [Value.ownBlock, Option.some.injEq] at hb; subst hb; exact hgne)
  have h7b := (h7b.up h24).keep (Grown.keep hg5) h7ne
  have hyb := (hyb.up h24).keep (Grown.keep hg5) hyne
  have hobt := (hobt.up h24).keep (Grown.keep hg5) hone
  have hnbt := (hnbt.up h24).keep (Grown.keep hg5) hnne
  refine RL.od tv' hS5 ?_
  refine RD.tm 9 ?_
  refine RD.tm 10 ?_
  refine RD.tm 11 ?_
  refine RD.one 12 ?_
  refine RL.wr (i := k) (j := 1) (k := 4) (o := 0 + k * 4 + 0 + 1) (u := .slice ya' yn' yc') (x' := ⟨aj.name, .slice ya' yn' yc', aj.ov, aj.hv⟩) hr5 haj (fun w6' hb6 hr6 => ?_) (hupd := by rintro _ ⟨rfl, h1, h2, h3⟩; exact ⟨rfl, rfl, h2, h3⟩)
  refine RL.ox tv' ?_
  refine RD.done (RL.nil ?_)
  obtain ⟨h6, hO6, hl6⟩ := h10a.put_fv hnd9 hpk haj h24 hg5 ho5 hv5 hb6 hr6
  have hO11 : Off labj wA w6' := hO10.trans hO6 hl7m
  have hl11 : ∀ b, b < wA.heap.size → relab labm (.slice ya' yn' yc') (some (pm.type.name, 0)) b = labj b := fun b hb => (hl6 b (Nat.lt_of_lt_of_le hb hO10.size)).trans (hl7m b hb)
  have hg7 : b7 ≠ g := fun e => by rw [e, hs10] at hn7j; cases hn7j
  have hgy : yb ≠ g := fun e => by rw [e, hs10] at hnyj; cases hnyj
  have hgo : ob ≠ g := fun e => by rw [e, hs10] at hnoj; cases hnoj
  have hgn : nb ≠ g := fun e => by rw [e, hs10] at hnnj; cases hnnj
  have h7b := h7b.keep hb6.keep hg7
  have hyb := hyb.keep hb6.keep hgy
  have hobt := hobt.keep hb6.keep hgo
  have hnbt := hnbt.keep hb6.keep hgn
  have hB11 : B ≤ w6'.heap.size := Nat.le_trans hwB hO11.size
  rw [List.set_set] at h6
  generalize relab labm (.slice ya' yn' yc') (some (pm.type.name, 0)) = lab6' at *
  have hu11 := hO11.up huA hs4 hbs
  have hpj2 : ((⟨⟨pm.type.name, pm.type.fields ++ [f]⟩, pm.owners, pm.homes⟩ : Prt).type.name = tn) := hn7m
  generalize hpj' : (⟨⟨pm.type.name, pm.type.fields ++ [f]⟩, pm.owners, pm.homes⟩ : Prt) = pj2 at h6 hpj2
  have hpk2 : ((insP pj tn).set k pj2)[k]? = some pj2 := List.getElem?_set_self hkp
  have hnd6 := sorted_nodup (hpn' pj2 hpj2)
  have hlk : k < hdm.length := (List.getElem?_eq_some_iff.1 haj).1
  have haj2 : (hdm.set k ⟨aj.name, .slice ya' yn' yc', aj.ov, aj.hv⟩)[k]? = some ⟨aj.name, .slice ya' yn' yc', aj.ov, aj.hv⟩ := List.getElem?_set_self hlk
  obtain ⟨g', c', cs, he'', hgj6, ⟨rfl, _⟩, _⟩ := h6.row.get haj2
  simp only [Value.slice.injEq, Option.some.injEq, Addr.mk.injEq, and_true] at he''
  obtain ⟨rfl, _, rfl⟩ := he''
  have hgj6 : At w6' g (0 + k * 4) [.string aj.name, .slice ya' yn' yc', aj.ov, aj.hv] := hgj6
  obtain ⟨ho1, ho2⟩ := h6.os k _ pj2 haj2 hpk2
  simp only at ho1 ho2
  have hs6 := h6.own0 g rfl
  obtain ⟨ova, ovn, ovc, hov'⟩ := ho1.sh
  have hn76 : lab6' b7 = none := by rw [hl11 b7 hl7']; exact hn7
  have hny6 : lab6' yb = none := by rw [hl11 yb hlyA]; exact hny
  have hno6 : lab6' ob = none := by rw [hl11 ob hlob]; exact hno
  have hnn6 : lab6' nb = none := by rw [hl11 nb hlnb]; exact hlabN nb hnb0
  have hobd : pj2.owners.length ≤ 80 * i + 10 * j + m ∧ pj2.type.fields.length ≤ 80 * i + 10 * j + m + 1 ∧ pj2.homes.length ≤ 80 * i + 10 * j + 1 := by
    rw [← hpj']
    exact ⟨hb7m.2.1, by have := hb7m.1; simp only [List.length_append, List.length_cons, List.length_nil]; omega, hb7m.2.2⟩
  clear hS1 hS5 hr5 hg5 ho5 hv5 hb6 hr6 hd h24 hle144 he144 hb144 h hu5 hb17
  repeat (first | refine RL.vv ?_ | refine RL.p ?_ | refine RL.nil ?_ | refine Sim.seq ?_ | refine Sim.region ?_ | refine Sim.block ?_ | refine Sim.skip ?_ | refine Sim.inBlock ?_ | refine Sim.exit rfl ?_ | refine Sim.condT rfl ?_ | refine Sim.condF rfl ?_)
  refine Sim.ordD [24] (fun wq => At wq g (0 + k * 4) [.string aj.name, .slice ya' yn' yc', aj.ov, aj.hv] ∧ At wq b7 0 [.slice (some ⟨yb, yo, none⟩) s.types.length c1, .slice a2 s.changes.length c2, .slice a3 s.things.length c3] ∧ At wq yb (yo + j * 2) [.string t.name, yv] ∧ At wq ob (oo + j * 1) [.slice (some ⟨nb, no, none⟩) fl.length nc] ∧ At wq nb (no + m * 1) [.string o]) (fun _ => True) ?_ mixed
  have hd := Up.drew w6'
  have hS1 : At w6'.drew g (0 + k * 4) [.string aj.name, .slice ya' yn' yc', aj.ov, aj.hv] ∧ At w6'.drew b7 0 [.slice (some ⟨yb, yo, none⟩) s.types.length c1, .slice a2 s.changes.length c2, .slice a3 s.things.length c3] ∧ At w6'.drew yb (yo + j * 2) [.string t.name, yv] ∧ At w6'.drew ob (oo + j * 1) [.slice (some ⟨nb, no, none⟩) fl.length nc] ∧ At w6'.drew nb (no + m * 1) [.string o] := ⟨hgj6.up hd, h7b.up hd, hyb.up hd, hobt.up hd, hnbt.up hd⟩
  refine RD.tk 0 ?_
  refine RD.tk 1 ?_
  refine RD.tk 2 ?_
  refine RD.tk 3 ?_
  refine RD.tk 4 ?_ (hy := fun wq hq => y_loadF rfl hq.1 rfl)
  refine RD.tk 5 ?_
  refine RD.tk 6 ?_
  refine RD.tk 7 ?_ (hy := fun wq hq => y_load0 rfl hq.2.1 rfl)
  refine RD.tk 8 ?_
  refine RD.tk 9 ?_ (hy := fun wq hq => y_indexAddr (i := j) (k := 2) rfl rfl hsj)
  refine RD.tk 10 ?_
  refine RD.tk 11 ?_ (hy := fun wq hq => y_load0 rfl hq.2.2.1 rfl)
  refine RD.tk 12 ?_
  refine RD.tk 13 ?_
  refine RD.tk 14 ?_ (hy := fun wq hq => y_indexAddr (i := j) (k := 1) rfl rfl hojl)
  refine RD.tk 15 ?_ (hy := fun wq hq => y_load0 rfl hq.2.2.2.1 rfl)
  refine RD.tk 16 ?_
  refine RD.tk 17 ?_ (hy := fun wq hq => y_indexAddr (i := m) (k := 1) rfl rfl hmfl)
  refine RD.tk 18 ?_ (hy := fun wq hq => y_load0 rfl hq.2.2.2.2 rfl)
  refine RD.tk 19 ?_ (hy := fun wq hq => y_build (v := .agg #[.int .i64 (i : Int), .string t.name, .string o]) rfl (fun w => by kernel_rfl))
  refine RD.one 20 ?_
  refine RL.bu (el := 139) [.int .i64 (i : Int), .string t.name, .string o] hd fun b169 w4' he169 hle169 h24 h hb169 => ?_
  refine RL.od tv' ⟨hgj6.up h24, h7b.up h24, hyb.up h24, hobt.up h24, hnbt.up h24⟩ ?_
  refine RD.one 21 ?_
  refine RL.app (L := ownLay) (el := 139) (S := fun _ => True) (B := B) (ys := [⟨(i : Int), t.name, o⟩]) (hu11.trans h24) (ho1.up h24).no (SliceOf.one hb169 ⟨trivial, fun e => by have := (ho1.lt b169 e.symm).2; have := hle169; omega⟩ rfl) (by have := hobd.1; simp only [List.length_cons, List.length_nil]; omega) hs4 (Nat.le_trans hB11 h24.size) fun v5 w5' hu5 ho5 hg5 hv5 => ?_
  obtain ⟨za', zn', zc', rfl⟩ := ho5.sh
  have hgne : some g ≠ aj.ov.ownBlock := fun e => by have := ho2 g e.symm; rw [hs6] at this; cases this
  have h7ne : some b7 ≠ aj.ov.ownBlock := fun e => by have := ho2 b7 e.symm; rw [hn76] at this; cases this
  have hyne : some yb ≠ aj.ov.ownBlock := fun e => by have := ho2 yb e.symm; rw [hny6] at this; cases this
  have hone : some ob ≠ aj.ov.ownBlock := fun e => by have := ho2 ob e.symm; rw [hno6] at this; cases this
  have hnne : some nb ≠ aj.ov.ownBlock := fun e => by have := ho2 nb e.symm; rw [hnn6] at this; cases this
  have hr5 := (h6.row.up h24).keep (Grown.keep hg5) (fun _ h => h.elim) (fun b hb => by simp only [Value.ownBlock, Option.some.injEq] at hb; subst hb; exact hgne)
  refine RL.od tv' ⟨(hgj6.up h24).keep (Grown.keep hg5) hgne, (h7b.up h24).keep (Grown.keep hg5) h7ne, (hyb.up h24).keep (Grown.keep hg5) hyne, (hobt.up h24).keep (Grown.keep hg5) hone, (hnbt.up h24).keep (Grown.keep hg5) hnne⟩ ?_
  have hS1 : At w5' g (0 + k * 4) [.string aj.name, .slice ya' yn' yc', aj.ov, aj.hv] ∧ At w5' b7 0 [.slice (some ⟨yb, yo, none⟩) s.types.length c1, .slice a2 s.changes.length c2, .slice a3 s.things.length c3] ∧ At w5' yb (yo + j * 2) [.string t.name, yv] ∧ At w5' ob (oo + j * 1) [.slice (some ⟨nb, no, none⟩) fl.length nc] ∧ At w5' nb (no + m * 1) [.string o] := ⟨(hgj6.up h24).keep (Grown.keep hg5) hgne, (h7b.up h24).keep (Grown.keep hg5) h7ne, (hyb.up h24).keep (Grown.keep hg5) hyne, (hobt.up h24).keep (Grown.keep hg5) hone, (hnbt.up h24).keep (Grown.keep hg5) hnne⟩
  refine RD.tm 22 ?_
  refine RD.tm 23 ?_
  refine RD.one 24 ?_
  refine RL.wr (i := k) (j := 2) (k := 4) (o := 0 + k * 4 + 2) (u := .slice za' zn' zc') (x' := ⟨aj.name, .slice ya' yn' yc', .slice za' zn' zc', aj.hv⟩) hr5 haj2 (fun w12' hb12' hr12 => ?_) (hupd := by rintro _ ⟨rfl, h1, h2, h3⟩; exact ⟨rfl, h1, rfl, h3⟩)
  refine RL.ox tv' ?_
  refine RD.done (RL.nil ?_)
  obtain ⟨h12, hO12, hl12⟩ := h6.put_ov hnd6 hpk2 haj2 h24 hg5 ho5 hv5 hb12' hr12
  rw [List.set_set, List.set_set] at h12
  repeat (first | refine RL.vv ?_ | refine RL.p ?_ | refine RL.nil ?_ | refine Sim.seq ?_ | refine Sim.region ?_ | refine Sim.block ?_ | refine Sim.skip ?_ | refine Sim.inBlock ?_ | refine Sim.exit rfl ?_ | refine Sim.condT rfl ?_ | refine Sim.condF rfl ?_)
  refine next4 (m + 1, _, ⟨pj2.type, pj2.owners ++ [⟨(i : Int), t.name, o⟩], pj2.homes⟩, _) _ _ ⟨by simp only; omega, hO11.trans hO12 hl11, h12, fun b hb => (hl12 b (Nat.lt_of_lt_of_le hb hO11.size)).trans (hl11 b hb), hpj2, ⟨by simp only; omega, by simp only [List.length_append, List.length_cons, List.length_nil]; omega, by simp only; omega⟩, ?_⟩ (by simp only; omega) sb
  rw [heqm, hzip]
  simp only [addF, if_neg hc]
  rw [← hpj']
end Go.Proofs.Ytgckpmcdlciibac
