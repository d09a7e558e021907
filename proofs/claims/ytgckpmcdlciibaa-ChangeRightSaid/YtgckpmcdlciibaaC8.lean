import Derived.Test.YtgckpmcdlciibaaC7
namespace Go.Proofs.Ytgckpmcdlciibaa
open Go.RowKit

def okTs (l : List Typ) : Prop := ∀ t ∈ l, t.name.size ≤ maxLen ∧ ∀ f ∈ t.fields, f.name.size ≤ maxLen
theorem mem_of_get {α : Type} {l : List α} {i : Nat} {x : α} (h : l[i]? = some x) : x ∈ l := List.mem_of_getElem? h
theorem findT_nat {l : List Typ} {n : Str} (h : 0 ≤ findT l n) : ∃ j : Nat, findT l n = (j : Int) := ⟨(findT l n).toNat, by omega⟩
theorem findT_neg {l : List Typ} {n : Str} (h : ¬ 0 ≤ findT l n) : findT l n = -1 := firstIdx_neg h

set_option maxHeartbeats 2000000 in
theorem RWrong_any {S : Nat → Prop} {v : Value} {l : List Typ} (w : World) (hl : SliceOf typLay S w v l) (hok : okTs l) :
    Calls Try.prog 28 #[v] w fun en w' => en = .returned (fltV (wrongT l)) ∧ Up w w' := by
  refine calls_of_sim Try.func28 rfl (Nat.le_of_ble_eq_true rfl) ?_
  obtain ⟨a, c, rfl, hnc, hcm, hel⟩ := id hl
  unfold maxLen at hcm
  repeat (first | refine RL.vv ?_ | refine RL.p ?_ | refine RL.nil ?_ | refine Sim.seq ?_ | refine Sim.region ?_ | refine Sim.block ?_ | refine Sim.skip ?_ | refine Sim.inBlock ?_ | refine Sim.exit rfl ?_ | refine Sim.condT rfl ?_ | refine Sim.condF rfl ?_)
  refine RL.alloc trivial rfl fun w1 hu hb hsz => ?_
  have hlt0 : w.heap.size < w1.heap.size := by omega
  by_cases hbig : (8 : Int) < l.length
  · repeat (first | refine RL.vv ?_ | refine RL.p ?_ | refine RL.nil ?_ | refine Sim.seq ?_ | refine Sim.region ?_ | refine Sim.block ?_ | refine Sim.skip ?_ | refine Sim.inBlock ?_ | refine Sim.exit rfl ?_ | refine Sim.condT rfl ?_ | refine Sim.condF rfl ?_)
    refine RL.val trivial rfl (y_build (v := .agg #[.int .i64 4, .int .i64 0]) rfl (fun w => by kernel_rfl)) ?_
    refine RL.store trivial rfl rfl hb rfl rfl (by simp [Value.oneCell']) (Nat.le_of_ble_eq_true rfl) rfl fun w2 hb2 hb3 => ?_
    have hu := hu.but hb2 (Nat.le_refl _)
    repeat (first | refine RL.vv ?_ | refine RL.p ?_ | refine RL.nil ?_ | refine Sim.seq ?_ | refine Sim.region ?_ | refine Sim.block ?_ | refine Sim.skip ?_ | refine Sim.inBlock ?_ | refine Sim.exit rfl ?_ | refine Sim.condT rfl ?_ | refine Sim.condF rfl ?_)
    exact Sim.retC Try.func28 rfl rfl hb3.at rfl ⟨by rw [wrongT, if_pos (by omega)]; rfl, hu⟩
  have hw : wrongT l = _ := if_neg (by omega)
  repeat (first | refine RL.vv ?_ | refine RL.p ?_ | refine RL.nil ?_ | refine Sim.seq ?_ | refine Sim.region ?_ | refine Sim.block ?_ | refine Sim.skip ?_ | refine Sim.inBlock ?_ | refine Sim.exit rfl ?_ | refine Sim.condT rfl ?_ | refine Sim.condF rfl ?_)
  refine Sim.loop (σ := Nat) (fun i => [(0, .slice a l.length c), (2, .pointer (some ⟨w.heap.size, 0, none⟩)), (14, .slice a l.length c), (15, .int .i64 (l.length : Int)), (16, .int .i64 (i : Int))]) (fun i w' => i ≤ l.length ∧ Up w w' ∧ Box w' w.heap.size 51 [.int .i64 0, .int .i64 0] ∧ ∀ (j : Nat) x, j < i → l[j]? = some x → nameErr l j x = 0) (fun i => l.length - i) 0 sb ⟨Nat.zero_le _, hu, hb, fun j x hj => absurd hj (Nat.not_lt_zero _)⟩ ?_
  clear hu hb hlt0 hsz w1
  rintro i w1 ⟨hi, hu, hb, hno⟩ next
  by_cases hlt : i < l.length
  · have hx : l[i]? = some l[i] := List.getElem?_eq_getElem hlt
    obtain ⟨b, o, cs, rfl, _, hat, ⟨fv, rfl, hfv⟩, _⟩ := hl.at hx
    obtain ⟨fa, fc, rfl, _⟩ := id hfv
    have hat : At w b (o + i * 2) _ := hat
    have htk := (hl.take (i := i) (by omega))
    have bad : nameErr l i l[i] = 6 → wrongT l = ⟨6, i⟩ := fun h => by rw [hw, firstBad_hit hx hno (by rw [h]; decide), h]
    have good := goodTo (g := nameErr l) hx hno
    have hsz := (hok _ (mem_of_get hx)).1
    unfold nameErr at bad good
    generalize l[i] = t at *
    clear hno
    repeat (first | refine RL.vv ?_ | refine RL.p ?_ | refine RL.nil ?_ | refine Sim.seq ?_ | refine Sim.region ?_ | refine Sim.block ?_ | refine Sim.skip ?_ | refine Sim.inBlock ?_ | refine Sim.exit rfl ?_ | refine Sim.condT rfl ?_ | refine Sim.condF rfl ?_)
    refine RL.alloc trivial rfl fun w2 hu2 hb2 _ => ?_
    repeat (first | refine RL.vv ?_ | refine RL.p ?_ | refine RL.nil ?_ | refine Sim.seq ?_ | refine Sim.region ?_ | refine Sim.block ?_ | refine Sim.skip ?_ | refine Sim.inBlock ?_ | refine Sim.exit rfl ?_ | refine Sim.condT rfl ?_ | refine Sim.condF rfl ?_)
    refine RL.store trivial rfl rfl hb2 rfl rfl (by simp [Value.oneCell']) (Nat.le_of_ble_eq_true rfl) rfl fun w3 hb3 hb4 => ?_
    have hb := (hb.up hu2).keep hb3.keep (by have := hb.lt; omega)
    have hu := (hu.trans hu2).but hb3 hu.size
    clear hb2 hb3 hu2
    repeat (first | refine RL.vv ?_ | refine RL.p ?_ | refine RL.nil ?_ | refine Sim.seq ?_ | refine Sim.region ?_ | refine Sim.block ?_ | refine Sim.skip ?_ | refine Sim.inBlock ?_ | refine Sim.exit rfl ?_ | refine Sim.condT rfl ?_ | refine Sim.condF rfl ?_)
    refine Sim.quiet (Up w3) mixed (by kernel_rfl) (Up.drew _) ?_
    repeat (first | refine RQ.vv ?_ | refine RQ.p ?_)
    rcases Bool.eq_false_or_eq_true (named t.name) with hn | hn
    · refine RQ.call trivial rfl (fun wq hq => c_static rfl) (fun wq hq => q_call (c_val (RNamed_any t.name wq hsz) (by rw [hn])) hq) ?_
      repeat (first | refine RQ.vv ?_ | refine RQ.p ?_)
      by_cases hF : 0 ≤ findT (l.take i) t.name
      · obtain ⟨j, hj⟩ := findT_nat hF
        refine RQ.call ⟨_, _, rfl, rfl, rfl⟩ rfl (fun wq hq => c_static rfl) (fun wq hq => q_same (c_val (RType_any t.name wq (htk.up (hu.trans hq))) (by rw [hj, ptrAt_nat])) hq) ?_
        repeat (first | refine RQ.vv ?_ | refine RQ.p ?_)
        refine RQ.nil fun w4 hq => ?_
        have hu := hu.trans hq
        have hb := hb.up hq
        repeat (first | refine RL.vv ?_ | refine RL.p ?_ | refine RL.nil ?_ | refine Sim.seq ?_ | refine Sim.region ?_ | refine Sim.block ?_ | refine Sim.skip ?_ | refine Sim.inBlock ?_ | refine Sim.exit rfl ?_ | refine Sim.condT rfl ?_ | refine Sim.condF rfl ?_)
        refine RL.val trivial rfl (y_build (v := .agg #[.int .i64 6, .int .i64 (i : Int)]) rfl (fun w => by kernel_rfl)) ?_
        refine RL.store trivial rfl rfl hb rfl rfl (by simp [Value.oneCell']) (Nat.le_of_ble_eq_true rfl) rfl fun w2 hb2 hb3 => ?_
        have hu := hu.but hb2 (Nat.le_refl _)
        repeat (first | refine RL.vv ?_ | refine RL.p ?_ | refine RL.nil ?_ | refine Sim.seq ?_ | refine Sim.region ?_ | refine Sim.block ?_ | refine Sim.skip ?_ | refine Sim.inBlock ?_ | refine Sim.exit rfl ?_ | refine Sim.condT rfl ?_ | refine Sim.condF rfl ?_)
        exact Sim.retC Try.func28 rfl rfl hb3.at rfl ⟨by rw [bad (if_neg (fun h => h.2 hF))]; rfl, hu⟩
      refine RQ.call ⟨_, _, rfl, rfl, rfl⟩ rfl (fun wq hq => c_static rfl) (fun wq hq => q_same (c_val (RType_any t.name wq (htk.up (hu.trans hq))) (by rw [findT_neg hF, ptrAt_neg])) hq) ?_
      repeat (first | refine RQ.vv ?_ | refine RQ.p ?_)
      refine RQ.nil fun w4 hq => ?_
      repeat (first | refine RL.vv ?_ | refine RL.p ?_ | refine RL.nil ?_ | refine Sim.seq ?_ | refine Sim.region ?_ | refine Sim.block ?_ | refine Sim.skip ?_ | refine Sim.inBlock ?_ | refine Sim.exit rfl ?_ | refine Sim.condT rfl ?_ | refine Sim.condF rfl ?_)
      exact next (i + 1) _ _ ⟨by omega, hu.trans hq, hb.up hq, good (if_pos ⟨hn, hF⟩)⟩ (by omega) sb
    · refine RQ.call trivial rfl (fun wq hq => c_static rfl) (fun wq hq => q_call (c_val (RNamed_any t.name wq hsz) (by rw [hn])) hq) ?_
      repeat (first | refine RQ.vv ?_ | refine RQ.p ?_)
      refine RQ.nil fun w4 hq => ?_
      have hu := hu.trans hq
      have hb := hb.up hq
      repeat (first | refine RL.vv ?_ | refine RL.p ?_ | refine RL.nil ?_ | refine Sim.seq ?_ | refine Sim.region ?_ | refine Sim.block ?_ | refine Sim.skip ?_ | refine Sim.inBlock ?_ | refine Sim.exit rfl ?_ | refine Sim.condT rfl ?_ | refine Sim.condF rfl ?_)
      refine RL.val trivial rfl (y_build (v := .agg #[.int .i64 6, .int .i64 (i : Int)]) rfl (fun w => by kernel_rfl)) ?_
      refine RL.store trivial rfl rfl hb rfl rfl (by simp [Value.oneCell']) (Nat.le_of_ble_eq_true rfl) rfl fun w2 hb2 hb3 => ?_
      have hu := hu.but hb2 (Nat.le_refl _)
      repeat (first | refine RL.vv ?_ | refine RL.p ?_ | refine RL.nil ?_ | refine Sim.seq ?_ | refine Sim.region ?_ | refine Sim.block ?_ | refine Sim.skip ?_ | refine Sim.inBlock ?_ | refine Sim.exit rfl ?_ | refine Sim.condT rfl ?_ | refine Sim.condF rfl ?_)
      exact Sim.retC Try.func28 rfl rfl hb3.at rfl ⟨by rw [bad (if_neg (fun h => by rw [hn] at h; cases h.1))]; rfl, hu⟩
  clear next
  rw [firstBad_none (goodAll hno hlt)] at hw
  clear hno hi
  simp only at hw
  repeat (first | refine RL.vv ?_ | refine RL.p ?_ | refine RL.nil ?_ | refine Sim.seq ?_ | refine Sim.region ?_ | refine Sim.block ?_ | refine Sim.skip ?_ | refine Sim.inBlock ?_ | refine Sim.exit rfl ?_ | refine Sim.condT rfl ?_ | refine Sim.condF rfl ?_)
  clear hlt
  refine Sim.loop (σ := Nat) (fun i => [(0, .slice a l.length c), (2, .pointer (some ⟨w.heap.size, 0, none⟩)), (37, .slice a l.length c), (38, .int .i64 (l.length : Int)), (39, .int .i64 (i : Int))]) (fun i w' => i ≤ l.length ∧ Up w w' ∧ Box w' w.heap.size 51 [.int .i64 0, .int .i64 0] ∧ ∀ (j : Nat) x, j < i → l[j]? = some x → (fun _ t => fieldsErr l t) j x = 0) (fun i => l.length - i) 0 sb ⟨Nat.zero_le _, hu, hb, fun j x hj => absurd hj (Nat.not_lt_zero _)⟩ ?_
  clear hu hb w1
  rintro i w1 ⟨hi, hu, hb, hno⟩ next
  by_cases hlt : i < l.length
  · have hx : l[i]? = some l[i] := List.getElem?_eq_getElem hlt
    obtain ⟨b, o, cs, rfl, _, hat, ⟨fv, rfl, hfv⟩, _⟩ := hl.at hx
    obtain ⟨fa, fc, rfl, hfnc, hfcm, _⟩ := id hfv
    unfold maxLen at hfcm
    have hat : At w b (o + i * 2) _ := hat
    have bad : ∀ r, fieldsErr l l[i] = r → r ≠ 0 → wrongT l = ⟨r, i⟩ := fun r hr h => by rw [hw, firstBad_hit hx hno (by rw [hr]; exact h)]; simp only [hr]
    have good := goodTo (g := fun _ t => fieldsErr l t) hx hno
    have hokf := (hok _ (mem_of_get hx)).2
    generalize l[i] = t at *
    clear hno
    repeat (first | refine RL.vv ?_ | refine RL.p ?_ | refine RL.nil ?_ | refine Sim.seq ?_ | refine Sim.region ?_ | refine Sim.block ?_ | refine Sim.skip ?_ | refine Sim.inBlock ?_ | refine Sim.exit rfl ?_ | refine Sim.condT rfl ?_ | refine Sim.condF rfl ?_)
    refine RL.alloc trivial rfl fun w2 hu2 hb5 hs2 => ?_
    refine RL.alloc trivial rfl fun w3 hu3 hb6 hs3 => ?_
    refine RL.store trivial rfl rfl (hb5.up hu3) rfl rfl (by simp [Value.oneCell']) (Nat.le_of_ble_eq_true rfl) rfl fun w4 hc4 hb5 => ?_
    refine RL.store trivial rfl rfl (hb6.keep hc4.keep (by omega)) rfl rfl (by simp [Value.oneCell']) (Nat.le_of_ble_eq_true rfl) rfl fun w5 hc5 hb6 => ?_
    have hb5 := hb5.keep hc5.keep (by omega)
    have hl0 := hb.lt
    have hb := (((hb.up hu2).up hu3).keep hc4.keep (by omega)).keep hc5.keep (by omega)
    have hu := (((hu.trans hu2).trans hu3).but hc4 (hu.size)).but hc5 (by have := hu.size; omega)
    have hs1 : w.heap.size < w1.heap.size := hl0
    have hs5 := hb6.lt
    generalize w1.heap.size = p5 at *
    generalize w2.heap.size = p6 at *
    clear hu2 hu3 hc4 hc5
    by_cases hmany : (10 : Int) < t.fields.length
    · repeat (first | refine RL.vv ?_ | refine RL.p ?_ | refine RL.nil ?_ | refine Sim.seq ?_ | refine Sim.region ?_ | refine Sim.block ?_ | refine Sim.skip ?_ | refine Sim.inBlock ?_ | refine Sim.exit rfl ?_ | refine Sim.condT rfl ?_ | refine Sim.condF rfl ?_)
      refine RL.call trivial rfl (c_closure rfl rfl) (RWrong1_any 4 i _ _ hb5.at) ?_
      rintro _ w9 ⟨rfl, hu9⟩
      refine ⟨_, rfl, ?_⟩
      refine RL.store trivial rfl rfl (hb.up hu9) rfl rfl (by simp [Value.oneCell']) (Nat.le_of_ble_eq_true rfl) rfl fun w10 hc10 hb10 => ?_
      repeat (first | refine RL.vv ?_ | refine RL.p ?_ | refine RL.nil ?_ | refine Sim.seq ?_ | refine Sim.region ?_ | refine Sim.block ?_ | refine Sim.skip ?_ | refine Sim.inBlock ?_ | refine Sim.exit rfl ?_ | refine Sim.condT rfl ?_ | refine Sim.condF rfl ?_)
      exact Sim.retC Try.func28 rfl rfl hb10.at rfl ⟨by rw [bad 4 (if_pos (by omega)) (by decide)]; rfl, (hu.trans hu9).but hc10 (Nat.le_refl _)⟩
    have hfe : fieldsErr l t = _ := if_neg (by omega)
    repeat (first | refine RL.vv ?_ | refine RL.p ?_ | refine RL.nil ?_ | refine Sim.seq ?_ | refine Sim.region ?_ | refine Sim.block ?_ | refine Sim.skip ?_ | refine Sim.inBlock ?_ | refine Sim.exit rfl ?_ | refine Sim.condT rfl ?_ | refine Sim.condF rfl ?_)
    refine Sim.loop (σ := Nat) (fun m => [(0, .slice (some ⟨b, o, none⟩) l.length c), (2, .pointer (some ⟨w.heap.size, 0, none⟩)), (37, .slice (some ⟨b, o, none⟩) l.length c), (38, .int .i64 (l.length : Int)), (39, .int .i64 (i : Int)), (6, .pointer (some ⟨p6, 0, none⟩)), (7, .func (.func 62) #[] #[.pointer (some ⟨p5, 0, none⟩)]), (52, .slice fa t.fields.length fc), (53, .int .i64 (t.fields.length : Int)), (54, .int .i64 (m : Int))])
      (fun m w' => m ≤ t.fields.length ∧ Up w w' ∧ Box w' w.heap.size 51 [.int .i64 0, .int .i64 0] ∧ Box w' p5 3 [.int .i64 i] ∧ Box w' p6 55 [.string t.name, .slice fa t.fields.length fc] ∧ ∀ (j : Nat) x, j < m → t.fields[j]? = some x → fieldErr l t.fields j x = 0) (fun m => t.fields.length - m) 0 sb ⟨Nat.zero_le _, hu, hb, hb5, hb6, fun j x hj => absurd hj (Nat.not_lt_zero _)⟩ ?_
    clear hu hb hb5 hb6 hs5 hs2 hs3
    rintro m w2 ⟨hm, hu, hb, hb5, hb6, hno⟩ next2
    by_cases hlm : m < t.fields.length
    · clear next
      have hxm : t.fields[m]? = some t.fields[m] := List.getElem?_eq_getElem hlm
      obtain ⟨b', o', cs', rfl, _, hat2, rfl, _⟩ := hfv.at hxm
      have hat2 : At w b' (o' + m * 3) _ := hat2
      have hbad : ∀ r, fieldErr l t.fields m t.fields[m] = r → r ≠ 0 → wrongT l = ⟨r, i⟩ := fun r hr hne => bad r (by rw [hfe, firstBad_hit hxm hno (by rw [hr]; exact hne)]; exact hr) hne
      have hgood := goodTo (g := fieldErr l t.fields) hxm hno
      have hsz := hokf _ (mem_of_get hxm)
      have htk := (hfv.take (i := m) (by omega))
      unfold fieldErr at hbad hgood
      generalize t.fields[m] = f at *
      clear hno good bad
      repeat (first | refine RL.vv ?_ | refine RL.p ?_ | refine RL.nil ?_ | refine Sim.seq ?_ | refine Sim.region ?_ | refine Sim.block ?_ | refine Sim.skip ?_ | refine Sim.inBlock ?_ | refine Sim.exit rfl ?_ | refine Sim.condT rfl ?_ | refine Sim.condF rfl ?_)
      refine RL.alloc trivial rfl fun w3 hu3 hb9 _ => ?_
      repeat (first | refine RL.vv ?_ | refine RL.p ?_ | refine RL.nil ?_ | refine Sim.seq ?_ | refine Sim.region ?_ | refine Sim.block ?_ | refine Sim.skip ?_ | refine Sim.inBlock ?_ | refine Sim.exit rfl ?_ | refine Sim.condT rfl ?_ | refine Sim.condF rfl ?_)
      refine RL.store trivial rfl rfl hb9 rfl rfl (by simp [Value.oneCell']) (Nat.le_of_ble_eq_true rfl) rfl fun w4 hc4 hb9 => ?_
      have hb := (hb.up hu3).keep hc4.keep (by have := hb.lt; omega)
      have hb5 := (hb5.up hu3).keep hc4.keep (by have := hb5.lt; omega)
      have hb6 := (hb6.up hu3).keep hc4.keep (by have := hb6.lt; omega)
      have hu := (hu.trans hu3).but hc4 hu.size
      clear hu3 hc4
      generalize w2.heap.size = p9 at *
      repeat (first | refine RL.vv ?_ | refine RL.p ?_ | refine RL.nil ?_ | refine Sim.seq ?_ | refine Sim.region ?_ | refine Sim.block ?_ | refine Sim.skip ?_ | refine Sim.inBlock ?_ | refine Sim.exit rfl ?_ | refine Sim.condT rfl ?_ | refine Sim.condF rfl ?_)
      refine Sim.quiet (Up w4) mixed (by kernel_rfl) (Up.drew _) ?_
      repeat (first | refine RQ.vv ?_ | refine RQ.p ?_)
      rcases Bool.eq_false_or_eq_true (named f.name) with hn | hn
      · refine RQ.call trivial rfl (fun wq hq => c_static rfl) (fun wq hq => q_call (c_val (RNamed_any f.name wq hsz) (by rw [hn])) hq) ?_
        repeat (first | refine RQ.vv ?_ | refine RQ.p ?_)
        by_cases hF : 0 ≤ fieldF (t.fields.take m) f.name
        · refine RQ.call ⟨_, _, rfl, rfl, rfl⟩ rfl (fun wq hq => c_static rfl) (fun wq hq => q_call (c_val (RHas_any f.name wq (htk.up (hu.trans hq))) (by rw [decide_eq_true hF])) hq) ?_
          repeat (first | refine RQ.vv ?_ | refine RQ.p ?_)
          refine RQ.nil fun w5 hq => ?_
          have hu := hu.trans hq
          have hb := hb.up hq
          have hb5 := hb5.up hq
          repeat (first | refine RL.vv ?_ | refine RL.p ?_ | refine RL.nil ?_ | refine Sim.seq ?_ | refine Sim.region ?_ | refine Sim.block ?_ | refine Sim.skip ?_ | refine Sim.inBlock ?_ | refine Sim.exit rfl ?_ | refine Sim.condT rfl ?_ | refine Sim.condF rfl ?_)
          refine RL.call trivial rfl (c_closure rfl rfl) (RWrong1_any 6 i _ _ hb5.at) ?_
          rintro _ w9 ⟨rfl, hu9⟩
          refine ⟨_, rfl, ?_⟩
          refine RL.store trivial rfl rfl (hb.up hu9) rfl rfl (by simp [Value.oneCell']) (Nat.le_of_ble_eq_true rfl) rfl fun w10 hc10 hb10 => ?_
          repeat (first | refine RL.vv ?_ | refine RL.p ?_ | refine RL.nil ?_ | refine Sim.seq ?_ | refine Sim.region ?_ | refine Sim.block ?_ | refine Sim.skip ?_ | refine Sim.inBlock ?_ | refine Sim.exit rfl ?_ | refine Sim.condT rfl ?_ | refine Sim.condF rfl ?_)
          exact Sim.retC Try.func28 rfl rfl hb10.at rfl ⟨by rw [hbad 6 (if_neg (fun h => h.2 hF)) (by decide)]; rfl, (hu.trans hu9).but hc10 (Nat.le_refl _)⟩
        refine RQ.call ⟨_, _, rfl, rfl, rfl⟩ rfl (fun wq hq => c_static rfl) (fun wq hq => q_call (c_val (RHas_any f.name wq (htk.up (hu.trans hq))) (by rw [decide_eq_false hF])) hq) ?_
        repeat (first | refine RQ.vv ?_ | refine RQ.p ?_)
        refine RQ.nil fun w5 hq => ?_
        have hu := hu.trans hq
        have hb := hb.up hq
        have hb5 := hb5.up hq
        have hb6 := hb6.up hq
        have hb9 := hb9.up hq
        rw [if_pos ⟨hn, hF⟩] at hbad hgood
        clear hq
        by_cases k1 : f.kind = 1
        · rw [if_neg (by omega), if_pos k1] at hbad hgood
          by_cases ht : f.type = ⟨#[]⟩
          · rw [if_pos ht] at hgood
            repeat (first | refine RL.vv ?_ | refine RL.p ?_ | refine RL.nil ?_ | refine Sim.seq ?_ | refine Sim.region ?_ | refine Sim.block ?_ | refine Sim.skip ?_ | refine Sim.inBlock ?_ | refine Sim.exit rfl ?_ | refine Sim.condT rfl ?_ | refine Sim.condF rfl ?_)
            exact next2 (m + 1) _ _ ⟨by omega, hu, hb, hb5, hb6, hgood rfl⟩ (by omega) sb
          · repeat (first | refine RL.vv ?_ | refine RL.p ?_ | refine RL.nil ?_ | refine Sim.seq ?_ | refine Sim.region ?_ | refine Sim.block ?_ | refine Sim.skip ?_ | refine Sim.inBlock ?_ | refine Sim.exit rfl ?_ | refine Sim.condT rfl ?_ | refine Sim.condF rfl ?_)
            refine RL.call trivial rfl (c_closure rfl rfl) (RWrong1_any 7 i _ _ hb5.at) ?_
            rintro _ w9 ⟨rfl, hu9⟩
            refine ⟨_, rfl, ?_⟩
            refine RL.store trivial rfl rfl (hb.up hu9) rfl rfl (by simp [Value.oneCell']) (Nat.le_of_ble_eq_true rfl) rfl fun w10 hc10 hb10 => ?_
            repeat (first | refine RL.vv ?_ | refine RL.p ?_ | refine RL.nil ?_ | refine Sim.seq ?_ | refine Sim.region ?_ | refine Sim.block ?_ | refine Sim.skip ?_ | refine Sim.inBlock ?_ | refine Sim.exit rfl ?_ | refine Sim.condT rfl ?_ | refine Sim.condF rfl ?_)
            exact Sim.retC Try.func28 rfl rfl hb10.at rfl ⟨by rw [hbad 7 (if_neg ht) (by decide)]; rfl, (hu.trans hu9).but hc10 (Nat.le_refl _)⟩
        by_cases k2 : f.kind = 2
        · rw [if_neg (by omega), if_neg k1] at hbad hgood
          by_cases hT : findT l f.type < 0
          · repeat (first | refine RL.vv ?_ | refine RL.p ?_ | refine RL.nil ?_ | refine Sim.seq ?_ | refine Sim.region ?_ | refine Sim.block ?_ | refine Sim.skip ?_ | refine Sim.inBlock ?_ | refine Sim.exit rfl ?_ | refine Sim.condT rfl ?_ | refine Sim.condF rfl ?_)
            refine RL.call trivial rfl (c_static rfl) (c_val (RType_any f.type _ (hl.up hu)) (by rw [findT_neg (by omega), ptrAt_neg])) ?_
            rintro _ w9 ⟨rfl, rfl⟩
            refine ⟨_, rfl, ?_⟩
            repeat (first | refine RL.vv ?_ | refine RL.p ?_ | refine RL.nil ?_ | refine Sim.seq ?_ | refine Sim.region ?_ | refine Sim.block ?_ | refine Sim.skip ?_ | refine Sim.inBlock ?_ | refine Sim.exit rfl ?_ | refine Sim.condT rfl ?_ | refine Sim.condF rfl ?_)
            refine RL.call trivial rfl (c_closure rfl rfl) (RWrong1_any 5 i _ _ hb5.at) ?_
            rintro _ w9 ⟨rfl, hu9⟩
            refine ⟨_, rfl, ?_⟩
            refine RL.store trivial rfl rfl (hb.up hu9) rfl rfl (by simp [Value.oneCell']) (Nat.le_of_ble_eq_true rfl) rfl fun w10 hc10 hb10 => ?_
            repeat (first | refine RL.vv ?_ | refine RL.p ?_ | refine RL.nil ?_ | refine Sim.seq ?_ | refine Sim.region ?_ | refine Sim.block ?_ | refine Sim.skip ?_ | refine Sim.inBlock ?_ | refine Sim.exit rfl ?_ | refine Sim.condT rfl ?_ | refine Sim.condF rfl ?_)
            exact Sim.retC Try.func28 rfl rfl hb10.at rfl ⟨by rw [hbad 5 (if_pos hT) (by decide)]; rfl, (hu.trans hu9).but hc10 (Nat.le_refl _)⟩
          · rw [if_neg hT] at hgood
            obtain ⟨j, hj⟩ := findT_nat (l := l) (n := f.type) (by omega)
            repeat (first | refine RL.vv ?_ | refine RL.p ?_ | refine RL.nil ?_ | refine Sim.seq ?_ | refine Sim.region ?_ | refine Sim.block ?_ | refine Sim.skip ?_ | refine Sim.inBlock ?_ | refine Sim.exit rfl ?_ | refine Sim.condT rfl ?_ | refine Sim.condF rfl ?_)
            refine RL.call trivial rfl (c_static rfl) (c_val (RType_any f.type _ (hl.up hu)) (by rw [hj, ptrAt_nat])) ?_
            rintro _ w9 ⟨rfl, rfl⟩
            refine ⟨_, rfl, ?_⟩
            repeat (first | refine RL.vv ?_ | refine RL.p ?_ | refine RL.nil ?_ | refine Sim.seq ?_ | refine Sim.region ?_ | refine Sim.block ?_ | refine Sim.skip ?_ | refine Sim.inBlock ?_ | refine Sim.exit rfl ?_ | refine Sim.condT rfl ?_ | refine Sim.condF rfl ?_)
            exact next2 (m + 1) _ _ ⟨by omega, hu, hb, hb5, hb6, hgood rfl⟩ (by omega) sb
        by_cases k3 : f.kind = 3
        · rw [if_neg (by omega), if_neg k1] at hbad hgood
          by_cases hT : findT l f.type < 0
          · repeat (first | refine RL.vv ?_ | refine RL.p ?_ | refine RL.nil ?_ | refine Sim.seq ?_ | refine Sim.region ?_ | refine Sim.block ?_ | refine Sim.skip ?_ | refine Sim.inBlock ?_ | refine Sim.exit rfl ?_ | refine Sim.condT rfl ?_ | refine Sim.condF rfl ?_)
            refine RL.call trivial rfl (c_static rfl) (c_val (RType_any f.type _ (hl.up hu)) (by rw [findT_neg (by omega), ptrAt_neg])) ?_
            rintro _ w9 ⟨rfl, rfl⟩
            refine ⟨_, rfl, ?_⟩
            repeat (first | refine RL.vv ?_ | refine RL.p ?_ | refine RL.nil ?_ | refine Sim.seq ?_ | refine Sim.region ?_ | refine Sim.block ?_ | refine Sim.skip ?_ | refine Sim.inBlock ?_ | refine Sim.exit rfl ?_ | refine Sim.condT rfl ?_ | refine Sim.condF rfl ?_)
            refine RL.call trivial rfl (c_closure rfl rfl) (RWrong1_any 5 i _ _ hb5.at) ?_
            rintro _ w9 ⟨rfl, hu9⟩
            refine ⟨_, rfl, ?_⟩
            refine RL.store trivial rfl rfl (hb.up hu9) rfl rfl (by simp [Value.oneCell']) (Nat.le_of_ble_eq_true rfl) rfl fun w10 hc10 hb10 => ?_
            repeat (first | refine RL.vv ?_ | refine RL.p ?_ | refine RL.nil ?_ | refine Sim.seq ?_ | refine Sim.region ?_ | refine Sim.block ?_ | refine Sim.skip ?_ | refine Sim.inBlock ?_ | refine Sim.exit rfl ?_ | refine Sim.condT rfl ?_ | refine Sim.condF rfl ?_)
            exact Sim.retC Try.func28 rfl rfl hb10.at rfl ⟨by rw [hbad 5 (if_pos hT) (by decide)]; rfl, (hu.trans hu9).but hc10 (Nat.le_refl _)⟩
          · rw [if_neg hT] at hgood
            obtain ⟨j, hj⟩ := findT_nat (l := l) (n := f.type) (by omega)
            repeat (first | refine RL.vv ?_ | refine RL.p ?_ | refine RL.nil ?_ | refine Sim.seq ?_ | refine Sim.region ?_ | refine Sim.block ?_ | refine Sim.skip ?_ | refine Sim.inBlock ?_ | refine Sim.exit rfl ?_ | refine Sim.condT rfl ?_ | refine Sim.condF rfl ?_)
            refine RL.call trivial rfl (c_static rfl) (c_val (RType_any f.type _ (hl.up hu)) (by rw [hj, ptrAt_nat])) ?_
            rintro _ w9 ⟨rfl, rfl⟩
            refine ⟨_, rfl, ?_⟩
            repeat (first | refine RL.vv ?_ | refine RL.p ?_ | refine RL.nil ?_ | refine Sim.seq ?_ | refine Sim.region ?_ | refine Sim.block ?_ | refine Sim.skip ?_ | refine Sim.inBlock ?_ | refine Sim.exit rfl ?_ | refine Sim.condT rfl ?_ | refine Sim.condF rfl ?_)
            exact next2 (m + 1) _ _ ⟨by omega, hu, hb, hb5, hb6, hgood rfl⟩ (by omega) sb
        · repeat (first | refine RL.vv ?_ | refine RL.p ?_ | refine RL.nil ?_ | refine Sim.seq ?_ | refine Sim.region ?_ | refine Sim.block ?_ | refine Sim.skip ?_ | refine Sim.inBlock ?_ | refine Sim.exit rfl ?_ | refine Sim.condT rfl ?_ | refine Sim.condF rfl ?_)
          refine RL.call trivial rfl (c_closure rfl rfl) (RWrong1_any 1 i _ _ hb5.at) ?_
          rintro _ w9 ⟨rfl, hu9⟩
          refine ⟨_, rfl, ?_⟩
          refine RL.store trivial rfl rfl (hb.up hu9) rfl rfl (by simp [Value.oneCell']) (Nat.le_of_ble_eq_true rfl) rfl fun w10 hc10 hb10 => ?_
          repeat (first | refine RL.vv ?_ | refine RL.p ?_ | refine RL.nil ?_ | refine Sim.seq ?_ | refine Sim.region ?_ | refine Sim.block ?_ | refine Sim.skip ?_ | refine Sim.inBlock ?_ | refine Sim.exit rfl ?_ | refine Sim.condT rfl ?_ | refine Sim.condF rfl ?_)
          exact Sim.retC Try.func28 rfl rfl hb10.at rfl ⟨by rw [hbad 1 (if_pos (by omega)) (by decide)]; rfl, (hu.trans hu9).but hc10 (Nat.le_refl _)⟩
      · refine RQ.call trivial rfl (fun wq hq => c_static rfl) (fun wq hq => q_call (c_val (RNamed_any f.name wq hsz) (by rw [hn])) hq) ?_
        repeat (first | refine RQ.vv ?_ | refine RQ.p ?_)
        refine RQ.nil fun w5 hq => ?_
        have hu := hu.trans hq
        have hb := hb.up hq
        have hb5 := hb5.up hq
        repeat (first | refine RL.vv ?_ | refine RL.p ?_ | refine RL.nil ?_ | refine Sim.seq ?_ | refine Sim.region ?_ | refine Sim.block ?_ | refine Sim.skip ?_ | refine Sim.inBlock ?_ | refine Sim.exit rfl ?_ | refine Sim.condT rfl ?_ | refine Sim.condF rfl ?_)
        refine RL.call trivial rfl (c_closure rfl rfl) (RWrong1_any 6 i _ _ hb5.at) ?_
        rintro _ w9 ⟨rfl, hu9⟩
        refine ⟨_, rfl, ?_⟩
        refine RL.store trivial rfl rfl (hb.up hu9) rfl rfl (by simp [Value.oneCell']) (Nat.le_of_ble_eq_true rfl) rfl fun w10 hc10 hb10 => ?_
        repeat (first | refine RL.vv ?_ | refine RL.p ?_ | refine RL.nil ?_ | refine Sim.seq ?_ | refine Sim.region ?_ | refine Sim.block ?_ | refine Sim.skip ?_ | refine Sim.inBlock ?_ | refine Sim.exit rfl ?_ | refine Sim.condT rfl ?_ | refine Sim.condF rfl ?_)
        exact Sim.retC Try.func28 rfl rfl hb10.at rfl ⟨by rw [hbad 6 (if_neg (fun h => by rw [hn] at h; cases h.1)) (by decide)]; rfl, (hu.trans hu9).but hc10 (Nat.le_refl _)⟩
    · clear next2
      repeat (first | refine RL.vv ?_ | refine RL.p ?_ | refine RL.nil ?_ | refine Sim.seq ?_ | refine Sim.region ?_ | refine Sim.block ?_ | refine Sim.skip ?_ | refine Sim.inBlock ?_ | refine Sim.exit rfl ?_ | refine Sim.condT rfl ?_ | refine Sim.condF rfl ?_)
      exact next (i + 1) _ _ ⟨by omega, hu, hb, good (by rw [hfe, firstBad_none (goodAll hno hlm)])⟩ (by omega) sb
  clear next
  rw [firstBad_none (goodAll hno hlt)] at hw
  repeat (first | refine RL.vv ?_ | refine RL.p ?_ | refine RL.nil ?_ | refine Sim.seq ?_ | refine Sim.region ?_ | refine Sim.block ?_ | refine Sim.skip ?_ | refine Sim.inBlock ?_ | refine Sim.exit rfl ?_ | refine Sim.condT rfl ?_ | refine Sim.condF rfl ?_)
  refine RL.val trivial rfl (y_build (v := .agg #[.int .i64 0, .int .i64 0]) rfl (fun w => by kernel_rfl)) ?_
  refine RL.store trivial rfl rfl hb rfl rfl (by simp [Value.oneCell']) (Nat.le_of_ble_eq_true rfl) rfl fun w2 hb2 hb3 => ?_
  have hu := hu.but hb2 (Nat.le_refl _)
  repeat (first | refine RL.vv ?_ | refine RL.p ?_ | refine RL.nil ?_ | refine Sim.seq ?_ | refine Sim.region ?_ | refine Sim.block ?_ | refine Sim.skip ?_ | refine Sim.inBlock ?_ | refine Sim.exit rfl ?_ | refine Sim.condT rfl ?_ | refine Sim.condF rfl ?_)
  exact Sim.retC Try.func28 rfl rfl hb3.at rfl ⟨by rw [hw]; rfl, hu⟩
end Go.Proofs.Ytgckpmcdlciibaa
