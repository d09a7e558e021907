import Derived.Test.YtgckpmcdlciibaaC10
namespace Go.Proofs.Ytgckpmcdlciibaa
open Go.RowKit

def thgErr (l : List Typ) (xs : List Thg) (i : Nat) (x : Thg) : Int :=
  if findT l x.type < 0 then 5 else if named x.key = true ∧ ¬ 0 ≤ thingAt (xs.take i) x.type x.key then (match l[(findT l x.type).toNat]? with
    | some t => valsErr t.fields x.vals
    | none => 5) else 6
def thgsErr (l : List Typ) (xs : List Thg) : Flt :=
  if 60 < xs.length then ⟨4, 0⟩ else match firstBad (thgErr l xs) 0 xs with
    | some (i, e) => ⟨e, i⟩
    | none => ⟨0, 0⟩
theorem findT_get {l : List Typ} {n : Str} (h : ¬ findT l n < 0) : ∃ (j : Nat) (t : Typ), findT l n = (j : Int) ∧ l[j]? = some t ∧ t.name = n ∧ j < l.length := by
  obtain ⟨i, x, h1, h2, h3, h4⟩ := firstIdx_lt (l := l) (p := fun t => decide (t.name = n)) (by unfold findT at h; omega)
  exact ⟨i, x, h1, h2, by simpa using h3, h4⟩

set_option maxHeartbeats 400000 in
theorem ContainsThing_any {S : Nat → Prop} {v : Value} {l : List Thg} (t k : Str) (v2 : Value) (b bo oo : Nat) (w : World) (hl : SliceOf thgLay S w v l) (hb : At w b 0 [.pointer (some ⟨bo, oo, none⟩)]) (ho : At w bo oo [.string t, .string k, v2]) :
    Calls Try.prog 65 #[v, .func (.func 66) #[] #[.pointer (some ⟨b, 0, none⟩)]] w fun en w' => en = .returned (.bool (decide (0 ≤ thingAt l t k))) ∧ Up w w' := by
  obtain ⟨cells, hel, his⟩ := hl.elems
  refine (ContainsFunc_Thing (p := fun i => match l[i]? with | some x => decide (x.type = t ∧ x.key = k) | none => false) hel fun i hi w' hu => ?_).mono ?_
  · obtain ⟨vs, hcs, _⟩ := his i l[i] (List.getElem?_eq_getElem hi)
    rw [hcs]
    refine c_val (Things1_any _ _ t k _ _ _ _ v2 _ (hb.up hu) (ho.up hu)) ?_
    simp only [List.getElem?_eq_getElem hi]
  · rintro _ w' ⟨rfl, hu⟩
    rw [idx_firstIdx l (fun x => decide (x.type = t ∧ x.key = k)) _ (fun i x hx => by simp only [hx])]
    exact ⟨rfl, hu⟩

set_option maxHeartbeats 2000000 in
theorem Things_any {S S' : Nat → Prop} {v xv : Value} {l : List Typ} {xs : List Thg} (w : World) (hl : SliceOf typLay S w v l) (hxs : SliceOf thgLay S' w xv xs) :
    Calls Try.prog 31 #[v, xv] w fun en w' => en = .returned (fltV (thgsErr l xs)) ∧ Up w w' := by
  refine calls_of_sim Try.func31 rfl (Nat.le_of_ble_eq_true rfl) ?_
  obtain ⟨a, c, rfl, hnc, hcm, hel⟩ := id hxs
  obtain ⟨la, lc, rfl, hlnc, hlcm, _⟩ := id hl
  unfold maxLen at hcm hlcm
  repeat (first | refine RL.vv ?_ | refine RL.p ?_ | refine RL.nil ?_ | refine Sim.seq ?_ | refine Sim.region ?_ | refine Sim.block ?_ | refine Sim.skip ?_ | refine Sim.inBlock ?_ | refine Sim.exit rfl ?_ | refine Sim.condT rfl ?_ | refine Sim.condF rfl ?_)
  refine RL.alloc trivial rfl fun w1 hu hb hsz => ?_
  by_cases hbig : (60 : Int) < xs.length
  · repeat (first | refine RL.vv ?_ | refine RL.p ?_ | refine RL.nil ?_ | refine Sim.seq ?_ | refine Sim.region ?_ | refine Sim.block ?_ | refine Sim.skip ?_ | refine Sim.inBlock ?_ | refine Sim.exit rfl ?_ | refine Sim.condT rfl ?_ | refine Sim.condF rfl ?_)
    refine RL.val trivial rfl (y_build (v := .agg #[.int .i64 4, .int .i64 0]) rfl (fun w => by kernel_rfl)) ?_
    refine RL.store trivial rfl rfl hb rfl rfl (by simp [Value.oneCell']) (Nat.le_of_ble_eq_true rfl) rfl fun w2 hb2 hb3 => ?_
    have hu := hu.but hb2 (Nat.le_refl _)
    repeat (first | refine RL.vv ?_ | refine RL.p ?_ | refine RL.nil ?_ | refine Sim.seq ?_ | refine Sim.region ?_ | refine Sim.block ?_ | refine Sim.skip ?_ | refine Sim.inBlock ?_ | refine Sim.exit rfl ?_ | refine Sim.condT rfl ?_ | refine Sim.condF rfl ?_)
    exact Sim.retC Try.func31 rfl rfl hb3.at rfl ⟨by rw [thgsErr, if_pos (by omega)]; rfl, hu⟩
  have hw : thgsErr l xs = _ := if_neg (by omega)
  repeat (first | refine RL.vv ?_ | refine RL.p ?_ | refine RL.nil ?_ | refine Sim.seq ?_ | refine Sim.region ?_ | refine Sim.block ?_ | refine Sim.skip ?_ | refine Sim.inBlock ?_ | refine Sim.exit rfl ?_ | refine Sim.condT rfl ?_ | refine Sim.condF rfl ?_)
  refine Sim.loop (σ := Nat) (fun i => [(0, .slice la l.length lc), (1, .slice a xs.length c), (4, .pointer (some ⟨w.heap.size, 0, none⟩)), (14, .int .i64 (xs.length : Int)), (15, .int .i64 (i : Int))]) (fun i w' => i ≤ xs.length ∧ Up w w' ∧ Box w' w.heap.size 51 [.int .i64 0, .int .i64 0] ∧ ∀ (j : Nat) x, j < i → xs[j]? = some x → thgErr l xs j x = 0) (fun i => xs.length - i) 0 sb ⟨Nat.zero_le _, hu, hb, fun j x hj => absurd hj (Nat.not_lt_zero _)⟩ ?_
  clear hu hb hsz w1
  rintro i w1 ⟨hi, hu, hb, hno⟩ next
  by_cases hlt : i < xs.length
  · have hx : xs[i]? = some xs[i] := List.getElem?_eq_getElem hlt
    obtain ⟨b, o, cs, rfl, _, hat, ⟨kv, rfl, hkv⟩, _⟩ := hxs.at hx
    obtain ⟨ka, kc, rfl, hknc, hkcm, _⟩ := id hkv
    have hat : At w b (o + i * 3) _ := hat
    have htk := (hxs.take (i := i) (by omega))
    have bad : ∀ r, thgErr l xs i xs[i] = r → r ≠ 0 → thgsErr l xs = ⟨r, i⟩ := fun r hr h => by rw [hw, firstBad_hit hx hno (by rw [hr]; exact h)]; simp only [hr]
    have good := goodTo (g := thgErr l xs) hx hno
    unfold thgErr at bad good
    generalize xs[i] = x at *
    clear hno
    repeat (first | refine RL.vv ?_ | refine RL.p ?_ | refine RL.nil ?_ | refine Sim.seq ?_ | refine Sim.region ?_ | refine Sim.block ?_ | refine Sim.skip ?_ | refine Sim.inBlock ?_ | refine Sim.exit rfl ?_ | refine Sim.condT rfl ?_ | refine Sim.condF rfl ?_)
    refine RL.alloc trivial rfl fun w2 hu2 hb6 hs2 => ?_
    refine RL.store trivial rfl rfl hb6 rfl rfl (by simp [Value.oneCell']) (Nat.le_of_ble_eq_true rfl) rfl fun w3 hc3 hb6 => ?_
    have hb := (hb.up hu2).keep hc3.keep (by have := hb.lt; omega)
    have hu := (hu.trans hu2).but hc3 hu.size
    clear hu2 hc3 hs2
    generalize w1.heap.size = p6 at *
    repeat (first | refine RL.vv ?_ | refine RL.p ?_ | refine RL.nil ?_ | refine Sim.seq ?_ | refine Sim.region ?_ | refine Sim.block ?_ | refine Sim.skip ?_ | refine Sim.inBlock ?_ | refine Sim.exit rfl ?_ | refine Sim.condT rfl ?_ | refine Sim.condF rfl ?_)
    refine RL.call trivial rfl (c_static rfl) (Find_any x.type w3 (hl.up hu)) ?_
    rintro _ w4 ⟨rfl, hu4⟩
    refine ⟨_, rfl, ?_⟩
    have hb := hb.up hu4
    have hb6 := hb6.up hu4
    have hu := hu.trans hu4
    clear hu4
    by_cases hT : findT l x.type < 0
    · have hbad := bad 5 (if_pos hT) (by decide)
      clear bad good next
      repeat (first | refine RL.vv ?_ | refine RL.p ?_ | refine RL.nil ?_ | refine Sim.seq ?_ | refine Sim.region ?_ | refine Sim.block ?_ | refine Sim.skip ?_ | refine Sim.inBlock ?_ | refine Sim.exit rfl ?_ | refine Sim.condT rfl ?_ | refine Sim.condF rfl ?_)
      refine RL.val trivial rfl (y_build (v := .agg #[.int .i64 5, .int .i64 (i : Int)]) rfl (fun w => by kernel_rfl)) ?_
      refine RL.store trivial rfl rfl hb rfl rfl (by simp [Value.oneCell']) (Nat.le_of_ble_eq_true rfl) rfl fun w2 hb2 hb3 => ?_
      repeat (first | refine RL.vv ?_ | refine RL.p ?_ | refine RL.nil ?_ | refine Sim.seq ?_ | refine Sim.region ?_ | refine Sim.block ?_ | refine Sim.skip ?_ | refine Sim.inBlock ?_ | refine Sim.exit rfl ?_ | refine Sim.condT rfl ?_ | refine Sim.condF rfl ?_)
      exact Sim.retC Try.func31 rfl rfl hb3.at rfl ⟨by rw [hbad]; rfl, hu.but hb2 (Nat.le_refl _)⟩
    rw [if_neg hT] at bad good
    obtain ⟨j, t, hj, htj, _, hjl⟩ := findT_get hT
    rcases Bool.eq_false_or_eq_true (named x.key) with hn | hn
    · by_cases hF : 0 ≤ thingAt (xs.take i) x.type x.key
      · have hbad := bad 6 (if_neg (fun h => h.2 hF)) (by decide)
        clear bad good next
        repeat (first | refine RL.vv ?_ | refine RL.p ?_ | refine RL.nil ?_ | refine Sim.seq ?_ | refine Sim.region ?_ | refine Sim.block ?_ | refine Sim.skip ?_ | refine Sim.inBlock ?_ | refine Sim.exit rfl ?_ | refine Sim.condT rfl ?_ | refine Sim.condF rfl ?_)
        refine RL.call trivial rfl (c_static rfl) (c_val (Named_any x.key w4) (by rw [hn])) ?_
        rintro _ w5 ⟨rfl, hu5⟩
        refine ⟨_, rfl, ?_⟩
        have hu := hu.trans hu5
        repeat (first | refine RL.vv ?_ | refine RL.p ?_ | refine RL.nil ?_ | refine Sim.seq ?_ | refine Sim.region ?_ | refine Sim.block ?_ | refine Sim.skip ?_ | refine Sim.inBlock ?_ | refine Sim.exit rfl ?_ | refine Sim.condT rfl ?_ | refine Sim.condF rfl ?_)
        refine RL.call ⟨_, _, rfl, rfl, rfl⟩ rfl (c_static rfl) (c_val (ContainsThing_any x.type x.key _ _ _ _ w5 (htk.up hu) (hb6.up hu5).at (hat.up hu)) (by rw [decide_eq_true hF])) ?_
        rintro _ w6 ⟨rfl, hu6⟩
        refine ⟨_, rfl, ?_⟩
        have hu := hu.trans hu6
        have hb := (hb.up hu5).up hu6
        repeat (first | refine RL.vv ?_ | refine RL.p ?_ | refine RL.nil ?_ | refine Sim.seq ?_ | refine Sim.region ?_ | refine Sim.block ?_ | refine Sim.skip ?_ | refine Sim.inBlock ?_ | refine Sim.exit rfl ?_ | refine Sim.condT rfl ?_ | refine Sim.condF rfl ?_)
        refine RL.val trivial rfl (y_build (v := .agg #[.int .i64 6, .int .i64 (i : Int)]) rfl (fun w => by kernel_rfl)) ?_
        refine RL.store trivial rfl rfl hb rfl rfl (by simp [Value.oneCell']) (Nat.le_of_ble_eq_true rfl) rfl fun w2 hb2 hb3 => ?_
        repeat (first | refine RL.vv ?_ | refine RL.p ?_ | refine RL.nil ?_ | refine Sim.seq ?_ | refine Sim.region ?_ | refine Sim.block ?_ | refine Sim.skip ?_ | refine Sim.inBlock ?_ | refine Sim.exit rfl ?_ | refine Sim.condT rfl ?_ | refine Sim.condF rfl ?_)
        exact Sim.retC Try.func31 rfl rfl hb3.at rfl ⟨by rw [hbad]; rfl, hu.but hb2 (Nat.le_refl _)⟩
      · rw [if_pos ⟨hn, hF⟩, hj, Int.toNat_natCast, htj] at bad good
        simp only at bad good
        obtain ⟨b2, o2, cs2, rfl, _, hat2, ⟨fv, rfl, hfv⟩, _⟩ := hl.at htj
        have hat2 : At w b2 (o2 + j * 2) _ := hat2
        repeat (first | refine RL.vv ?_ | refine RL.p ?_ | refine RL.nil ?_ | refine Sim.seq ?_ | refine Sim.region ?_ | refine Sim.block ?_ | refine Sim.skip ?_ | refine Sim.inBlock ?_ | refine Sim.exit rfl ?_ | refine Sim.condT rfl ?_ | refine Sim.condF rfl ?_)
        refine RL.call trivial rfl (c_static rfl) (c_val (Named_any x.key w4) (by rw [hn])) ?_
        rintro _ w5 ⟨rfl, hu5⟩
        refine ⟨_, rfl, ?_⟩
        have hu := hu.trans hu5
        repeat (first | refine RL.vv ?_ | refine RL.p ?_ | refine RL.nil ?_ | refine Sim.seq ?_ | refine Sim.region ?_ | refine Sim.block ?_ | refine Sim.skip ?_ | refine Sim.inBlock ?_ | refine Sim.exit rfl ?_ | refine Sim.condT rfl ?_ | refine Sim.condF rfl ?_)
        refine RL.call ⟨_, _, rfl, rfl, rfl⟩ rfl (c_static rfl) (c_val (ContainsThing_any x.type x.key _ _ _ _ w5 (htk.up hu) (hb6.up hu5).at (hat.up hu)) (by rw [decide_eq_false hF])) ?_
        rintro _ w6 ⟨rfl, hu6⟩
        refine ⟨_, rfl, ?_⟩
        have hu := hu.trans hu6
        have hb := (hb.up hu5).up hu6
        have hb6 := (hb6.up hu5).up hu6
        clear hu5 hu6
        rw [hj]
        repeat (first | refine RL.vv ?_ | refine RL.p ?_ | refine RL.nil ?_ | refine Sim.seq ?_ | refine Sim.region ?_ | refine Sim.block ?_ | refine Sim.skip ?_ | refine Sim.inBlock ?_ | refine Sim.exit rfl ?_ | refine Sim.condT rfl ?_ | refine Sim.condF rfl ?_)
        refine Sim.quiet (Up w6) mixed (by kernel_rfl) (Up.drew _) ?_
        repeat (first | refine RQ.vv ?_ | refine RQ.p ?_)
        refine RQ.call trivial rfl (fun wq hq => c_static rfl) (fun wq hq => q_call (vals_any (t := t) wq (hkv.up (hu.trans hq)) (hat2.up (hu.trans hq)) (hfv.up (hu.trans hq))) hq) ?_
        repeat (first | refine RQ.vv ?_ | refine RQ.p ?_)
        refine RQ.nil fun w7 hq => ?_
        have hu := hu.trans hq
        have hb := hb.up hq
        by_cases h0 : valsErr t.fields x.vals = 0
        · repeat (first | refine RL.vv ?_ | refine RL.p ?_ | refine RL.nil ?_ | refine Sim.seq ?_ | refine Sim.region ?_ | refine Sim.block ?_ | refine Sim.skip ?_ | refine Sim.inBlock ?_ | refine Sim.exit rfl ?_ | refine Sim.condT rfl ?_ | refine Sim.condF rfl ?_)
          exact next (i + 1) _ _ ⟨by omega, hu, hb, good h0⟩ (by omega) sb
        · repeat (first | refine RL.vv ?_ | refine RL.p ?_ | refine RL.nil ?_ | refine Sim.seq ?_ | refine Sim.region ?_ | refine Sim.block ?_ | refine Sim.skip ?_ | refine Sim.inBlock ?_ | refine Sim.exit rfl ?_ | refine Sim.condT rfl ?_ | refine Sim.condF rfl ?_)
          refine RL.val trivial rfl (y_build (v := .agg #[.int .i64 (valsErr t.fields x.vals), .int .i64 (i : Int)]) rfl (fun w => by kernel_rfl)) ?_
          refine RL.store trivial rfl rfl hb rfl rfl (by simp [Value.oneCell']) (Nat.le_of_ble_eq_true rfl) rfl fun w2 hb2 hb3 => ?_
          repeat (first | refine RL.vv ?_ | refine RL.p ?_ | refine RL.nil ?_ | refine Sim.seq ?_ | refine Sim.region ?_ | refine Sim.block ?_ | refine Sim.skip ?_ | refine Sim.inBlock ?_ | refine Sim.exit rfl ?_ | refine Sim.condT rfl ?_ | refine Sim.condF rfl ?_)
          exact Sim.retC Try.func31 rfl rfl hb3.at rfl ⟨by rw [bad _ rfl h0]; rfl, hu.but hb2 (Nat.le_refl _)⟩
    · have hbad := bad 6 (if_neg (fun h => by rw [hn] at h; cases h.1)) (by decide)
      clear bad good next
      repeat (first | refine RL.vv ?_ | refine RL.p ?_ | refine RL.nil ?_ | refine Sim.seq ?_ | refine Sim.region ?_ | refine Sim.block ?_ | refine Sim.skip ?_ | refine Sim.inBlock ?_ | refine Sim.exit rfl ?_ | refine Sim.condT rfl ?_ | refine Sim.condF rfl ?_)
      refine RL.call trivial rfl (c_static rfl) (c_val (Named_any x.key w4) (by rw [hn])) ?_
      rintro _ w5 ⟨rfl, hu5⟩
      refine ⟨_, rfl, ?_⟩
      have hu := hu.trans hu5
      have hb := hb.up hu5
      repeat (first | refine RL.vv ?_ | refine RL.p ?_ | refine RL.nil ?_ | refine Sim.seq ?_ | refine Sim.region ?_ | refine Sim.block ?_ | refine Sim.skip ?_ | refine Sim.inBlock ?_ | refine Sim.exit rfl ?_ | refine Sim.condT rfl ?_ | refine Sim.condF rfl ?_)
      refine RL.val trivial rfl (y_build (v := .agg #[.int .i64 6, .int .i64 (i : Int)]) rfl (fun w => by kernel_rfl)) ?_
      refine RL.store trivial rfl rfl hb rfl rfl (by simp [Value.oneCell']) (Nat.le_of_ble_eq_true rfl) rfl fun w2 hb2 hb3 => ?_
      repeat (first | refine RL.vv ?_ | refine RL.p ?_ | refine RL.nil ?_ | refine Sim.seq ?_ | refine Sim.region ?_ | refine Sim.block ?_ | refine Sim.skip ?_ | refine Sim.inBlock ?_ | refine Sim.exit rfl ?_ | refine Sim.condT rfl ?_ | refine Sim.condF rfl ?_)
      exact Sim.retC Try.func31 rfl rfl hb3.at rfl ⟨by rw [hbad]; rfl, hu.but hb2 (Nat.le_refl _)⟩
  clear next
  rw [firstBad_none (goodAll hno hlt)] at hw
  repeat (first | refine RL.vv ?_ | refine RL.p ?_ | refine RL.nil ?_ | refine Sim.seq ?_ | refine Sim.region ?_ | refine Sim.block ?_ | refine Sim.skip ?_ | refine Sim.inBlock ?_ | refine Sim.exit rfl ?_ | refine Sim.condT rfl ?_ | refine Sim.condF rfl ?_)
  refine RL.val trivial rfl (y_build (v := .agg #[.int .i64 0, .int .i64 0]) rfl (fun w => by kernel_rfl)) ?_
  refine RL.store trivial rfl rfl hb rfl rfl (by simp [Value.oneCell']) (Nat.le_of_ble_eq_true rfl) rfl fun w2 hb2 hb3 => ?_
  repeat (first | refine RL.vv ?_ | refine RL.p ?_ | refine RL.nil ?_ | refine Sim.seq ?_ | refine Sim.region ?_ | refine Sim.block ?_ | refine Sim.skip ?_ | refine Sim.inBlock ?_ | refine Sim.exit rfl ?_ | refine Sim.condT rfl ?_ | refine Sim.condF rfl ?_)
  exact Sim.retC Try.func31 rfl rfl hb3.at rfl ⟨by rw [hw]; rfl, hu.but hb2 (Nat.le_refl _)⟩
end Go.Proofs.Ytgckpmcdlciibaa
