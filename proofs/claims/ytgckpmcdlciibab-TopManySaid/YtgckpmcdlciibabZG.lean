/- Several texts in one: Contracts of chapter 5: a service's thing; what is wrong with a request. Contracts of chapter 5: what is wrong with a request. Contracts of chapter 5: a service's answer. -/
import Derived.Test.YtgckpmcdlciibabZK
import Derived.Test.YtgckpmcdlciibabZF
import Derived.Test.YtgckpmcdlciibabZB
import Derived.Test.YtgckpmcdlciibabZP
namespace Go.Proofs.Ytgckpmcdlciibab
open Go.RowKit
set_option maxHeartbeats 400000 in
theorem thingAt_neg' {l : List Thg} {t k : Str} (h : thingAt l t k < 0) : thingAt l t k = -1 := firstIdx_neg (l := l) (p := fun x => decide (x.type = t ∧ x.key = k)) (by unfold thingAt at h; omega)
set_option maxHeartbeats 400000 in
theorem thing1_any (t k t2 k2 : Str) (vs : Value) (b b2 : Nat) (w : World) (hb : At w b 0 [.string t]) (hb2 : At w b2 0 [.string k]) :
    Calls Try.prog 95 #[.agg #[.string t2, .string k2, vs], .pointer (some ⟨b, 0, none⟩), .pointer (some ⟨b2, 0, none⟩)] w fun en w' => en = .returned (.bool (decide (t2 = t ∧ k2 = k))) ∧ Up w w' := by
  refine calls_of_sim Try.func95 rfl (Nat.le_of_ble_eq_true rfl) ?_
  repeat (first | refine RL.vv ?_ | refine RL.p ?_ | refine RL.nil ?_ | refine Sim.seq ?_ | refine Sim.region ?_ | refine Sim.block ?_ | refine Sim.skip ?_ | refine Sim.inBlock ?_ | refine Sim.exit rfl ?_ | refine Sim.condT rfl ?_ | refine Sim.condF rfl ?_)
  refine RL.bx (.refl w) fun b3 w1 hb3 _ hu _ hbx => ?_
  have ha := hbx.at
  by_cases h1 : t2 = t
  · by_cases h2 : k2 = k
    · repeat (first | refine RL.vv ?_ | refine RL.p ?_ | refine RL.nil ?_ | refine Sim.seq ?_ | refine Sim.region ?_ | refine Sim.block ?_ | refine Sim.skip ?_ | refine Sim.inBlock ?_ | refine Sim.exit rfl ?_ | refine Sim.condT rfl ?_ | refine Sim.condF rfl ?_)
      exact Sim.ret1 Try.func95 rfl rfl ⟨by rw [decide_eq_true ⟨h1, h2⟩], hu⟩
    · repeat (first | refine RL.vv ?_ | refine RL.p ?_ | refine RL.nil ?_ | refine Sim.seq ?_ | refine Sim.region ?_ | refine Sim.block ?_ | refine Sim.skip ?_ | refine Sim.inBlock ?_ | refine Sim.exit rfl ?_ | refine Sim.condT rfl ?_ | refine Sim.condF rfl ?_)
      exact Sim.ret1 Try.func95 rfl rfl ⟨by rw [decide_eq_false fun h => h2 h.2], hu⟩
  · repeat (first | refine RL.vv ?_ | refine RL.p ?_ | refine RL.nil ?_ | refine Sim.seq ?_ | refine Sim.region ?_ | refine Sim.block ?_ | refine Sim.skip ?_ | refine Sim.inBlock ?_ | refine Sim.exit rfl ?_ | refine Sim.condT rfl ?_ | refine Sim.condF rfl ?_)
    exact Sim.ret1 Try.func95 rfl rfl ⟨by rw [decide_eq_false fun h => h1 h.1], hu⟩
set_option maxHeartbeats 400000 in
theorem thing_any {S : Nat → Prop} {v1 v2 v3 : Value} {xs : List Thg} {sb so : Nat} (t k : Str) (w : World) (hat : At w sb so [v1, v2, v3]) (hx : SliceOf thgLay S w v3 xs) :
    Calls Try.prog 61 #[.pointer (some ⟨sb, so, none⟩), .string t, .string k] w fun en w' => en = .returned (ptrAt v3 3 (thingAt xs t k)) ∧ Up w w' := by
  refine calls_of_sim Try.func61 rfl (Nat.le_of_ble_eq_true rfl) ?_
  obtain ⟨a, c, rfl, hnc, hcm, hel⟩ := id hx
  unfold maxLen at hcm
  repeat (first | refine RL.vv ?_ | refine RL.p ?_ | refine RL.nil ?_ | refine Sim.seq ?_ | refine Sim.region ?_ | refine Sim.block ?_ | refine Sim.skip ?_ | refine Sim.inBlock ?_ | refine Sim.exit rfl ?_ | refine Sim.condT rfl ?_ | refine Sim.condF rfl ?_)
  refine RL.bx (.refl w) fun b1 w1 _ _ hu1 _ hb1 => ?_
  refine RL.bx hu1 fun b2 w2 _ _ hu hu12 hb2 => ?_
  have hb1 := hb1.up hu12
  repeat (first | refine RL.vv ?_ | refine RL.p ?_ | refine RL.nil ?_ | refine Sim.seq ?_ | refine Sim.region ?_ | refine Sim.block ?_ | refine Sim.skip ?_ | refine Sim.inBlock ?_ | refine Sim.exit rfl ?_ | refine Sim.condT rfl ?_ | refine Sim.condF rfl ?_)
  obtain ⟨cells, hel2, his⟩ := (hx.up hu).elems
  refine RL.cu hu (IndexFunc_Thing (g := 95) (caps := #[.pointer (some ⟨b1, 0, none⟩), .pointer (some ⟨b2, 0, none⟩)]) (p := fun i => match xs[i]? with | some y => decide (y.type = t ∧ y.key = k) | none => false) hel2 ?_) fun w3 hu _ => ?_
  · intro i hi w3 hu3
    obtain ⟨v1, hcs, _⟩ := his i xs[i] (List.getElem?_eq_getElem hi)
    rw [hcs]
    refine (thing1_any t k _ _ _ b1 b2 w3 (hb1.at.up hu3) (hb2.at.up hu3)).mono ?_
    rintro _ w4 ⟨rfl, hu4⟩
    exact ⟨by simp [List.getElem?_eq_getElem hi], hu4⟩
  rw [idx_firstIdx xs (fun y => decide (y.type = t ∧ y.key = k)) _ (fun i x hx => by simp only [hx]), show firstIdx xs (fun y => decide (y.type = t ∧ y.key = k)) = thingAt xs t k from rfl]
  by_cases hk : thingAt xs t k < 0
  · repeat (first | refine RL.vv ?_ | refine RL.p ?_ | refine RL.nil ?_ | refine Sim.seq ?_ | refine Sim.region ?_ | refine Sim.block ?_ | refine Sim.skip ?_ | refine Sim.inBlock ?_ | refine Sim.exit rfl ?_ | refine Sim.condT rfl ?_ | refine Sim.condF rfl ?_)
    have : thingAt xs t k = -1 := thingAt_neg' hk
    exact Sim.ret1 Try.func61 rfl rfl ⟨by rw [this, ptrAt_neg], hu⟩
  · obtain ⟨j, x, hj, hxj, _, hjl⟩ := firstIdx_lt (l := xs) (p := fun y => decide (y.type = t ∧ y.key = k)) (by unfold thingAt at hk; omega)
    have hj : thingAt xs t k = (j : Int) := hj
    rw [hj] at hk ⊢
    obtain ⟨b, o, cs, rfl, _, hat2, _, hjl⟩ := hx.at hxj
    repeat (first | refine RL.vv ?_ | refine RL.p ?_ | refine RL.nil ?_ | refine Sim.seq ?_ | refine Sim.region ?_ | refine Sim.block ?_ | refine Sim.skip ?_ | refine Sim.inBlock ?_ | refine Sim.exit rfl ?_ | refine Sim.condT rfl ?_ | refine Sim.condF rfl ?_)
    exact Sim.ret1 Try.func61 rfl rfl ⟨by rw [ptrAt_nat], hu⟩
end Go.Proofs.Ytgckpmcdlciibab

namespace Go.Proofs.Ytgckpmcdlciibab
open Go.RowKit
set_option maxHeartbeats 1000000 in
theorem SWrong_any {S S2 S3 : Nat → Prop} {lv kv fv : Value} {l : List Svc} (q : Rq) (w : World) (hl : SliceOf svcLay S w lv l) (hk : SliceOf strLay S2 w kv q.keys) (hf : SliceOf strLay S3 w fv q.fields) :
    Calls Try.prog 60 #[lv, .agg #[.int .i64 q.service, .string q.type, kv, fv]] w fun en w' => en = .returned (.int .i64 (wrongRq l q)) ∧ Up w w' := by
  refine calls_of_sim Try.func60 rfl (Nat.le_of_ble_eq_true rfl) ?_
  obtain ⟨svc, ty, ks, fs⟩ := q
  simp only at hk hf ⊢
  obtain ⟨la, lc, rfl, hlnc, hlcm, _⟩ := id hl
  obtain ⟨ka, kc, rfl, hknc, hkcm, _⟩ := id hk
  obtain ⟨fa, fc, rfl, hfnc, hfcm, _⟩ := id hf
  unfold maxLen at hlcm hkcm hfcm
  repeat (first | refine RL.vv ?_ | refine RL.p ?_ | refine RL.nil ?_ | refine Sim.seq ?_ | refine Sim.region ?_ | refine Sim.block ?_ | refine Sim.skip ?_ | refine Sim.inBlock ?_ | refine Sim.exit rfl ?_ | refine Sim.condT rfl ?_ | refine Sim.condF rfl ?_)
  refine RL.bx (.refl w) fun b3 w1 _ _ hu _ hb3 => ?_
  by_cases h0 : svc < 0
  · repeat (first | refine RL.vv ?_ | refine RL.p ?_ | refine RL.nil ?_ | refine Sim.seq ?_ | refine Sim.region ?_ | refine Sim.block ?_ | refine Sim.skip ?_ | refine Sim.inBlock ?_ | refine Sim.exit rfl ?_ | refine Sim.condT rfl ?_ | refine Sim.condF rfl ?_)
    exact Sim.ret1 Try.func60 rfl rfl ⟨by unfold wrongRq; rw [if_pos h0], hu⟩
  obtain ⟨n, rfl⟩ := Int.eq_ofNat_of_zero_le (Int.not_lt.1 h0)
  by_cases h1 : (l.length : Int) ≤ n
  · repeat (first | refine RL.vv ?_ | refine RL.p ?_ | refine RL.nil ?_ | refine Sim.seq ?_ | refine Sim.region ?_ | refine Sim.block ?_ | refine Sim.skip ?_ | refine Sim.inBlock ?_ | refine Sim.exit rfl ?_ | refine Sim.condT rfl ?_ | refine Sim.condF rfl ?_)
    refine Sim.ret1 Try.func60 rfl rfl ⟨?_, hu⟩
    unfold wrongRq
    simp only [if_neg h0, Int.toNat_natCast, List.getElem?_eq_none (show l.length ≤ n by omega)]
  have hs : l[n]? = some l[n] := List.getElem?_eq_getElem (by omega)
  obtain ⟨vb, so, cs, rfl, _, hsat, ⟨tv, cv, xv, rfl, htv, _⟩, _⟩ := hl.at hs
  have hsat : At w vb (so + n * 3) _ := hsat
  rw [wrongRq_some (q := ⟨n, ty, ks, fs⟩) (s := l[n]) h0 hs]
  simp only
  generalize l[n] = s at *
  obtain ⟨ta, tc, rfl, htnc, htcm, _⟩ := id htv
  unfold maxLen at htcm
  repeat (first | refine RL.vv ?_ | refine RL.p ?_ | refine RL.nil ?_ | refine Sim.seq ?_ | refine Sim.region ?_ | refine Sim.block ?_ | refine Sim.skip ?_ | refine Sim.inBlock ?_ | refine Sim.exit rfl ?_ | refine Sim.condT rfl ?_ | refine Sim.condF rfl ?_)
  refine Sim.q ?_
  repeat (first | refine RQ.vv ?_ | refine RQ.p ?_)
  refine RQ.cu (fun wq hq => q_call (Find_any ty wq (htv.up (hu.trans hq))) hq) ?_
  repeat (first | refine RQ.vv ?_ | refine RQ.p ?_)
  refine RQ.nil fun w2 hq => ?_
  have hb3 := hb3.up hq
  have hu := hu.trans hq
  clear hq
  by_cases h2 : findT s.types ty < 0
  · repeat (first | refine RL.vv ?_ | refine RL.p ?_ | refine RL.nil ?_ | refine Sim.seq ?_ | refine Sim.region ?_ | refine Sim.block ?_ | refine Sim.skip ?_ | refine Sim.inBlock ?_ | refine Sim.exit rfl ?_ | refine Sim.condT rfl ?_ | refine Sim.condF rfl ?_)
    exact Sim.ret1 Try.func60 rfl rfl ⟨by rw [if_pos h2], hu⟩
  obtain ⟨k, t, hk1, hkt, _, hkl⟩ := findT_get h2
  rw [if_neg h2, hk1, Int.toNat_natCast, hkt]
  simp only
  rw [hk1] at h2
  obtain ⟨tb, to, cs, rfl, _, htat, ⟨flv, rfl, hflv⟩, _⟩ := htv.at hkt
  have htat : At w tb (to + k * 2) _ := htat
  obtain ⟨fla, flc, rfl, hflnc, hflcm, _⟩ := id hflv
  repeat (first | refine RL.vv ?_ | refine RL.p ?_ | refine RL.nil ?_ | refine Sim.seq ?_ | refine Sim.region ?_ | refine Sim.block ?_ | refine Sim.skip ?_ | refine Sim.inBlock ?_ | refine Sim.exit rfl ?_ | refine Sim.condT rfl ?_ | refine Sim.condF rfl ?_)
  refine Sim.loop (σ := Nat) (fun i => [(0, .slice (some ⟨vb, so, none⟩) l.length lc), (3, .pointer (some ⟨b3, 0, none⟩)), (5, .pointer (some ⟨vb, so + n * 3, none⟩)), (6, .int .i64 (k : Int)), (35, .slice fa fs.length fc), (36, .int .i64 (fs.length : Int)), (37, .int .i64 (i : Int))])
    (fun i w' => i ≤ fs.length ∧ Up w w' ∧ Box w' b3 _ _ ∧ ∀ (j : Nat) x, j < i → fs[j]? = some x → rqErr t.fields fs j x = 0) (fun i => fs.length - i) 0 sb ⟨Nat.zero_le _, hu, hb3, fun j x hj => absurd hj (Nat.not_lt_zero _)⟩ ?_
  clear hu hb3
  rintro i w1 ⟨hi, hu, hb3, hno⟩ next
  have ha3 := hb3.at
  by_cases hlt : i < fs.length
  · have hx : fs[i]? = some fs[i] := List.getElem?_eq_getElem hlt
    obtain ⟨b, o, cs, rfl, _, hat, rfl, _⟩ := hf.at hx
    have hat : At w b (o + i * 1) _ := hat
    have bad : ∀ r, rqErr t.fields fs i fs[i] = r → r ≠ 0 → rqTail t.fields fs ks = r := fun r hr h => by
      unfold rqTail
      rw [firstBad_hit hx hno (by rw [hr]; exact h)]
      exact hr
    have good := goodTo (g := rqErr t.fields fs) hx hno
    unfold rqErr at bad good
    have htk := hf.take (i := i) (by omega)
    generalize fs[i] = f at *
    repeat (first | refine RL.vv ?_ | refine RL.p ?_ | refine RL.nil ?_ | refine Sim.seq ?_ | refine Sim.region ?_ | refine Sim.block ?_ | refine Sim.skip ?_ | refine Sim.inBlock ?_ | refine Sim.exit rfl ?_ | refine Sim.condT rfl ?_ | refine Sim.condF rfl ?_)
    refine RL.cu hu (Field_any f w1 (hflv.up hu)) fun w2 hu hu2 => ?_
    have hb3 := hb3.up hu2
    have ha3 := hb3.at
    by_cases h3 : fieldF t.fields f < 0
    · have hbad := bad 7 (by rw [if_pos h3]) (by decide)
      repeat (first | refine RL.vv ?_ | refine RL.p ?_ | refine RL.nil ?_ | refine Sim.seq ?_ | refine Sim.region ?_ | refine Sim.block ?_ | refine Sim.skip ?_ | refine Sim.inBlock ?_ | refine Sim.exit rfl ?_ | refine Sim.condT rfl ?_ | refine Sim.condF rfl ?_)
      exact Sim.ret1 Try.func60 rfl rfl ⟨by rw [hbad], hu⟩
    rw [if_neg h3] at bad good
    repeat (first | refine RL.vv ?_ | refine RL.p ?_ | refine RL.nil ?_ | refine Sim.seq ?_ | refine Sim.region ?_ | refine Sim.block ?_ | refine Sim.skip ?_ | refine Sim.inBlock ?_ | refine Sim.exit rfl ?_ | refine Sim.condT rfl ?_ | refine Sim.condF rfl ?_)
    refine RL.cs (Contains_Str f w2 (htk.up hu)) ?_
    by_cases h4 : 0 ≤ strAt (fs.take i) f
    · have hbad := bad 6 (by rw [if_pos h4]) (by decide)
      rw [decide_eq_true h4]
      repeat (first | refine RL.vv ?_ | refine RL.p ?_ | refine RL.nil ?_ | refine Sim.seq ?_ | refine Sim.region ?_ | refine Sim.block ?_ | refine Sim.skip ?_ | refine Sim.inBlock ?_ | refine Sim.exit rfl ?_ | refine Sim.condT rfl ?_ | refine Sim.condF rfl ?_)
      exact Sim.ret1 Try.func60 rfl rfl ⟨by rw [hbad], hu⟩
    · rw [decide_eq_false h4]
      repeat (first | refine RL.vv ?_ | refine RL.p ?_ | refine RL.nil ?_ | refine Sim.seq ?_ | refine Sim.region ?_ | refine Sim.block ?_ | refine Sim.skip ?_ | refine Sim.inBlock ?_ | refine Sim.exit rfl ?_ | refine Sim.condT rfl ?_ | refine Sim.condF rfl ?_)
      exact next (i + 1) _ _ ⟨by omega, hu, hb3, good (by rw [if_neg h4])⟩ (by omega) sb
  have hall := firstBad_none (goodAll hno hlt)
  repeat (first | refine RL.vv ?_ | refine RL.p ?_ | refine RL.nil ?_ | refine Sim.seq ?_ | refine Sim.region ?_ | refine Sim.block ?_ | refine Sim.skip ?_ | refine Sim.inBlock ?_ | refine Sim.exit rfl ?_ | refine Sim.condT rfl ?_ | refine Sim.condF rfl ?_)
  refine Sim.loop (σ := Nat) (fun i => [(3, .pointer (some ⟨b3, 0, none⟩)), (61, .slice ka ks.length kc), (62, .int .i64 (ks.length : Int)), (63, .int .i64 (i : Int))])
    (fun i w' => i ≤ ks.length ∧ Up w w' ∧ Box w' b3 _ _ ∧ ∀ (j : Nat) x, j < i → ks[j]? = some x → dupErr ks j x = 0) (fun i => ks.length - i) 0 sb ⟨Nat.zero_le _, hu, hb3, fun j x hj => absurd hj (Nat.not_lt_zero _)⟩ ?_
  clear hu hb3 ha3 hno next hlt hi
  rintro i w1 ⟨hi, hu, hb3, hno⟩ next
  have ha3 := hb3.at
  by_cases hlt : i < ks.length
  · have hx : ks[i]? = some ks[i] := List.getElem?_eq_getElem hlt
    obtain ⟨b, o, cs, rfl, _, hat, rfl, _⟩ := hk.at hx
    have hat : At w b (o + i * 1) _ := hat
    have htk := hk.take (i := i) (by omega)
    generalize hfx : ks[i] = f at *
    repeat (first | refine RL.vv ?_ | refine RL.p ?_ | refine RL.nil ?_ | refine Sim.seq ?_ | refine Sim.region ?_ | refine Sim.block ?_ | refine Sim.skip ?_ | refine Sim.inBlock ?_ | refine Sim.exit rfl ?_ | refine Sim.condT rfl ?_ | refine Sim.condF rfl ?_)
    refine RL.cs (Contains_Str f w1 (htk.up hu)) ?_
    by_cases h4 : 0 ≤ strAt (ks.take i) f
    · rw [decide_eq_true h4]
      repeat (first | refine RL.vv ?_ | refine RL.p ?_ | refine RL.nil ?_ | refine Sim.seq ?_ | refine Sim.region ?_ | refine Sim.block ?_ | refine Sim.skip ?_ | refine Sim.inBlock ?_ | refine Sim.exit rfl ?_ | refine Sim.condT rfl ?_ | refine Sim.condF rfl ?_)
      refine Sim.ret1 Try.func60 rfl rfl ⟨?_, hu⟩
      unfold rqTail
      have hd : dupErr ks i f = 6 := by unfold dupErr; rw [if_pos h4]
      rw [hall, firstBad_hit hx hno (by rw [hd]; decide)]
      simp only [hd]
    · rw [decide_eq_false h4]
      repeat (first | refine RL.vv ?_ | refine RL.p ?_ | refine RL.nil ?_ | refine Sim.seq ?_ | refine Sim.region ?_ | refine Sim.block ?_ | refine Sim.skip ?_ | refine Sim.inBlock ?_ | refine Sim.exit rfl ?_ | refine Sim.condT rfl ?_ | refine Sim.condF rfl ?_)
      exact next (i + 1) _ _ ⟨by omega, hu, hb3, goodTo (g := dupErr ks) hx hno (by unfold dupErr; rw [if_neg h4])⟩ (by omega) sb
  · repeat (first | refine RL.vv ?_ | refine RL.p ?_ | refine RL.nil ?_ | refine Sim.seq ?_ | refine Sim.region ?_ | refine Sim.block ?_ | refine Sim.skip ?_ | refine Sim.inBlock ?_ | refine Sim.exit rfl ?_ | refine Sim.condT rfl ?_ | refine Sim.condF rfl ?_)
    refine Sim.ret1 Try.func60 rfl rfl ⟨?_, hu⟩
    unfold rqTail
    rw [hall, firstBad_none (goodAll hno hlt)]
end Go.Proofs.Ytgckpmcdlciibab

namespace Go.Proofs.Ytgckpmcdlciibab
open Go.RowKit
abbrev No : Nat → Prop := fun _ => False
/-- a reply in memory: two rows, each the caller's own; what they lead to is old, or lies from B on -/
def ReplyAt (B0 B : Nat) (w : World) (a b : Value) (r : Rp) : Prop :=
  Own boolLay 4 B No w a r.found ∧ Own valLay.slice 60 B (fun k => (k < B0 ∨ B ≤ k) ∧ some k ≠ a.ownBlock) w b r.vals ∧ ∀ g, a.ownBlock = some g → b.ownBlock ≠ some g
theorem ReplyAt.nil (B0 B : Nat) (w : World) : ReplyAt B0 B w (.slice none 0 0) (.slice none 0 0) ⟨[], []⟩ := ⟨Own.nil _ _ _ _ _, Own.nil _ _ _ _ _, fun g h => by cases h⟩
theorem ReplyAt.up {B0 B : Nat} {w w' : World} {a b : Value} {r : Rp} (h : ReplyAt B0 B w a b r) (hu : Up w w') : ReplyAt B0 B w' a b r := ⟨h.1.up hu, h.2.1.up hu, h.2.2⟩
theorem ReplyAt.base {B0 B B' : Nat} {w : World} {a b : Value} {r : Rp} (h : ReplyAt B0 B w a b r) (hB : B' ≤ B) : ReplyAt B0 B' w a b r := ⟨h.1.base hB, (h.2.1.base hB).shift fun k hk _ _ => ⟨by omega, hk.2⟩, h.2.2⟩
theorem ReplyAt.but {B0 B k : Nat} {w w' : World} {a b : Value} {r : Rp} (h : ReplyAt B0 B w a b r) (hk : But k w w') (h1 : B0 ≤ k) (h2 : k < B) : ReplyAt B0 B w' a b r :=
  ⟨h.1.but hk (fun _ h => h.elim) (fun g hg => by have := (h.1.lt g hg).1; omega), h.2.1.but hk (fun i hi => by omega) (fun g hg => by have := (h.2.1.lt g hg).1; omega), h.2.2⟩
theorem ReplyAt.found {B0 B : Nat} {w w' : World} {a a' b : Value} {r : Rp} {bs : List Bool} (h : ReplyAt B0 B w a b r) (hg : w.grownBy w' a.ownBlock) (ha : Own boolLay 4 B No w' a' bs) (hv : ∀ g, a'.ownBlock = some g → a.ownBlock = some g ∨ g = w.heap.size) : ReplyAt B0 B w' a' b ⟨bs, r.vals⟩ := by
  have hb := h.2.1.grown hg (fun k hk => hk.2) (fun g hg' he => h.2.2 g he.symm hg')
  have hlt := h.2.1.lt
  have h2 := h.2.1.shift (S' := fun k => (k < B0 ∨ B ≤ k) ∧ some k ≠ a.ownBlock ∧ some k ≠ a'.ownBlock) fun k h1 h2 _ => ⟨h1.1, h1.2, fun h3 => by
    rcases hv k h3.symm with h4 | h4
    · exact h1.2 h4.symm
    · omega⟩
  refine ⟨ha, (h2.grown hg (fun k hk => hk.2.1) (fun g hg' he => h.2.2 g he.symm hg')).shift (fun k h1 _ _ => ⟨h1.1, h1.2.2⟩), fun g hg' hb' => ?_⟩
  rcases hv g hg' with h4 | h4
  · exact h.2.2 g h4 hb'
  · have := (hlt g hb').2
    omega
theorem ReplyAt.vals {B0 B : Nat} {w w' : World} {a b b' : Value} {r : Rp} {bs : List (List VVal)} (h : ReplyAt B0 B w a b r) (hg : w.grownBy w' b.ownBlock) (hb : Own valLay.slice 60 B (fun k => (k < B0 ∨ B ≤ k) ∧ some k ≠ a.ownBlock) w' b' bs) (hv : ∀ g, b'.ownBlock = some g → b.ownBlock = some g ∨ g = w.heap.size) : ReplyAt B0 B w' a b' ⟨r.found, bs⟩ := by
  have hlt := h.1.lt
  refine ⟨h.1.grown hg (fun _ h => h.elim) (fun g hg' he => h.2.2 g hg' he.symm), hb, fun g hg' hb' => ?_⟩
  rcases hv g hb' with h4 | h4
  · exact h.2.2 g hg' h4
  · have := (hlt g hg').2
    omega
theorem thingM_at {xs : List Thg} {t k : Str} (h : ¬ thingAt xs t k < 0) : ∃ (j : Nat) (x : Thg), thingAt xs t k = (j : Int) ∧ xs[j]? = some x ∧ thingM xs t k = some x := by
  obtain ⟨j, x, hj, hx, _, _⟩ := firstIdx_lt (l := xs) (p := fun y => decide (y.type = t ∧ y.key = k)) (by unfold thingAt at h; omega)
  have hj : thingAt xs t k = (j : Int) := hj
  refine ⟨j, x, hj, hx, ?_⟩
  unfold thingM
  rw [if_neg h, hj, Int.toNat_natCast, hx]
theorem thingM_none {xs : List Thg} {t k : Str} (h : thingAt xs t k < 0) : thingM xs t k = none := by
  unfold thingM
  rw [if_pos h]
set_option maxHeartbeats 4000000 in
theorem SAnswer_any {S S2 S3 : Nat → Prop} {lv kv fv : Value} {l : List Svc} (q : Rq) (w : World) (hl : SliceOf svcLay S w lv l) (hk : SliceOf strLay S2 w kv q.keys) (hf : SliceOf strLay S3 w fv q.fields) (hok : ∀ s ∈ l, okSvc s) (hqk : q.keys.length * 16 ≤ 140737488351232) :
    Calls Try.prog 26 #[lv, .agg #[.int .i64 q.service, .string q.type, kv, fv]] w fun en w' => ∃ a b, en = .returned (.tuple #[.agg #[a, b], .int .i64 (answerM l q).2]) ∧ Up w w' ∧ ReplyAt 0 w.heap.size w' a b (answerM l q).1 := by
  refine calls_of_sim Try.func26 rfl (Nat.le_of_ble_eq_true rfl) ?_
  obtain ⟨svc, ty, ks, fs⟩ := q
  simp only at hk hf hqk ⊢
  obtain ⟨la, lc, rfl, hlnc, hlcm, _⟩ := id hl
  obtain ⟨ka, kc, rfl, hknc, hkcm, _⟩ := id hk
  obtain ⟨fa, fc, rfl, hfnc, hfcm, _⟩ := id hf
  unfold maxLen at hlcm hkcm hfcm
  repeat (first | refine RL.vv ?_ | refine RL.p ?_ | refine RL.nil ?_ | refine Sim.seq ?_ | refine Sim.region ?_ | refine Sim.block ?_ | refine Sim.skip ?_ | refine Sim.inBlock ?_ | refine Sim.exit rfl ?_ | refine Sim.condT rfl ?_ | refine Sim.condF rfl ?_)
  refine RL.bx (.refl w) fun b3 w1 _ hle3 hu1 _ hb3 => ?_
  refine RL.al hu1 fun b4 w2 _ hle4 hu hu12 hb4 => ?_
  have hb3 := hb3.up hu12
  have ha3 := hb3.at
  repeat (first | refine RL.vv ?_ | refine RL.p ?_ | refine RL.nil ?_ | refine Sim.seq ?_ | refine Sim.region ?_ | refine Sim.block ?_ | refine Sim.skip ?_ | refine Sim.inBlock ?_ | refine Sim.exit rfl ?_ | refine Sim.condT rfl ?_ | refine Sim.condF rfl ?_)
  refine RL.cu hu (SWrong_any ⟨svc, ty, ks, fs⟩ w2 (hl.up hu) (hk.up hu) (hf.up hu)) fun w3 hu hu3 => ?_
  have hb3 := hb3.up hu3
  have hb4 := hb4.up hu3
  clear hu1 hu12 ha3 hu3
  by_cases he : wrongRq l ⟨svc, ty, ks, fs⟩ = 0
  rotate_left
  · have hans : answerM l ⟨svc, ty, ks, fs⟩ = (⟨[], []⟩, wrongRq l ⟨svc, ty, ks, fs⟩) := by
      unfold answerM
      rw [if_neg he]
    rw [hans]
    repeat (first | refine RL.vv ?_ | refine RL.p ?_ | refine RL.nil ?_ | refine Sim.seq ?_ | refine Sim.region ?_ | refine Sim.block ?_ | refine Sim.skip ?_ | refine Sim.inBlock ?_ | refine Sim.exit rfl ?_ | refine Sim.condT rfl ?_ | refine Sim.condF rfl ?_)
    refine RL.val trivial rfl (y_build (v := .agg #[.slice none 0 0, .slice none 0 0]) rfl (fun w => by kernel_rfl)) ?_
    repeat (first | refine RL.vv ?_ | refine RL.p ?_ | refine RL.nil ?_ | refine Sim.seq ?_ | refine Sim.region ?_ | refine Sim.block ?_ | refine Sim.skip ?_ | refine Sim.inBlock ?_ | refine Sim.exit rfl ?_ | refine Sim.condT rfl ?_ | refine Sim.condF rfl ?_)
    refine RL.st hu hb4 hle4 fun w4 hu _ hb4 => ?_
    repeat (first | refine RL.vv ?_ | refine RL.p ?_ | refine RL.nil ?_ | refine Sim.seq ?_ | refine Sim.region ?_ | refine Sim.block ?_ | refine Sim.skip ?_ | refine Sim.inBlock ?_ | refine Sim.exit rfl ?_ | refine Sim.condT rfl ?_ | refine Sim.condF rfl ?_)
    refine Sim.retCT (cs := [.slice none 0 0, .slice none 0 0]) Try.func26 rfl rfl rfl hb4.at rfl ⟨_, _, rfl, hu, ReplyAt.nil _ _ _⟩
  obtain ⟨s, t, h0, hs, _, _, htail⟩ := wrongRq_zero he
  obtain ⟨n, rfl⟩ := Int.eq_ofNat_of_zero_le h0
  have hs : l[n]? = some s := hs
  have hnd := rqTail_nodup htail
  obtain ⟨vb, so, cs, rfl, _, hsat, ⟨tv, cv, xv, rfl, _, _, hxv⟩, hnl⟩ := hl.at hs
  have hsat : At w vb (so + n * 3) _ := hsat
  obtain ⟨xa, xc, rfl, _⟩ := id hxv
  have hosv := (hok s (List.mem_of_getElem? hs)).2.2
  have hans : answerM l ⟨n, ty, ks, fs⟩ = (⟨ks.map fun k => (ansKey s ⟨n, ty, ks, fs⟩ k).1, ks.map fun k => (ansKey s ⟨n, ty, ks, fs⟩ k).2⟩, 0) := by
    unfold answerM
    rw [if_pos he]
    simp only [Int.toNat_natCast, hs]
  rw [hans]
  simp only
  repeat (first | refine RL.vv ?_ | refine RL.p ?_ | refine RL.nil ?_ | refine Sim.seq ?_ | refine Sim.region ?_ | refine Sim.block ?_ | refine Sim.skip ?_ | refine Sim.inBlock ?_ | refine Sim.exit rfl ?_ | refine Sim.condT rfl ?_ | refine Sim.condF rfl ?_)
  refine RL.al hu fun b7 w4 he7 hle7 hu hu34 hb7 => ?_
  have hl37 : b3 < b7 := by have := hb3.lt; omega
  have hl47 : b4 < b7 := by have := hb4.lt; omega
  clear he7
  have hb3 := hb3.up hu34
  have hb4 := hb4.up hu34
  have ha3 := hb3.at
  have hlt3 := hb3.lt
  have hlt4 := hb4.lt
  have hlt7 := hb7.lt
  repeat (first | refine RL.vv ?_ | refine RL.p ?_ | refine RL.nil ?_ | refine Sim.seq ?_ | refine Sim.region ?_ | refine Sim.block ?_ | refine Sim.skip ?_ | refine Sim.inBlock ?_ | refine Sim.exit rfl ?_ | refine Sim.condT rfl ?_ | refine Sim.condF rfl ?_)
  refine Sim.loop (σ := Nat) (fun i => [(0, .slice (some ⟨vb, so, none⟩) l.length lc), (3, .pointer (some ⟨b3, 0, none⟩)), (4, .pointer (some ⟨b4, 0, none⟩)), (7, .pointer (some ⟨b7, 0, none⟩)), (24, .slice ka ks.length kc), (25, .int .i64 (ks.length : Int)), (26, .int .i64 (i : Int))])
    (fun i w' => i ≤ ks.length ∧ Up w w' ∧ w4.heap.size ≤ w'.heap.size ∧ Box w' b3 _ _ ∧ Box w' b4 _ _ ∧ ∃ a b, Box w' b7 56 [a, b] ∧ ReplyAt 0 w4.heap.size w' a b ⟨(ks.take i).map fun k => (ansKey s ⟨n, ty, ks, fs⟩ k).1, (ks.take i).map fun k => (ansKey s ⟨n, ty, ks, fs⟩ k).2⟩) (fun i => ks.length - i) 0 sb
    ⟨Nat.zero_le _, hu, Nat.le_refl _, hb3, hb4, _, _, hb7, ReplyAt.nil _ _ _⟩ ?_
  have hw4 := hu.size
  clear hu hu34 hb3 hb4 hb7 ha3
  generalize w4.heap.size = B at *
  rintro i w5 ⟨hi, hu, hB5, hb3, hb4, av, bv, hb7, hrep⟩ next
  obtain ⟨aa, an, ac, rfl⟩ := hrep.1.sh
  obtain ⟨ba, bn, bc, rfl⟩ := hrep.2.1.sh
  have ha3 := hb3.at
  by_cases hlt : i < ks.length
  rotate_left
  · repeat (first | refine RL.vv ?_ | refine RL.p ?_ | refine RL.nil ?_ | refine Sim.seq ?_ | refine Sim.region ?_ | refine Sim.block ?_ | refine Sim.skip ?_ | refine Sim.inBlock ?_ | refine Sim.exit rfl ?_ | refine Sim.condT rfl ?_ | refine Sim.condF rfl ?_)
    refine RL.vv ?_ (hy := y_loadA rfl hb7.at rfl)
    refine RL.st hu hb4 hle4 fun w6 hu hbt hb4 => ?_
    repeat (first | refine RL.vv ?_ | refine RL.p ?_ | refine RL.nil ?_ | refine Sim.seq ?_ | refine Sim.region ?_ | refine Sim.block ?_ | refine Sim.skip ?_ | refine Sim.inBlock ?_ | refine Sim.exit rfl ?_ | refine Sim.condT rfl ?_ | refine Sim.condF rfl ?_)
    refine Sim.retCT Try.func26 rfl rfl rfl hb4.at rfl ⟨_, _, rfl, hu, ?_⟩
    have hii : i = ks.length := by omega
    subst hii
    rw [List.take_length] at hrep
    exact (hrep.but hbt (Nat.zero_le _) hlt4).base hw4
  have hx : ks[i]? = some ks[i] := List.getElem?_eq_getElem hlt
  obtain ⟨kb, ko, cs, rfl, _, hkat, rfl, _⟩ := hk.at hx
  have hkat : At w kb (ko + i * 1) _ := hkat
  have hkt : ks.take (i + 1) = ks.take i ++ [ks[i]] := List.take_succ_eq_append_getElem hlt
  generalize ks[i] = key at *
  repeat (first | refine RL.vv ?_ | refine RL.p ?_ | refine RL.nil ?_ | refine Sim.seq ?_ | refine Sim.region ?_ | refine Sim.block ?_ | refine Sim.skip ?_ | refine Sim.inBlock ?_ | refine Sim.exit rfl ?_ | refine Sim.condT rfl ?_ | refine Sim.condF rfl ?_)
  refine Sim.q ?_
  repeat (first | refine RQ.vv ?_ | refine RQ.p ?_)
  refine RQ.cu (fun wq hq => q_call (thing_any ty key wq (hsat.up (hu.trans hq)) (hxv.up (hu.trans hq))) hq) ?_
  repeat (first | refine RQ.vv ?_ | refine RQ.p ?_)
  refine RQ.nil fun w6 hq => ?_
  have hb3 := hb3.up hq
  have hb4 := hb4.up hq
  have hb7 := hb7.up hq
  have hrep := hrep.up hq
  have hB6 := hq.size
  have hu := hu.trans hq
  clear hq ha3
  obtain ⟨pa, hpa, hps⟩ : ∃ pa, ptrAt (.slice xa s.things.length xc) 3 (thingAt s.things ty key) = .pointer pa ∧ pa.isSome = (thingM s.things ty key).isSome := by
    by_cases hn : thingAt s.things ty key < 0
    · exact ⟨none, by rw [thingAt_neg' hn, ptrAt_neg], by rw [thingM_none hn]; rfl⟩
    · obtain ⟨j, x, h1, h2, h3⟩ := thingM_at hn
      obtain ⟨xb, xo, _, rfl, _⟩ := hxv.at h2
      exact ⟨_, by rw [h1, ptrAt_nat], by rw [h3]; rfl⟩
  rw [hpa]
  have ha7 := hb7.at
  repeat (first | refine RL.vv ?_ | refine RL.p ?_ | refine RL.nil ?_ | refine Sim.seq ?_ | refine Sim.region ?_ | refine Sim.block ?_ | refine Sim.skip ?_ | refine Sim.inBlock ?_ | refine Sim.exit rfl ?_ | refine Sim.condT rfl ?_ | refine Sim.condF rfl ?_)
  refine RL.vv ?_ (hy := y_neqNil (el := 65) rfl)
  rw [hps]
  refine RL.bu (el := 4) [.bool (thingM s.things ty key).isSome] hu fun b42 w7 he42 hle42 hu hu67 hb42 => ?_
  have hrep6 := hrep
  have hrep := hrep.up hu67
  refine RL.app (L := boolLay) (el := 4) (S := All) (B := B) (ys := [(thingM s.things ty key).isSome]) hu hrep.1.no (SliceOf.one hb42 ⟨trivial, hrep6.1.ne (Nat.le_of_eq he42.symm)⟩ rfl) (by simp; omega) hw4 (by have := hu67.size; omega) fun av w8 hu ho hg hv => ?_
  have hlt42 := hb42.lt
  have hn3 := hrep.1.ne' hlt3
  have hn4 := hrep.1.ne' hlt4
  have hn7 := hrep.1.ne' hlt7
  have hb3 := (hb3.up hu67).grown hg hn3
  have hb4 := (hb4.up hu67).grown hg hn4
  have hb7 := (hb7.up hu67).grown hg hn7
  have hrep := hrep.found hg ho.no hv
  have hB8 := hg.size
  have hB7 := hu67.size
  obtain ⟨aa, an, ac, rfl⟩ := ho.sh
  clear hrep6 ho hg hv hn3 hn4 hn7 hu67 hb42 he42 hle42 hlt42 ha7 hps
  repeat (first | refine RL.vv ?_ | refine RL.p ?_ | refine RL.nil ?_ | refine Sim.seq ?_ | refine Sim.region ?_ | refine Sim.block ?_ | refine Sim.skip ?_ | refine Sim.inBlock ?_ | refine Sim.exit rfl ?_ | refine Sim.condT rfl ?_ | refine Sim.condF rfl ?_)
  refine RL.st hu hb7 hle7 fun w9 hu hbt hb7 => ?_
  have hrep := hrep.but hbt (Nat.zero_le _) hlt7
  have hb3 := hb3.but hbt (by omega)
  have hb4 := hb4.but hbt (by omega)
  refine RL.nil ?_
  ((repeat refine Sim.seq ?_); refine Sim.region ?_; (repeat (first | refine RL.vv ?_ | refine RL.p ?_)); refine RL.nil ?_)
  refine Sim.seq ?_
  have hB9 := hbt.size
  have hkk : B ≤ w9.heap.size := by omega
  have h6 := hu
  clear hbt hB9 hB8 hB7 hB6 hB5
  refine Sim.cutX (fun v11 => [(0, .slice (some ⟨vb, so, none⟩) l.length lc), (3, .pointer (some ⟨b3, 0, none⟩)), (4, .pointer (some ⟨b4, 0, none⟩)), (7, .pointer (some ⟨b7, 0, none⟩)), (24, .slice (some ⟨kb, ko, none⟩) ks.length kc), (25, .int .i64 (ks.length : Int)), (26, .int .i64 (i : Int)), (11, v11)])
    (fun v11 w' => Up w9 w' ∧ Own valLay 62 w9.heap.size (fun k => w9.heap.size ≤ k) w' v11 (valsM fs (thingM s.things ty key))) (fun k' next2 => ?_) ?_
  · by_cases hn : thingAt s.things ty key < 0
    · have hpn : pa = none := by
        rw [thingAt_neg' hn, ptrAt_neg] at hpa
        simp only [Value.pointer.injEq] at hpa
        exact hpa.symm
      subst hpn
      rw [thingM_none hn] at next2
      repeat (first | refine RL.vv ?_ | refine RL.p ?_ | refine RL.nil ?_ | refine Sim.seq ?_ | refine Sim.region ?_ | refine Sim.block ?_ | refine Sim.skip ?_ | refine Sim.inBlock ?_ | refine Sim.exit rfl ?_ | refine Sim.condT rfl ?_ | refine Sim.condF rfl ?_)
      exact next2 _ _ _ ⟨.refl _, Own.nil _ _ _ _ _⟩ sb
    obtain ⟨j0, x, hj0, hx0, hth⟩ := thingM_at hn
    obtain ⟨xb, xo, cs, rfl, _, hxat, ⟨vsv, rfl, hvs⟩, hj0l⟩ := hxv.at hx0
    have hxat : At w xb (xo + j0 * 3) _ := hxat
    rw [hj0, ptrAt_nat] at hpa
    simp only [Value.pointer.injEq] at hpa
    subst hpa
    rw [hth] at next2
    obtain ⟨va, vc, rfl, hvnc, hvcm, _⟩ := id hvs
    unfold maxLen at hvcm
    have ha3 := hb3.at
    have hox := (hosv.2 x (List.mem_of_getElem? hx0)).2.2
    repeat (first | refine RL.vv ?_ | refine RL.p ?_ | refine RL.nil ?_ | refine Sim.seq ?_ | refine Sim.region ?_ | refine Sim.block ?_ | refine Sim.skip ?_ | refine Sim.inBlock ?_ | refine Sim.exit rfl ?_ | refine Sim.condT rfl ?_ | refine Sim.condF rfl ?_)
    refine Sim.loop (σ := Nat × Value) (fun st => [(0, .slice (some ⟨vb, so, none⟩) l.length lc), (3, .pointer (some ⟨b3, 0, none⟩)), (4, .pointer (some ⟨b4, 0, none⟩)), (7, .pointer (some ⟨b7, 0, none⟩)), (24, .slice (some ⟨kb, ko, none⟩) ks.length kc), (25, .int .i64 (ks.length : Int)), (26, .int .i64 (i : Int)), (10, .pointer (some ⟨xb, xo + j0 * 3, none⟩)), (48, .slice fa fs.length fc), (49, .int .i64 (fs.length : Int)), (50, .int .i64 (st.1 : Int)), (11, st.2)])
      (fun st w' => st.1 ≤ fs.length ∧ Up w9 w' ∧ Own valLay 62 w9.heap.size (fun k => w9.heap.size ≤ k) w' st.2 (valsM (fs.take st.1) (some x))) (fun st => fs.length - st.1) (0, .slice none 0 0) sb ⟨Nat.zero_le _, .refl _, Own.nil _ _ _ _ _⟩ ?_
    clear hu ha3
    rintro ⟨j, v11⟩ w10 ⟨hj, hu9, ho⟩ next3
    have hu := h6.trans hu9
    have ha3 := (hb3.up hu9).at
    simp only at hj ho next3 ⊢
    by_cases hjl : j < fs.length
    · have hf0 : fs[j]? = some fs[j] := List.getElem?_eq_getElem hjl
      obtain ⟨fb, fo, cs, rfl, _, hfat, rfl, _⟩ := hf.at hf0
      have hfat : At w fb (fo + j * 1) _ := hfat
      have hpl := part_le hnd hjl x.vals
      have hsucc : valsM (fs.take (j + 1)) (some x) = valsM (fs.take j) (some x) ++ x.vals.filter fun v => decide (v.field = fs[j]) := by
        simp only [valsM]
        rw [List.take_succ_eq_append_getElem hjl, List.flatMap_append]
        simp
      generalize fs[j] = f at *
      repeat (first | refine RL.vv ?_ | refine RL.p ?_ | refine RL.nil ?_ | refine Sim.seq ?_ | refine Sim.region ?_ | refine Sim.block ?_ | refine Sim.skip ?_ | refine Sim.inBlock ?_ | refine Sim.exit rfl ?_ | refine Sim.condT rfl ?_ | refine Sim.condF rfl ?_)
      refine Sim.loop (σ := Nat × Value) (fun st => [(0, .slice (some ⟨vb, so, none⟩) l.length lc), (3, .pointer (some ⟨b3, 0, none⟩)), (4, .pointer (some ⟨b4, 0, none⟩)), (7, .pointer (some ⟨b7, 0, none⟩)), (24, .slice (some ⟨kb, ko, none⟩) ks.length kc), (25, .int .i64 (ks.length : Int)), (26, .int .i64 (i : Int)), (10, .pointer (some ⟨xb, xo + j0 * 3, none⟩)), (48, .slice (some ⟨fb, fo, none⟩) fs.length fc), (49, .int .i64 (fs.length : Int)), (50, .int .i64 (j : Int)), (13, .string f), (57, .slice va x.vals.length vc), (58, .int .i64 (x.vals.length : Int)), (59, .int .i64 (st.1 : Int)), (11, st.2)])
        (fun st w' => st.1 ≤ x.vals.length ∧ Up w9 w' ∧ Own valLay 62 w9.heap.size (fun k => w9.heap.size ≤ k) w' st.2 (valsM (fs.take j) (some x) ++ (x.vals.take st.1).filter fun v => decide (v.field = f))) (fun st => x.vals.length - st.1) (0, v11) sb ⟨Nat.zero_le _, hu9, by simpa using ho⟩ ?_
      clear hu hu9 ho ha3
      rintro ⟨m, v12⟩ w11 ⟨hm, hu9, ho⟩ next4
      have hu := h6.trans hu9
      simp only at hm ho next4 ⊢
      by_cases hml : m < x.vals.length
      · have hv0 : x.vals[m]? = some x.vals[m] := List.getElem?_eq_getElem hml
        obtain ⟨vvb, vo, cs, rfl, _, hvat, ⟨kv2, rfl, hkv2⟩, _⟩ := hvs.at hv0
        have hvat : At w vvb (vo + m * 3) _ := hvat
        have hokv := hox.2 _ (List.mem_of_getElem? hv0)
        have hms : ((x.vals.take (m + 1)).filter fun v => decide (v.field = f)) = ((x.vals.take m).filter fun v => decide (v.field = f)) ++ if x.vals[m].field = f then [x.vals[m]] else [] := by
          rw [List.take_succ_eq_append_getElem hml, List.filter_append]
          by_cases hc : x.vals[m].field = f <;> simp [hc]
        have hplm := hpl (m + 1)
        rw [hms] at hplm
        generalize x.vals[m] = vl at *
        obtain ⟨ka2, kc2, rfl, _, _, _⟩ := id hkv2
        repeat (first | refine RL.vv ?_ | refine RL.p ?_ | refine RL.nil ?_ | refine Sim.seq ?_ | refine Sim.region ?_ | refine Sim.block ?_ | refine Sim.skip ?_ | refine Sim.inBlock ?_ | refine Sim.exit rfl ?_ | refine Sim.condT rfl ?_ | refine Sim.condF rfl ?_)
        refine RL.al (.refl w11) fun b15 w12 he15 hle15 _ h12 hb15 => ?_
        refine RL.st h12 hb15 hle15 fun w13 h13 _ hb15 => ?_
        have hu := hu.trans h13
        have hu9 := hu9.trans h13
        have hn15 : some b15 ≠ v12.ownBlock := ho.ne hle15
        have ho := ho.up h13
        clear he15 hle15 h12 h13
        have ha15 := hb15.at
        by_cases hc : vl.field = f
        · rw [if_pos hc] at hms hplm
          have hplm : (valsM (List.take j fs) (some x) ++ List.filter (fun v => decide (v.field = f)) (List.take m x.vals)).length + 1 ≤ x.vals.length := by
            simp only [List.length_append, List.length_cons, List.length_nil] at hplm ⊢
            simp only [valsM]
            omega
          repeat (first | refine RL.vv ?_ | refine RL.p ?_ | refine RL.nil ?_ | refine Sim.seq ?_ | refine Sim.region ?_ | refine Sim.block ?_ | refine Sim.skip ?_ | refine Sim.inBlock ?_ | refine Sim.exit rfl ?_ | refine Sim.condT rfl ?_ | refine Sim.condF rfl ?_)
          have hS0 : Up w9 w13.drew ∧ At w13.drew b15 0 [.string vl.field, .string vl.text, .slice ka2 vl.keys.length kc2] := ⟨hu9.trans (Up.drew _), ha15.up (Up.drew _)⟩
          refine Sim.ord (fun wq => Up w9 wq ∧ At wq b15 0 [.string vl.field, .string vl.text, .slice ka2 vl.keys.length kc2]) ?_
          refine RO.tk 0 ?_
          refine RO.tk 1 ?_
          refine RO.tk 2 ?_
          refine RO.tk 3 ?_ (hy := fun wq hq => y_loadF rfl hq.2 rfl)
          refine RO.tk 4 ?_
          refine RO.tk 5 ?_ (hy := fun wq hq => y_loadF rfl hq.2 rfl)
          refine RO.one 6 ?_
          refine RL.cx (Clone_Str (S' := All) _ (hkv2.up (hu.trans (Up.drew _))) (by have := hokv.2.2.1; omega)) ?_
          rintro _ w14 ⟨cv, rfl, h14, hcl⟩
          refine ⟨_, rfl, ?_⟩
          obtain ⟨ca, cn, cc, rfl⟩ := hcl.sh
          have hq := (Up.drew w13).trans h14
          refine RL.ord ⟨hu9.trans hq, ha15.up hq⟩ ?_
          refine RO.one 7 ?_
          refine RL.val trivial rfl (y_build (v := .agg #[.string f, .string vl.text, .slice ca cn cc]) rfl (fun w => by kernel_rfl)) ?_
          refine RL.ord ⟨hu9.trans hq, ha15.up hq⟩ ?_
          refine RO.one 8 ?_
          refine RL.bu (el := 62) [.string f, .string vl.text, .slice ca cn cc] (.refl w14) fun b16 w15 he16 _ _ h15 hb16 => ?_
          have hu15 := hq.trans h15
          refine RL.ord ⟨hu9.trans hu15, ha15.up hu15⟩ ?_
          have hcl := hcl.up h15
          have hs13 := hu9.size
          have hs14 := hq.size
          have hlw := hcl.lt
          have hne : ∀ k, w13.heap.size ≤ k → some k ≠ v12.ownBlock := fun k hk => ho.ne hk
          refine RO.one 9 ?_
          refine RL.app (L := valLay) (el := 62) (S := fun k => w9.heap.size ≤ k) (ys := [vl]) (hu9.trans hu15) (ho.up hu15) (SliceOf.one hb16 ⟨by omega, hne _ (by omega)⟩ ⟨_, by rw [hc], (hcl.no (S' := No)).sl (fun _ h _ _ => h.elim) fun g hg => ⟨by have := (hlw g hg).1; simp only [World.drew] at this; omega, hne _ (by have := (hlw g hg).1; simp only [World.drew] at this; omega)⟩⟩) (by simp only [List.length_cons, List.length_nil]; have := hox.1; omega) (Nat.le_refl _) (by have := hu15.size; omega) fun v13 w16 hu16 ho2 hg hv => ?_
          have hS1 : Up w9 w16 ∧ At w16 b15 0 [.string vl.field, .string vl.text, .slice ka2 vl.keys.length kc2] := ⟨hu16, ((hb15.up hu15).grown hg hn15).at⟩
          refine RL.ord hS1 ?_
          refine RO.tk 10 ?_
          refine RO.done (RL.nil ?_)
          repeat (first | refine RL.vv ?_ | refine RL.p ?_ | refine RL.nil ?_ | refine Sim.seq ?_ | refine Sim.region ?_ | refine Sim.block ?_ | refine Sim.skip ?_ | refine Sim.inBlock ?_ | refine Sim.exit rfl ?_ | refine Sim.condT rfl ?_ | refine Sim.condF rfl ?_)
          refine next4 (m + 1, v13) _ _ ⟨by simp only; omega, hu16, ?_⟩ (by simp only; omega) sb
          simp only
          rw [hms, ← List.append_assoc]
          exact ho2
        · rw [if_neg hc, List.append_nil] at hms
          repeat (first | refine RL.vv ?_ | refine RL.p ?_ | refine RL.nil ?_ | refine Sim.seq ?_ | refine Sim.region ?_ | refine Sim.block ?_ | refine Sim.skip ?_ | refine Sim.inBlock ?_ | refine Sim.exit rfl ?_ | refine Sim.condT rfl ?_ | refine Sim.condF rfl ?_)
          refine next4 (m + 1, v12) _ _ ⟨by simp only; omega, hu9, ?_⟩ (by simp only; omega) sb
          simp only
          rw [hms]
          exact ho
      · have hmm : m = x.vals.length := by omega
        subst hmm
        rw [List.take_length, ← hsucc] at ho
        repeat (first | refine RL.vv ?_ | refine RL.p ?_ | refine RL.nil ?_ | refine Sim.seq ?_ | refine Sim.region ?_ | refine Sim.block ?_ | refine Sim.skip ?_ | refine Sim.inBlock ?_ | refine Sim.exit rfl ?_ | refine Sim.condT rfl ?_ | refine Sim.condF rfl ?_)
        exact next3 (j + 1, v12) _ _ ⟨by simp only; omega, hu9, ho⟩ (by simp only; omega) sb
    · have hjj : j = fs.length := by omega
      subst hjj
      rw [List.take_length] at ho
      repeat (first | refine RL.vv ?_ | refine RL.p ?_ | refine RL.nil ?_ | refine Sim.seq ?_ | refine Sim.region ?_ | refine Sim.block ?_ | refine Sim.skip ?_ | refine Sim.inBlock ?_ | refine Sim.exit rfl ?_ | refine Sim.condT rfl ?_ | refine Sim.condF rfl ?_)
      exact next2 v11 _ _ ⟨hu9, ho⟩ sb
  · rintro v11 w10 ⟨hu9, ho⟩
    have hu := h6.trans hu9
    have hnk : ∀ k, w9.heap.size ≤ k → (k < 0 ∨ B ≤ k) ∧ some k ≠ Value.ownBlock (.slice aa an ac) := fun k hk => ⟨by omega, hrep.1.ne hk⟩
    have hnb : ∀ k, w9.heap.size ≤ k → some k ≠ Value.ownBlock (.slice ba bn bc) := fun k hk => hrep.2.1.ne hk
    have hrep := hrep.up hu9
    have hb3 := hb3.up hu9
    have hb4 := hb4.up hu9
    have hb7 := hb7.up hu9
    have ha7 := hb7.at
    obtain ⟨ca, cn, cc, rfl⟩ := ho.sh
    repeat (first | refine RL.vv ?_ | refine RL.p ?_ | refine RL.nil ?_ | refine Sim.seq ?_ | refine Sim.region ?_ | refine Sim.block ?_ | refine Sim.skip ?_ | refine Sim.inBlock ?_ | refine Sim.exit rfl ?_ | refine Sim.condT rfl ?_ | refine Sim.condF rfl ?_)
    refine RL.bu (el := 60) [.slice ca cn cc] (.refl w10) fun b11 w11 he11 _ _ h11 hb11 => ?_
    have hs910 := hu9.size
    have hu9 := hu9.trans h11
    have hs9 := hu9.size
    have hs10 := h11.size
    have ho := ho.up h11
    have hrep := hrep.up h11
    have hb7 := hb7.up h11
    have hwb : w9.heap.size ≤ b11 := by omega
    refine RL.app (L := valLay.slice) (el := 60) (S := fun k => (k < 0 ∨ B ≤ k) ∧ some k ≠ Value.ownBlock (.slice aa an ac)) (B := B) (ys := [valsM fs (thingM s.things ty key)]) (hu.trans h11) hrep.2.1 (SliceOf.one hb11 ⟨hnk _ hwb, hnb _ hwb⟩ ⟨_, rfl, ho.sl (fun k hk _ _ => ⟨hnk _ hk, hnb _ hk⟩) fun g hg => ⟨hnk _ (ho.lt g hg).1, hnb _ (ho.lt g hg).1⟩⟩) (by simp only [List.length_cons, List.length_nil, List.length_map, List.length_take]; omega) hw4 (by omega) fun bv' w12 hu ho2 hg hv => ?_
    have hn3 := hrep.2.1.ne' hlt3
    have hn4 := hrep.2.1.ne' hlt4
    have hn7 := hrep.2.1.ne' hlt7
    have hb3 := (hb3.up h11).grown hg hn3
    have hb4 := (hb4.up h11).grown hg hn4
    have hb7 := hb7.grown hg hn7
    have hrep := hrep.vals hg ho2 hv
    have hB12 := hg.size
    obtain ⟨b2a, b2n, b2c, rfl⟩ := ho2.sh
    clear ho2 hg hv hn3 hn4 hn7 hb11 ho
    repeat (first | refine RL.vv ?_ | refine RL.p ?_ | refine RL.nil ?_ | refine Sim.seq ?_ | refine Sim.region ?_ | refine Sim.block ?_ | refine Sim.skip ?_ | refine Sim.inBlock ?_ | refine Sim.exit rfl ?_ | refine Sim.condT rfl ?_ | refine Sim.condF rfl ?_)
    refine RL.st hu hb7 hle7 fun w13 hu hbt hb7 => ?_
    have hrep := hrep.but hbt (Nat.zero_le _) hlt7
    have hb3 := hb3.but hbt (by omega)
    have hb4 := hb4.but hbt (by omega)
    have hB13 := hbt.size
    repeat (first | refine RL.vv ?_ | refine RL.p ?_ | refine RL.nil ?_ | refine Sim.seq ?_ | refine Sim.region ?_ | refine Sim.block ?_ | refine Sim.skip ?_ | refine Sim.inBlock ?_ | refine Sim.exit rfl ?_ | refine Sim.condT rfl ?_ | refine Sim.condF rfl ?_)
    refine next (i + 1) _ _ ⟨by omega, hu, by omega, hb3, hb4, _, _, hb7, ?_⟩ (by omega) sb
    rw [hkt, List.map_append, List.map_append]
    exact hrep
end Go.Proofs.Ytgckpmcdlciibab
