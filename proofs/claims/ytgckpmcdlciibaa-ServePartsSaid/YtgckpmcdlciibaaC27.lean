/- Contracts of chapter 5: two replies that are the same. -/
import Derived.Test.YtgckpmcdlciibaaC25
import Derived.Test.YtgckpmcdlciibaaC26
namespace Go.Proofs.Ytgckpmcdlciibaa
open Go.RowKit
set_option maxHeartbeats 2000000 in
theorem SameReply_eq {S S' T T' : Nat → Prop} {a b a' b' : Value} (r : Rp) (w : World) (h1 : SliceOf boolLay S w a r.found) (h2 : SliceOf valLay.slice T w b r.vals) (h1' : SliceOf boolLay S' w a' r.found) (h2' : SliceOf valLay.slice T' w b' r.vals) (hlen : r.found.length = r.vals.length) :
    Calls Try.prog 19 #[.agg #[a, b], .agg #[a', b']] w fun en w' => en = .returned (.bool true) ∧ Up w w' := by
  refine calls_of_sim Try.func19 rfl (Nat.le_of_ble_eq_true rfl) ?_
  obtain ⟨fs, vs⟩ := r
  simp only at h1 h2 h1' h2' hlen
  obtain ⟨aa, ac, rfl, _, _, _⟩ := id h1
  obtain ⟨ba, bc, rfl, _, hbm, _⟩ := id h2
  obtain ⟨aa', ac', rfl, _, _, _⟩ := id h1'
  obtain ⟨ba', bc', rfl, _, _, _⟩ := id h2'
  unfold maxLen at hbm
  have hlz : (fs.length : Int) = (vs.length : Int) := by omega
  repeat (first | refine RL.vv ?_ | refine RL.p ?_ | refine RL.nil ?_ | refine Sim.seq ?_ | refine Sim.region ?_ | refine Sim.block ?_ | refine Sim.skip ?_ | refine Sim.inBlock ?_ | refine Sim.exit rfl ?_ | refine Sim.condT rfl ?_ | refine Sim.condF rfl ?_)
  refine RL.bx (.refl w) fun b2 w1 _ _ hu1 _ hb2 => ?_
  refine RL.bx hu1 fun b3 w2 _ _ hu h12 hb3 => ?_
  have hb2 := hb2.up h12
  have ha2 := hb2.at
  have ha3 := hb3.at
  repeat (first | refine RL.vv ?_ | refine RL.p ?_ | refine RL.nil ?_ | refine Sim.seq ?_ | refine Sim.region ?_ | refine Sim.block ?_ | refine Sim.skip ?_ | refine Sim.inBlock ?_ | refine Sim.exit rfl ?_ | refine Sim.condT rfl ?_ | refine Sim.condF rfl ?_)
  refine Sim.loop (σ := Nat) (fun i => [(2, .pointer (some ⟨b2, 0, none⟩)), (3, .pointer (some ⟨b3, 0, none⟩)), (36, .int .i64 (fs.length : Int)), (37, .int .i64 (i : Int))]) (fun i w' => i ≤ fs.length ∧ Up w w' ∧ Box w' b2 _ _ ∧ Box w' b3 _ _) (fun i => fs.length - i) 0 sb ⟨Nat.zero_le _, hu, hb2, hb3⟩ ?_
  clear hu hb2 hb3 ha2 ha3 hu1 h12
  rintro i w1 ⟨hi, hu, hb2, hb3⟩ next
  have ha2 := hb2.at
  have ha3 := hb3.at
  by_cases hlt : i < fs.length
  · have hx : fs[i]? = some fs[i] := List.getElem?_eq_getElem hlt
    have hltv : i < vs.length := by omega
    have hy : vs[i]? = some vs[i] := List.getElem?_eq_getElem hltv
    obtain ⟨fb, fo, cs, rfl, _, hfat, rfl, _⟩ := (h1.up hu).at hx
    obtain ⟨fb', fo', cs, rfl, _, hfat', rfl, _⟩ := (h1'.up hu).at hx
    obtain ⟨vb, vo, cs, rfl, _, hvat, ⟨xv, rfl, hxv⟩, _⟩ := (h2.up hu).at hy
    obtain ⟨vb', vo', cs, rfl, _, hvat', ⟨xv', rfl, hxv'⟩, _⟩ := (h2'.up hu).at hy
    have hfat : At w1 fb (fo + i * 1) _ := hfat
    have hfat' : At w1 fb' (fo' + i * 1) _ := hfat'
    have hvat : At w1 vb (vo + i * 1) _ := hvat
    have hvat' : At w1 vb' (vo' + i * 1) _ := hvat'
    generalize fs[i] = fi at *
    generalize vs[i] = xs at *
    obtain ⟨xa, xc, rfl, _, hxm, _⟩ := id hxv
    obtain ⟨xa', xc', rfl, _, hxm', _⟩ := id hxv'
    unfold maxLen at hxm hxm'
    repeat (first | refine RL.vv ?_ | refine RL.p ?_ | refine RL.nil ?_ | refine Sim.seq ?_ | refine Sim.region ?_ | refine Sim.block ?_ | refine Sim.skip ?_ | refine Sim.inBlock ?_ | refine Sim.exit rfl ?_ | refine Sim.condT rfl ?_ | refine Sim.condF rfl ?_)
    refine Sim.q ?_
    repeat (first | refine RQ.vv ?_ | refine RQ.p ?_)
    refine RQ.nil fun w2 hq => ?_
    have hu2 := hu.trans hq
    have hb2 := hb2.up hq
    have hb3 := hb3.up hq
    have hvat := hvat.up hq
    have hvat' := hvat'.up hq
    have hxv := hxv.up hq
    have hxv' := hxv'.up hq
    clear hu ha2 ha3 hq
    have ha2 := hb2.at
    have ha3 := hb3.at
    repeat (first | refine RL.vv ?_ | refine RL.p ?_ | refine RL.nil ?_ | refine Sim.seq ?_ | refine Sim.region ?_ | refine Sim.block ?_ | refine Sim.skip ?_ | refine Sim.inBlock ?_ | refine Sim.exit rfl ?_ | refine Sim.condT rfl ?_ | refine Sim.condF rfl ?_)
    refine Sim.loop (σ := Nat) (fun m => [(2, .pointer (some ⟨b2, 0, none⟩)), (3, .pointer (some ⟨b3, 0, none⟩)), (36, .int .i64 (fs.length : Int)), (37, .int .i64 (i : Int)), (5, .int .i64 (i : Int)), (71, .int .i64 (xs.length : Int)), (72, .int .i64 (m : Int))]) (fun m w' => m ≤ xs.length ∧ Up w2 w') (fun m => xs.length - m) 0 sb ⟨Nat.zero_le _, .refl _⟩ ?_
    rintro m w3 ⟨hm, hu⟩ next2
    by_cases hlt2 : m < xs.length
    · have hz : xs[m]? = some xs[m] := List.getElem?_eq_getElem hlt2
      have ha2 := ha2.up hu
      have ha3 := ha3.up hu
      have hvat := hvat.up hu
      have hvat' := hvat'.up hu
      obtain ⟨zb, zo, cs, rfl, _, hzat, ⟨kv, rfl, hkv⟩, _⟩ := (hxv.up hu).at hz
      obtain ⟨zb', zo', cs, rfl, _, hzat', ⟨kv', rfl, hkv'⟩, _⟩ := (hxv'.up hu).at hz
      have hzat : At w3 zb (zo + m * 3) _ := hzat
      have hzat' : At w3 zb' (zo' + m * 3) _ := hzat'
      generalize xs[m] = z at *
      obtain ⟨ka, kc, rfl, _, _, _⟩ := id hkv
      obtain ⟨ka', kc', rfl, _, _, _⟩ := id hkv'
      have hff : z.field = z.field := rfl
      have htt : z.text = z.text := rfl
      repeat (first | refine RL.vv ?_ | refine RL.p ?_ | refine RL.nil ?_ | refine Sim.seq ?_ | refine Sim.region ?_ | refine Sim.block ?_ | refine Sim.skip ?_ | refine Sim.inBlock ?_ | refine Sim.exit rfl ?_ | refine Sim.condT rfl ?_ | refine Sim.condF rfl ?_)
      refine Sim.ord (Up w3) ?_
      refine RO.tk 0 ?_
      refine RO.tk 1 ?_
      refine RO.tk 2 ?_
      refine RO.tk 3 ?_
      refine RO.tk 4 ?_
      refine RO.tk 5 ?_
      refine RO.tk 6 ?_
      refine RO.tk 7 ?_
      refine RO.tk 8 ?_
      refine RO.tk 9 ?_
      refine RO.tk 10 ?_
      refine RO.tk 11 ?_
      refine RO.tk 12 ?_
      refine RO.tk 13 ?_
      refine RO.tk 14 ?_
      refine RO.tk 15 ?_
      have h0 := Up.drew w3
      refine RO.two 16 17 ?_ ?_
      · refine RL.al h0 fun b7 w4 _ h7 h0 _ hb7 => ?_
        refine RL.ord h0 ?_
        refine RO.one 17 ?_
        refine RL.al h0 fun b8 w5 he8 h8 h0 h hb8 => ?_
        have h78 : b7 ≠ b8 := by have := hb7.lt; omega
        have hb7 := hb7.up h
        refine RL.ord h0 ?_
        refine RO.one 18 ?_
        refine RL.st h0 hb7 h7 fun w6 h0 hbt hb7 => ?_
        have hb8 := hb8.but hbt (Ne.symm h78)
        refine RL.ord h0 ?_
        refine RO.one 19 ?_
        refine RL.st h0 hb8 h8 fun w7 h0 hbt hb8 => ?_
        have ha7 := (hb7.but hbt h78).at
        have ha8 := hb8.at
        refine RL.ord h0 ?_
        refine RO.done (RL.nil ?_)
        clear hbt
        repeat (first | refine RL.vv ?_ | refine RL.p ?_ | refine RL.nil ?_ | refine Sim.seq ?_ | refine Sim.region ?_ | refine Sim.block ?_ | refine Sim.skip ?_ | refine Sim.inBlock ?_ | refine Sim.exit rfl ?_ | refine Sim.condT rfl ?_ | refine Sim.condF rfl ?_)
        refine RL.cu h0 (SameTexts_eq w7 (hkv.up h0) (hkv'.up h0)) fun w8 h0 _ => ?_
        repeat (first | refine RL.vv ?_ | refine RL.p ?_ | refine RL.nil ?_ | refine Sim.seq ?_ | refine Sim.region ?_ | refine Sim.block ?_ | refine Sim.skip ?_ | refine Sim.inBlock ?_ | refine Sim.exit rfl ?_ | refine Sim.condT rfl ?_ | refine Sim.condF rfl ?_)
        exact next2 (m + 1) _ _ ⟨by omega, hu.trans h0⟩ (by omega) sb
      · refine RL.al h0 fun b8 w4 _ h8 h0 _ hb8 => ?_
        refine RL.ord h0 ?_
        refine RO.one 16 ?_
        refine RL.al h0 fun b7 w5 he7 h7 h0 h hb7 => ?_
        have h78 : b7 ≠ b8 := by have := hb8.lt; omega
        have hb8 := hb8.up h
        refine RL.ord h0 ?_
        refine RO.one 18 ?_
        refine RL.st h0 hb7 h7 fun w6 h0 hbt hb7 => ?_
        have hb8 := hb8.but hbt (Ne.symm h78)
        refine RL.ord h0 ?_
        refine RO.one 19 ?_
        refine RL.st h0 hb8 h8 fun w7 h0 hbt hb8 => ?_
        have ha7 := (hb7.but hbt h78).at
        have ha8 := hb8.at
        refine RL.ord h0 ?_
        refine RO.done (RL.nil ?_)
        clear hbt
        repeat (first | refine RL.vv ?_ | refine RL.p ?_ | refine RL.nil ?_ | refine Sim.seq ?_ | refine Sim.region ?_ | refine Sim.block ?_ | refine Sim.skip ?_ | refine Sim.inBlock ?_ | refine Sim.exit rfl ?_ | refine Sim.condT rfl ?_ | refine Sim.condF rfl ?_)
        refine RL.cu h0 (SameTexts_eq w7 (hkv.up h0) (hkv'.up h0)) fun w8 h0 _ => ?_
        repeat (first | refine RL.vv ?_ | refine RL.p ?_ | refine RL.nil ?_ | refine Sim.seq ?_ | refine Sim.region ?_ | refine Sim.block ?_ | refine Sim.skip ?_ | refine Sim.inBlock ?_ | refine Sim.exit rfl ?_ | refine Sim.condT rfl ?_ | refine Sim.condF rfl ?_)
        exact next2 (m + 1) _ _ ⟨by omega, hu.trans h0⟩ (by omega) sb
    · repeat (first | refine RL.vv ?_ | refine RL.p ?_ | refine RL.nil ?_ | refine Sim.seq ?_ | refine Sim.region ?_ | refine Sim.block ?_ | refine Sim.skip ?_ | refine Sim.inBlock ?_ | refine Sim.exit rfl ?_ | refine Sim.condT rfl ?_ | refine Sim.condF rfl ?_)
      exact next (i + 1) _ _ ⟨by omega, hu2.trans hu, hb2.up hu, hb3.up hu⟩ (by omega) sb
  · repeat (first | refine RL.vv ?_ | refine RL.p ?_ | refine RL.nil ?_ | refine Sim.seq ?_ | refine Sim.region ?_ | refine Sim.block ?_ | refine Sim.skip ?_ | refine Sim.inBlock ?_ | refine Sim.exit rfl ?_ | refine Sim.condT rfl ?_ | refine Sim.condF rfl ?_)
    exact Sim.ret1 Try.func19 rfl rfl ⟨rfl, hu⟩
end Go.Proofs.Ytgckpmcdlciibaa
