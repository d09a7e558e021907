/- The reference of chapter 6: is a thing there; what picks get of it. -/
import Derived.Test.YtgckpmcdlciibacZX
namespace Go.Proofs.Ytgckpmcdlciibac
open Go.RowKit
/-- all that the reference looks a thing's picks up in -/
structure RIn (S S2 : Nat → Prop) (pb po : Nat) (lv pv fv ov hv : Value) (l : List Svc) (ps : List Prt) (p : Prt) (w : World) : Prop where
  ok : WholeOk l ps
  mem : p ∈ ps
  svcs : SliceOf svcLay S w lv l
  parts : SliceOf prtLay S2 w pv ps
  part : At w pb po [.string p.type.name, fv, ov, hv]
  fields : SliceOf fldLay S2 w fv p.type.fields
  owners : SliceOf ownLay S2 w ov p.owners
  homes : SliceOf ownLay S2 w hv p.homes
theorem RIn.up {S S2 : Nat → Prop} {pb po : Nat} {lv pv fv ov hv : Value} {l : List Svc} {ps : List Prt} {p : Prt} {w w' : World} (h : RIn S S2 pb po lv pv fv ov hv l ps p w) (hu : Up w w') : RIn S S2 pb po lv pv fv ov hv l ps p w' :=
  ⟨h.ok, h.mem, h.svcs.up hu, h.parts.up hu, h.part.up hu, h.fields.up hu, h.owners.up hu, h.homes.up hu⟩
theorem RIn.to {S S2 : Nat → Prop} {pb po : Nat} {pa : Nat} {pn pc : Nat} {pb' : Nat} {lv fv ov hv : Value} {l : List Svc} {ps : List Prt} {p t : Prt} {w : World} {k : Nat} (h : RIn S S2 pb po lv (.slice (some ⟨pb', pa, none⟩) pn pc) fv ov hv l ps p w) (ht : ps[k]? = some t) : ∃ fv' ov' hv', RIn S S2 pb' (pa + k * 4) lv (.slice (some ⟨pb', pa, none⟩) pn pc) fv' ov' hv' l ps t w := by
  obtain ⟨b, o, cs, he, _, hat, ⟨fv', ov', hv', rfl, h1, h2, h3⟩, _⟩ := h.parts.at ht
  simp only [Option.some.injEq, Addr.mk.injEq, and_true] at he
  obtain ⟨rfl, rfl⟩ := he
  exact ⟨fv', ov', hv', h.ok, List.mem_of_getElem? ht, h.svcs, h.parts, hat, h1, h2, h3⟩
set_option maxHeartbeats 1000000 in
theorem RThere_any {S S2 : Nat → Prop} {pb po : Nat} {lv fv ov hv : Value} {l : List Svc} (p : Prt) (key : Str) (w : World) (hl : SliceOf svcLay S w lv l) (hp : At w pb po [.string p.type.name, fv, ov, hv]) (hh : SliceOf ownLay S2 w hv p.homes) (hok : ∀ h ∈ p.homes, 0 ≤ h.service ∧ ∃ s, l[h.service.toNat]? = some s) :
    Calls Try.prog 73 #[lv, .pointer (some ⟨pb, po, none⟩), .string key] w fun en w' => en = .returned (.bool (thereM l p key)) ∧ Up w w' := by
  refine calls_of_sim Try.func73 rfl (Nat.le_of_ble_eq_true rfl) ?_
  obtain ⟨ha, hc, rfl, hhnc, hhcm, _⟩ := id hh
  obtain ⟨la, lc, rfl, hlnc, hlcm, _⟩ := id hl
  unfold maxLen at hhcm hlcm
  repeat (first | refine RL.vv ?_ | refine RL.p ?_ | refine RL.nil ?_ | refine Sim.seq ?_ | refine Sim.region ?_ | refine Sim.block ?_ | refine Sim.skip ?_ | refine Sim.inBlock ?_ | refine Sim.exit rfl ?_ | refine Sim.condT rfl ?_ | refine Sim.condF rfl ?_)
  refine Sim.loop (σ := Nat) (fun i => [(0, .slice la l.length lc), (1, .pointer (some ⟨pb, po, none⟩)), (2, .string key), (12, .slice ha p.homes.length hc), (13, .int .i64 (p.homes.length : Int)), (14, .int .i64 (i : Int))]) (fun i w' => i ≤ p.homes.length ∧ Up w w' ∧ ∀ (j : Nat) h, j < i → p.homes[j]? = some h → findW l h key = none) (fun i => p.homes.length - i) 0 sb ⟨Nat.zero_le _, .refl _, fun j h hj => absurd hj (Nat.not_lt_zero _)⟩ ?_
  rintro i w1 ⟨hi, hu, hno⟩ next
  by_cases hlt : i < p.homes.length
  rotate_left
  · have hf : thereM l p key = false := by
      unfold thereM
      rw [List.any_eq_false]
      intro h hh
      obtain ⟨j, hj⟩ := List.getElem?_of_mem hh
      rw [hno j h (by have := (List.getElem?_eq_some_iff.1 hj).1; omega) hj]
      simp
    rw [hf]
    repeat (first | refine RL.vv ?_ | refine RL.p ?_ | refine RL.nil ?_ | refine Sim.seq ?_ | refine Sim.region ?_ | refine Sim.block ?_ | refine Sim.skip ?_ | refine Sim.inBlock ?_ | refine Sim.exit rfl ?_ | refine Sim.condT rfl ?_ | refine Sim.condF rfl ?_)
    exact Sim.ret1 Try.func73 rfl rfl ⟨rfl, hu⟩
  have hx : p.homes[i]? = some p.homes[i] := List.getElem?_eq_getElem hlt
  obtain ⟨b, o, cs, rfl, _, hat, rfl, _⟩ := hh.at hx
  have hat : At w b (o + i * 3) _ := hat
  have hmem := List.mem_of_getElem? hx
  obtain ⟨h0, s, hs⟩ := hok _ hmem
  generalize p.homes[i] = h at *
  have hfw := findW_at (o := h) (k := key) hs
  obtain ⟨n, hn⟩ := Int.eq_ofNat_of_zero_le h0
  rw [hn, Int.toNat_natCast] at hs
  rw [hn] at hat
  obtain ⟨vb, vo, cs, rfl, _, hvat, ⟨v1, v2, v3, rfl, _, _, hxs⟩, _⟩ := hl.at hs
  have hvat : At w vb (vo + n * 3) _ := hvat
  have hnl := (List.getElem?_eq_some_iff.1 hs).1
  repeat (first | refine RL.vv ?_ | refine RL.p ?_ | refine RL.nil ?_ | refine Sim.seq ?_ | refine Sim.region ?_ | refine Sim.block ?_ | refine Sim.skip ?_ | refine Sim.inBlock ?_ | refine Sim.exit rfl ?_ | refine Sim.condT rfl ?_ | refine Sim.condF rfl ?_)
  refine RL.al hu fun b8 w2 he8 hle8 hu2 h12 hb8 => ?_
  refine RL.st hu2 hb8 hle8 fun w3 hu hbt hb8 => ?_
  have hb8 : Box w3 b8 _ [.int .i64 (n : Int), .string h.type, .string h.field] := hb8
  clear hbt h12 hu2
  repeat (first | refine RL.vv ?_ | refine RL.p ?_ | refine RL.nil ?_ | refine Sim.seq ?_ | refine Sim.region ?_ | refine Sim.block ?_ | refine Sim.skip ?_ | refine Sim.inBlock ?_ | refine Sim.exit rfl ?_ | refine Sim.condT rfl ?_ | refine Sim.condF rfl ?_)
  by_cases hk : thingAt s.things h.type key < 0
  · have e : thingAt s.things h.type key = -1 := thingAt_neg' hk
    refine Sim.q ?_
    repeat (first | refine RQ.vv ?_ | refine RQ.p ?_)
    refine RQ.cu (fun wq hq => q_same (c_val (RThing_any h.type key wq (hxs.up (hu.trans hq))) (by rw [e, ptrAt_neg])) hq) ?_
    repeat (first | refine RQ.vv ?_ | refine RQ.p ?_)
    refine RQ.nil fun w4 h34 => ?_
    repeat (first | refine RL.vv ?_ | refine RL.p ?_ | refine RL.nil ?_ | refine Sim.seq ?_ | refine Sim.region ?_ | refine Sim.block ?_ | refine Sim.skip ?_ | refine Sim.inBlock ?_ | refine Sim.exit rfl ?_ | refine Sim.condT rfl ?_ | refine Sim.condF rfl ?_)
    refine next (i + 1) _ _ ⟨by omega, hu.trans h34, fun j h' hj hj' => ?_⟩ (by omega) sb
    by_cases hji : j = i
    · subst hji
      rw [hx] at hj'
      cases hj'
      rw [hfw]
      exact thingM_no hk
    · exact hno j h' (by omega) hj'
  · obtain ⟨j, x, hj, hxj⟩ := thingAt_get hk
    obtain ⟨xa, xc, rfl, _⟩ := id hxs
    obtain ⟨tb, to, cs, he, _⟩ := hxs.at hxj
    subst he
    have ht : thereM l p key = true := by
      unfold thereM
      rw [List.any_eq_true]
      refine ⟨h, hmem, ?_⟩
      rw [hfw, thingM_some hj hxj]
      rfl
    rw [ht]
    refine Sim.q ?_
    repeat (first | refine RQ.vv ?_ | refine RQ.p ?_)
    refine RQ.cu (fun wq hq => q_same (c_val (RThing_any h.type key wq (hxs.up (hu.trans hq))) (by rw [hj, ptrAt_nat])) hq) ?_
    repeat (first | refine RQ.vv ?_ | refine RQ.p ?_)
    refine RQ.nil fun w4 h34 => ?_
    repeat (first | refine RL.vv ?_ | refine RL.p ?_ | refine RL.nil ?_ | refine Sim.seq ?_ | refine Sim.region ?_ | refine Sim.block ?_ | refine Sim.skip ?_ | refine Sim.inBlock ?_ | refine Sim.exit rfl ?_ | refine Sim.condT rfl ?_ | refine Sim.condF rfl ?_)
    exact Sim.ret1 Try.func73 rfl rfl ⟨rfl, hu.trans h34⟩
end Go.Proofs.Ytgckpmcdlciibac
