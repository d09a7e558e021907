/- Several texts in one: Contracts of chapter 6: what a pick gets of a thing. Contracts of chapter 6: what picks get of a thing; what is meant. Contracts of chapter 6: what is got, compared with the same. -/
import Derived.Test.YtgckpmcdlciibacZW
import Derived.Test.YtgckpmcdlciibacZV
import Derived.Test.YtgckpmcdlciibacZK
import Derived.Test.YtgckpmcdlciibacZS
import Derived.Test.YtgckpmcdlciibacZE
namespace Go.Proofs.Ytgckpmcdlciibac
open Go.RowKit
/-- all that a thing's picks are looked up in -/
structure InW (S S2 : Nat → Prop) (wb pb po : Nat) (lv pv fv ov hv : Value) (l : List Svc) (ps : List Prt) (p : Prt) (w : World) : Prop where
  ok : WholeOk l ps
  mem : p ∈ ps
  whole : At w wb 0 [lv, pv]
  svcs : SliceOf svcLay S w lv l
  parts : SliceOf prtLay S2 w pv ps
  part : At w pb po [.string p.type.name, fv, ov, hv]
  fields : SliceOf fldLay S2 w fv p.type.fields
  owners : SliceOf ownLay S2 w ov p.owners
  homes : SliceOf ownLay S2 w hv p.homes
theorem InW.up {S S2 : Nat → Prop} {wb pb po : Nat} {lv pv fv ov hv : Value} {l : List Svc} {ps : List Prt} {p : Prt} {w w' : World} (h : InW S S2 wb pb po lv pv fv ov hv l ps p w) (hu : Up w w') : InW S S2 wb pb po lv pv fv ov hv l ps p w' :=
  ⟨h.ok, h.mem, h.whole.up hu, h.svcs.up hu, h.parts.up hu, h.part.up hu, h.fields.up hu, h.owners.up hu, h.homes.up hu⟩
/-- the same, of another type of the whole -/
theorem InW.to {S S2 : Nat → Prop} {wb pb po pa : Nat} {pn pc : Nat} {pb' : Nat} {lv fv ov hv : Value} {l : List Svc} {ps : List Prt} {p t : Prt} {w : World} {k : Nat} (h : InW S S2 wb pb po lv (.slice (some ⟨pb', pa, none⟩) pn pc) fv ov hv l ps p w) (ht : ps[k]? = some t) : ∃ fv' ov' hv', InW S S2 wb pb' (pa + k * 4) lv (.slice (some ⟨pb', pa, none⟩) pn pc) fv' ov' hv' l ps t w := by
  obtain ⟨b, o, cs, he, _, hat, ⟨fv', ov', hv', rfl, h1, h2, h3⟩, _⟩ := h.parts.at ht
  simp only [Option.some.injEq, Addr.mk.injEq, and_true] at he
  obtain ⟨rfl, rfl⟩ := he
  exact ⟨fv', ov', hv', h.ok, List.mem_of_getElem? ht, h.whole, h.svcs, h.parts, hat, h1, h2, h3⟩
theorem pickS_def (S : Sem) (q : Pck) (n k : Str) : pickS S q n k = match S.fld n q.field with
    | none => default
    | some f => match S.val n q.field k with
      | none => .mk (calledM q) f.kind true ⟨#[]⟩ [] []
      | some v => if f.kind = 1 then .mk (calledM q) f.kind false v.text [] []
        else if f.kind = 2 then oneOf (calledM q) ((v.keys.filter (S.there f.type)).map fun x => thingS S q.picks f.type x)
        else .mk (calledM q) f.kind false ⟨#[]⟩ [] ((v.keys.filter (S.there f.type)).map fun x => thingS S q.picks f.type x) := by
  obtain ⟨a, fd, ps⟩ := q
  simp only [pickS, Pck.field, Pck.picks, calledM, Pck.as]
  rfl
theorem filter_snoc {α : Type} {l : List α} {i : Nat} {x : α} {g : α → Bool} (hx : l[i]? = some x) : (l.take (i + 1)).filter g = (l.take i).filter g ++ if g x then [x] else [] := by
  obtain ⟨hlt, rfl⟩ := List.getElem?_eq_some_iff.1 hx
  rw [List.take_succ_eq_append_getElem hlt, List.filter_append]
  cases h : g l[i] <;> simp [h]
theorem SliceOf.cell {α : Type} {L : Lay α} {S : Nat → Prop} {w : World} {v : Value} {xs : List α} (h : SliceOf L S w v xs) : v.oneCell' = true := by
  obtain ⟨a, c, rfl, _⟩ := h
  rfl
end Go.Proofs.Ytgckpmcdlciibac

namespace Go.Proofs.Ytgckpmcdlciibac
open Go.RowKit
theorem goes_pick {l : List Svc} {ps : List Prt} {m : Nat} {p : Prt} {picks : List Pck} (hw : WholeOk l ps) (hp : p ∈ ps) (hg : goesM (m + 1) ps p.type.name picks = 0) {i : Nat} {q : Pck} (hq : picks[i]? = some q) :
    ∃ (j : Nat) (f : Fld), fieldF p.type.fields q.field = (j : Int) ∧ p.type.fields[j]? = some f ∧ (f.kind = 1 ↔ q.picks = []) ∧ (q.picks ≠ [] → goesM m ps f.type q.picks = 0) := by
  obtain ⟨k, t, hk, ht, hn, heach⟩ := goes_ok hg
  have htp : t = p := by
    have h1 := partM_mem hw hp
    unfold partM at h1
    rw [hk, if_neg (by omega), Int.toNat_natCast, ht] at h1
    exact Option.some.inj h1
  subst htp
  obtain ⟨⟨j, f, h1, h2, _, h3, h4⟩, _⟩ := heach i q hq
  exact ⟨j, f, h1, h2, h3, h4⟩
end Go.Proofs.Ytgckpmcdlciibac

namespace Go.Proofs.Ytgckpmcdlciibac
open Go.RowKit
def SameGotC (m : Nat) : Prop := ∀ {S S' : Nat → Prop} {va vb : Value} {l : List Gt} (w : World), SliceOf (gtLay m) S w va l → SliceOf (gtLay m) S' w vb l → Calls Try.prog 17 #[va, vb] w fun en w' => en = .returned (.bool true) ∧ Up w w'
set_option maxHeartbeats 4000000 in
theorem SameGot_gen {m : Nat} (H : ∀ n, m = n + 1 → SameGotC n) : SameGotC m := by
  intro S S' va vb l w hl hl'
  refine calls_of_sim Try.func17 rfl (Nat.le_of_ble_eq_true rfl) ?_
  obtain ⟨aa, ac, rfl, hnc, hcm, _⟩ := id hl
  obtain ⟨aa', ac', rfl, hnc', hcm', _⟩ := id hl'
  unfold maxLen at hcm hcm'
  have hll : (l.length : Int) = (l.length : Int) := rfl
  repeat (first | refine RL.vv ?_ | refine RL.p ?_ | refine RL.nil ?_ | refine Sim.seq ?_ | refine Sim.region ?_ | refine Sim.block ?_ | refine Sim.skip ?_ | refine Sim.inBlock ?_ | refine Sim.exit rfl ?_ | refine Sim.condT rfl ?_ | refine Sim.condF rfl ?_)
  refine Sim.loop (σ := Nat) (fun i => [(0, .slice aa l.length ac), (1, .slice aa' l.length ac'), (15, .int .i64 (l.length : Int)), (16, .int .i64 (i : Int))]) (fun i w' => i ≤ l.length ∧ Up w w') (fun i => l.length - i) 0 sb ⟨Nat.zero_le _, .refl _⟩ ?_
  rintro i w1 ⟨hi, hu⟩ next0
  by_cases hlt : i < l.length
  rotate_left
  · repeat (first | refine RL.vv ?_ | refine RL.p ?_ | refine RL.nil ?_ | refine Sim.seq ?_ | refine Sim.region ?_ | refine Sim.block ?_ | refine Sim.skip ?_ | refine Sim.inBlock ?_ | refine Sim.exit rfl ?_ | refine Sim.condT rfl ?_ | refine Sim.condF rfl ?_)
    exact Sim.ret1 Try.func17 rfl rfl ⟨rfl, hu⟩
  have hx : l[i]? = some l[i] := List.getElem?_eq_getElem hlt
  cases m with
  | zero =>
    obtain ⟨_, _, _, _, _, _, h, _⟩ := hl.at hx
    exact h.elim
  | succ m =>
  obtain ⟨gb, go, cs, rfl, _, hgat, hgi, _⟩ := (hl.up hu).at hx
  obtain ⟨gb', go', cs', rfl, _, hgat', hgi', _⟩ := (hl'.up hu).at hx
  have hgat : At w1 gb (go + i * 6) _ := hgat
  have hgat' : At w1 gb' (go' + i * 6) _ := hgat'
  generalize l[i] = g at *
  obtain ⟨v1, v2, rfl, hv1, hv2⟩ := gt_succ.1 hgi
  obtain ⟨v1', v2', rfl, hv1', hv2'⟩ := gt_succ.1 hgi'
  obtain ⟨a1, c1, rfl, _⟩ := id hv1
  obtain ⟨a2, c2, rfl, hn2, hm2, _⟩ := id hv2
  obtain ⟨a1', c1', rfl, _⟩ := id hv1'
  obtain ⟨a2', c2', rfl, hn2', hm2', _⟩ := id hv2'
  unfold maxLen at hm2 hm2'
  repeat (first | refine RL.vv ?_ | refine RL.p ?_ | refine RL.nil ?_ | refine Sim.seq ?_ | refine Sim.region ?_ | refine Sim.block ?_ | refine Sim.skip ?_ | refine Sim.inBlock ?_ | refine Sim.exit rfl ?_ | refine Sim.condT rfl ?_ | refine Sim.condF rfl ?_)
  refine Sim.cutX (σ := Nat × Nat) (fun st => [(0, .slice (some ⟨gb, go, none⟩) l.length ac), (1, .slice (some ⟨gb', go', none⟩) l.length ac'), (15, .int .i64 (l.length : Int)), (16, .int .i64 (i : Int)), (5, .int .i64 (i : Int)), (6, .pointer (some ⟨st.1, 0, none⟩)), (7, .pointer (some ⟨st.2, 0, none⟩))])
    (fun st w' => Up w1 w' ∧ At w' st.1 0 [.string g.name, .int .i64 g.kind, .bool g.null, .string g.text, .slice a1 g.sub.length c1, .slice a2 g.subs.length c2] ∧ At w' st.2 0 [.string g.name, .int .i64 g.kind, .bool g.null, .string g.text, .slice a1' g.sub.length c1', .slice a2' g.subs.length c2']) (fun k' next => ?_) ?_
  · refine Sim.ord (Up w1) ?_
    refine RO.tk 0 ?_
    refine RO.tk 1 ?_
    refine RO.tk 2 ?_
    refine RO.tk 3 ?_
    refine RO.tk 4 ?_
    refine RO.tk 5 ?_
    refine RO.tk 6 ?_
    refine RO.tk 7 ?_
    have h0 := Up.drew w1
    refine RO.two 8 9 ?_ ?_
    · refine RL.al h0 fun b6 w4 _ h6 h0 _ hb6 => ?_
      refine RL.ord h0 ?_
      refine RO.one 9 ?_
      refine RL.al h0 fun b7 w5 _ h7 h0 h hb7 => ?_
      have h67 : b6 ≠ b7 := by have := hb6.lt; omega
      have hb6 := hb6.up h
      refine RL.ord h0 ?_
      refine RO.one 10 ?_
      refine RL.st h0 hb6 h6 fun w6 h0 hbt hb6 => ?_
      have hb6 : Box w6 b6 _ [.string g.name, .int .i64 g.kind, .bool g.null, .string g.text, .slice a1 g.sub.length c1, .slice a2 g.subs.length c2] := hb6
      have hb7 := hb7.but hbt (Ne.symm h67)
      refine RL.ord h0 ?_
      refine RO.one 11 ?_
      refine RL.st h0 hb7 h7 fun w7 h0 hbt hb7 => ?_
      have hb7 : Box w7 b7 _ [.string g.name, .int .i64 g.kind, .bool g.null, .string g.text, .slice a1' g.sub.length c1', .slice a2' g.subs.length c2'] := hb7
      have ha6 := (hb6.but hbt h67).at
      have ha7 := hb7.at
      refine RL.ord h0 ?_
      refine RO.done (RL.nil ?_)
      exact next (b6, b7) _ _ ⟨h0, ha6, ha7⟩ sb
    · refine RL.al h0 fun b7 w4 _ h7 h0 _ hb7 => ?_
      refine RL.ord h0 ?_
      refine RO.one 8 ?_
      refine RL.al h0 fun b6 w5 _ h6 h0 h hb6 => ?_
      have h67 : b6 ≠ b7 := by have := hb7.lt; omega
      have hb7 := hb7.up h
      refine RL.ord h0 ?_
      refine RO.one 10 ?_
      refine RL.st h0 hb6 h6 fun w6 h0 hbt hb6 => ?_
      have hb6 : Box w6 b6 _ [.string g.name, .int .i64 g.kind, .bool g.null, .string g.text, .slice a1 g.sub.length c1, .slice a2 g.subs.length c2] := hb6
      have hb7 := hb7.but hbt (Ne.symm h67)
      refine RL.ord h0 ?_
      refine RO.one 11 ?_
      refine RL.st h0 hb7 h7 fun w7 h0 hbt hb7 => ?_
      have hb7 : Box w7 b7 _ [.string g.name, .int .i64 g.kind, .bool g.null, .string g.text, .slice a1' g.sub.length c1', .slice a2' g.subs.length c2'] := hb7
      have ha6 := (hb6.but hbt h67).at
      have ha7 := hb7.at
      refine RL.ord h0 ?_
      refine RO.done (RL.nil ?_)
      exact next (b6, b7) _ _ ⟨h0, ha6, ha7⟩ sb
  rintro ⟨b6, b7⟩ w2 ⟨h12, ha6, ha7⟩
  simp only at ha6 ha7 ⊢
  have hu2 := hu.trans h12
  have e1 : g.name = g.name := rfl
  have e2 : g.text = g.text := rfl
  have e3 : g.kind = g.kind := rfl
  have e4 : (g.subs.length : Int) = (g.subs.length : Int) := rfl
  repeat (first | refine RL.vv ?_ | refine RL.p ?_ | refine RL.nil ?_ | refine Sim.seq ?_ | refine Sim.region ?_ | refine Sim.block ?_ | refine Sim.skip ?_ | refine Sim.inBlock ?_ | refine Sim.exit rfl ?_ | refine Sim.condT rfl ?_ | refine Sim.condF rfl ?_)
  refine RL.cu hu2 (H m rfl w2 (hv1.up h12) (hv1'.up h12)) fun w3 hu3 h23 => ?_
  have ha6 := ha6.up h23
  have ha7 := ha7.up h23
  have hv2 := (hv2.up h12).up h23
  have hv2' := (hv2'.up h12).up h23
  clear h12 h23 hu2 hgat hgat'
  repeat (first | refine RL.vv ?_ | refine RL.p ?_ | refine RL.nil ?_ | refine Sim.seq ?_ | refine Sim.region ?_ | refine Sim.block ?_ | refine Sim.skip ?_ | refine Sim.inBlock ?_ | refine Sim.exit rfl ?_ | refine Sim.condT rfl ?_ | refine Sim.condF rfl ?_)
  refine Sim.loop (σ := Nat) (fun k => [(0, .slice (some ⟨gb, go, none⟩) l.length ac), (1, .slice (some ⟨gb', go', none⟩) l.length ac'), (15, .int .i64 (l.length : Int)), (16, .int .i64 (i : Int)), (6, .pointer (some ⟨b6, 0, none⟩)), (7, .pointer (some ⟨b7, 0, none⟩)), (72, .int .i64 (g.subs.length : Int)), (73, .int .i64 (k : Int))]) (fun k w' => k ≤ g.subs.length ∧ Up w3 w') (fun k => g.subs.length - k) 0 sb ⟨Nat.zero_le _, .refl _⟩ ?_
  rintro k w4 ⟨hk, h34⟩ next
  by_cases hkl : k < g.subs.length
  rotate_left
  · repeat (first | refine RL.vv ?_ | refine RL.p ?_ | refine RL.nil ?_ | refine Sim.seq ?_ | refine Sim.region ?_ | refine Sim.block ?_ | refine Sim.skip ?_ | refine Sim.inBlock ?_ | refine Sim.exit rfl ?_ | refine Sim.condT rfl ?_ | refine Sim.condF rfl ?_)
    exact next0 (i + 1) _ _ ⟨by omega, hu3.trans h34⟩ (by omega) sb
  have hy : g.subs[k]? = some g.subs[k] := List.getElem?_eq_getElem hkl
  obtain ⟨ub, uo, cs, rfl, _, hsat, ⟨sv, rfl, hsv⟩, _⟩ := (hv2.up h34).at hy
  obtain ⟨ub', uo', cs, rfl, _, hsat', ⟨sv', rfl, hsv'⟩, _⟩ := (hv2'.up h34).at hy
  have hsat : At w4 ub (uo + k * 1) _ := hsat
  have hsat' : At w4 ub' (uo' + k * 1) _ := hsat'
  have ha6 := ha6.up h34
  have ha7 := ha7.up h34
  generalize g.subs[k] = s at *
  obtain ⟨x1, y1, rfl, _⟩ := id hsv
  obtain ⟨x2, y2, rfl, _⟩ := id hsv'
  repeat (first | refine RL.vv ?_ | refine RL.p ?_ | refine RL.nil ?_ | refine Sim.seq ?_ | refine Sim.region ?_ | refine Sim.block ?_ | refine Sim.skip ?_ | refine Sim.inBlock ?_ | refine Sim.exit rfl ?_ | refine Sim.condT rfl ?_ | refine Sim.condF rfl ?_)
  refine Sim.q ?_
  repeat (first | refine RQ.vv ?_ | refine RQ.p ?_)
  refine RQ.cu (fun wq hq => q_call (H m rfl wq (hsv.up hq) (hsv'.up hq)) hq) ?_
  repeat (first | refine RQ.vv ?_ | refine RQ.p ?_)
  refine RQ.nil fun w5 h45 => ?_
  repeat (first | refine RL.vv ?_ | refine RL.p ?_ | refine RL.nil ?_ | refine Sim.seq ?_ | refine Sim.region ?_ | refine Sim.block ?_ | refine Sim.skip ?_ | refine Sim.inBlock ?_ | refine Sim.exit rfl ?_ | refine Sim.condT rfl ?_ | refine Sim.condF rfl ?_)
  exact next (k + 1) _ _ ⟨by omega, h34.trans h45⟩ (by omega) sb
theorem SameGot_any : ∀ m, SameGotC m
  | 0 => SameGot_gen fun n h => by cases h
  | m + 1 => SameGot_gen fun n h => by cases h; exact SameGot_any m
end Go.Proofs.Ytgckpmcdlciibac
