/- The walk of GateOthers. -/
import Derived.Test.YtgckpmcdlciibacYL32
import Derived.Test.YtgckpmcdlciibacZX
import Derived.Test.YtgckpmcdlciibacYC67
import Derived.Test.YtgckpmcdlciibacYP20
import Derived.Test.YtgckpmcdlciibacYRev
namespace Go.Proofs.Ytgckpmcdlciibac
open Go.RowKit
def askedB (rs : List Rq) (k : Int) : Bool := rs.any fun r => decide (r.service = k)
theorem askedB_snoc (rs : List Rq) (r : Rq) (k : Int) : askedB (rs ++ [r]) k = (askedB rs k || decide (r.service = k)) := by simp [askedB]
theorem run_other {m : Nat} {l : List Svc} {a : Ak} (h : (runM m l a).2.2 = 0) : runM m (othersL (askedB (runM m l a).2.1) 0 l) a = runM m l a ∧ l.length ≤ 5 := by
  obtain ⟨h1, h2⟩ := run_from h
  have h3 := wrongS_iff.1 (allM_canon h1).2.1
  refine ⟨runM_others h (others_types _ l 0) (fun s hs => ?_) fun r hr => ?_, h3.1⟩
  · obtain ⟨s', hs', h4 | h4⟩ := others_mem hs
    · rw [h4]; exact h3.2 s' hs'
    · rw [h4]; exact right_empty (h3.2 s' hs')
  · obtain ⟨i, _, _, _, h4, _⟩ := request_of h1 (h2 r hr)
    exact others_same (List.any_eq_true.2 ⟨r, hr, decide_eq_true rfl⟩) (by omega)
theorem ok_empty {s : Svc} (h : okSvc s) : okSvc (emptyS s) := ⟨h.1, h.2.1, by simp [emptyS], fun y hy => by cases hy⟩
set_option maxHeartbeats 4000000 in
theorem GateOthers_walk {m : Nat} {S S3 : Nat → Prop} {lv kv : Value} {l : List Svc} (q : Ak) (w : World) (hl : SliceOf svcLay S w lv l) (hok : ∀ s ∈ l, okSvc s) (hps : SliceOf (pckLay (m + 1)) S3 w kv q.picks) :
    Calls Try.prog 8 #[lv, .agg #[.string q.type, .string q.key, kv]] w fun en w' => en = .returned (.bool true) ∧ Up w w' := by
  refine calls_of_sim Try.func8 rfl (Nat.le_of_ble_eq_true rfl) ?_
  obtain ⟨la, lc, rfl, hlnc, hlcm, _⟩ := id hl
  obtain ⟨ka, kc, rfl, _⟩ := id hps
  unfold maxLen at hlcm
  repeat (first | refine RL.vv ?_ | refine RL.p ?_ | refine RL.nil ?_ | refine Sim.seq ?_ | refine Sim.region ?_ | refine Sim.block ?_ | refine Sim.skip ?_ | refine Sim.inBlock ?_ | refine Sim.exit rfl ?_ | refine Sim.condT rfl ?_ | refine Sim.condF rfl ?_)
  refine RL.bx (.refl w) fun b3 w1 he3 hle3 hu1 _ hb3 => ?_
  have hb3 : Box w1 b3 _ [.string q.type, .string q.key, .slice ka q.picks.length kc] := hb3
  repeat (first | refine RL.vv ?_ | refine RL.p ?_ | refine RL.nil ?_ | refine Sim.seq ?_ | refine Sim.region ?_ | refine Sim.block ?_ | refine Sim.skip ?_ | refine Sim.inBlock ?_ | refine Sim.exit rfl ?_ | refine Sim.condT rfl ?_ | refine Sim.condF rfl ?_)
  refine RL.cu hu1 (alive7_any w1) fun w2 hu h12 => ?_
  have hb3 := hb3.up h12
  have ha3 := hb3.at
  clear h12 hu1
  repeat (first | refine RL.vv ?_ | refine RL.p ?_ | refine RL.nil ?_ | refine Sim.seq ?_ | refine Sim.region ?_ | refine Sim.block ?_ | refine Sim.skip ?_ | refine Sim.inBlock ?_ | refine Sim.exit rfl ?_ | refine Sim.condT rfl ?_ | refine Sim.condF rfl ?_)
  refine RL.cx (Run_any q w2 (hl.up hu) hok (hps.up hu)) ?_
  rintro _ w3 ⟨v, rv, rfl, h23, hs, hr⟩
  refine ⟨_, rfl, ?_⟩
  have hu3 := hu.trans h23
  obtain ⟨va, vc, rfl, _⟩ := id hs
  obtain ⟨ra, rc, rfl, hrnc, hrcm, _⟩ := id hr
  unfold maxLen at hrcm
  have hb3 := hb3.up h23
  have hoth := run_other (m := m + 1) (l := l) (a := q)
  clear ha3
  by_cases h0 : (runM (m + 1) l q).2.2 = 0
  rotate_left
  · repeat (first | refine RL.vv ?_ | refine RL.p ?_ | refine RL.nil ?_ | refine Sim.seq ?_ | refine Sim.region ?_ | refine Sim.block ?_ | refine Sim.skip ?_ | refine Sim.inBlock ?_ | refine Sim.exit rfl ?_ | refine Sim.condT rfl ?_ | refine Sim.condF rfl ?_)
    exact Sim.ret1 Try.func8 rfl rfl ⟨rfl, hu3⟩
  obtain ⟨hoth, hl5⟩ := hoth h0
  generalize runM (m + 1) l q = R at *
  repeat (first | refine RL.vv ?_ | refine RL.p ?_ | refine RL.nil ?_ | refine Sim.seq ?_ | refine Sim.region ?_ | refine Sim.block ?_ | refine Sim.skip ?_ | refine Sim.inBlock ?_ | refine Sim.exit rfl ?_ | refine Sim.condT rfl ?_ | refine Sim.condF rfl ?_)
  refine RL.mmap (κ := Int) (.refl w3) fun b8 w4 he8 _ h34 _ hm0 => ?_
  repeat (first | refine RL.vv ?_ | refine RL.p ?_ | refine RL.nil ?_ | refine Sim.seq ?_ | refine Sim.region ?_ | refine Sim.block ?_ | refine Sim.skip ?_ | refine Sim.inBlock ?_ | refine Sim.exit rfl ?_ | refine Sim.condT rfl ?_ | refine Sim.condF rfl ?_)
  refine Sim.loop (σ := Nat × List (Int × Value)) (fun st => [(0, .slice la l.length lc), (3, .pointer (some ⟨b3, 0, none⟩)), (5, .slice va R.1.length vc), (6, .slice ra R.2.1.length rc), (8, .map (some b8)), (28, .slice ra R.2.1.length rc), (29, .int .i64 (R.2.1.length : Int)), (30, .int .i64 (st.1 : Int))])
    (fun st w' => st.1 ≤ R.2.1.length ∧ Up w3 w' ∧ MapAt w' b8 st.2 ∧ ∀ k : Int, mget st.2 k = if askedB (R.2.1.take st.1) k = true then some (.bool true) else none) (fun st => R.2.1.length - st.1) (0, []) sb ⟨Nat.zero_le _, h34, hm0, fun k => rfl⟩ ?_
  clear hm0 h34
  rintro ⟨i, es⟩ w5 ⟨hi, h35, hm, hget⟩ next
  simp only at hi hm hget next ⊢
  by_cases hlt : i < R.2.1.length
  · have hx : R.2.1[i]? = some R.2.1[i] := List.getElem?_eq_getElem hlt
    obtain ⟨rb, ro, cs, rfl, _, hrat, ⟨v1, v2, rfl, hv1, hv2⟩, _⟩ := (hr.up h35).at hx
    have hrat : At w5 rb (ro + i * 4) _ := hrat
    have htk := List.take_succ_eq_append_getElem hlt
    generalize R.2.1[i] = r at *
    obtain ⟨a1, c1, rfl, _⟩ := id hv1
    obtain ⟨a2, c2, rfl, _⟩ := id hv2
    repeat (first | refine RL.vv ?_ | refine RL.p ?_ | refine RL.nil ?_ | refine Sim.seq ?_ | refine Sim.region ?_ | refine Sim.block ?_ | refine Sim.skip ?_ | refine Sim.inBlock ?_ | refine Sim.exit rfl ?_ | refine Sim.condT rfl ?_ | refine Sim.condF rfl ?_)
    refine RL.al h35 fun b10 w6 he10 hle10 h36 h56 hb10 => ?_
    repeat (first | refine RL.vv ?_ | refine RL.p ?_ | refine RL.nil ?_ | refine Sim.seq ?_ | refine Sim.region ?_ | refine Sim.block ?_ | refine Sim.skip ?_ | refine Sim.inBlock ?_ | refine Sim.exit rfl ?_ | refine Sim.condT rfl ?_ | refine Sim.condF rfl ?_)
    refine RL.st h36 hb10 hle10 fun w7 h37 hbt hb10 => ?_
    have hb10 : Box w7 b10 _ [.int .i64 r.service, .string r.type, .slice a1 r.keys.length c1, .slice a2 r.fields.length c2] := hb10
    have h57 : Up w5 w7 := Up.but h56 hbt (Nat.le_of_eq he10.symm)
    have ha10 := hb10.at
    clear hrat
    repeat (first | refine RL.vv ?_ | refine RL.p ?_ | refine RL.nil ?_ | refine Sim.seq ?_ | refine Sim.region ?_ | refine Sim.block ?_ | refine Sim.skip ?_ | refine Sim.inBlock ?_ | refine Sim.exit rfl ?_ | refine Sim.condT rfl ?_ | refine Sim.condF rfl ?_)
    refine RL.mset (el := 4) (k := r.service) (v := .bool true) Try.underlying3 h37 (hm.up h57) (by omega) fun w8 h38 _ hm8 => ?_
    repeat (first | refine RL.vv ?_ | refine RL.p ?_ | refine RL.nil ?_ | refine Sim.seq ?_ | refine Sim.region ?_ | refine Sim.block ?_ | refine Sim.skip ?_ | refine Sim.inBlock ?_ | refine Sim.exit rfl ?_ | refine Sim.condT rfl ?_ | refine Sim.condF rfl ?_)
    refine next (i + 1, mput es r.service (.bool true)) _ _ ⟨by first | omega | (simp only; omega), h38, hm8, fun k => ?_⟩ (by first | omega | (simp only; omega)) sb
    simp only
    rw [mget_mput, hget, htk, askedB_snoc]
    by_cases hk : r.service = k
    · simp [hk]
    · simp [hk]
  have : i = R.2.1.length := by omega
  subst this
  rw [List.take_length] at hget
  clear next
  have hu5 := hu3.trans h35
  have hb3 := hb3.up h35
  have hlw := hl.up hu5
  generalize hask : askedB R.2.1 = ask at *
  have hol := others_len ask l 0
  repeat (first | refine RL.vv ?_ | refine RL.p ?_ | refine RL.nil ?_ | refine Sim.seq ?_ | refine Sim.region ?_ | refine Sim.block ?_ | refine Sim.skip ?_ | refine Sim.inBlock ?_ | refine Sim.exit rfl ?_ | refine Sim.condT rfl ?_ | refine Sim.condF rfl ?_)
  refine Sim.loop (σ := Nat × Value) (fun st => [(3, .pointer (some ⟨b3, 0, none⟩)), (5, .slice va R.1.length vc), (6, .slice ra R.2.1.length rc), (8, .map (some b8)), (38, .slice la l.length lc), (39, .int .i64 (l.length : Int)), (40, .int .i64 (st.1 : Int)), (11, st.2)])
    (fun st w' => st.1 ≤ l.length ∧ Up w5 w' ∧ Own svcLay 31 w5.heap.size (fun b => b < w5.heap.size ∨ w5.heap.size ≤ b) w' st.2 ((othersL ask 0 l).take st.1)) (fun st => l.length - st.1) (0, .slice none 0 0) sb ⟨Nat.zero_le _, .refl _, Own.nil _ _ _ _ _⟩ ?_
  rintro ⟨i, nv⟩ w6 ⟨hi, h56, ho⟩ next
  simp only at hi ho next ⊢
  by_cases hlt : i < l.length
  · have hx : l[i]? = some l[i] := List.getElem?_eq_getElem hlt
    obtain ⟨svb, so, cs, rfl, _, hat, ⟨v1, v2, v3, rfl, hv1, hv2, hv3⟩, _⟩ := hlw.at hx
    have hat : At w5 svb (so + i * 3) _ := hat
    have hat := hat.up h56
    have hog := others_get ask l 0 i
    rw [hx, Nat.zero_add] at hog
    simp only [Option.map_some] at hog
    have hmi := (hm.up h56)
    have hgi := hget (i : Int)
    generalize l[i] = s at *
    generalize hs2 : (if ask (i : Int) = true then s else emptyS s) = s2 at *
    have htk : (othersL ask 0 l).take (i + 1) = (othersL ask 0 l).take i ++ [s2] := by
      obtain ⟨h1, h2⟩ := List.getElem?_eq_some_iff.1 hog
      rw [List.take_succ_eq_append_getElem h1, h2]
    obtain ⟨a1, c1, rfl, _⟩ := id hv1
    obtain ⟨a2, c2, rfl, _⟩ := id hv2
    obtain ⟨a3, c3, rfl, _⟩ := id hv3
    repeat (first | refine RL.vv ?_ | refine RL.p ?_ | refine RL.nil ?_ | refine Sim.seq ?_ | refine Sim.region ?_ | refine Sim.block ?_ | refine Sim.skip ?_ | refine Sim.inBlock ?_ | refine Sim.exit rfl ?_ | refine Sim.condT rfl ?_ | refine Sim.condF rfl ?_)
    refine RL.al h56 fun b13 w7 he13 hle13 h57 h67 hb13 => ?_
    repeat (first | refine RL.vv ?_ | refine RL.p ?_ | refine RL.nil ?_ | refine Sim.seq ?_ | refine Sim.region ?_ | refine Sim.block ?_ | refine Sim.skip ?_ | refine Sim.inBlock ?_ | refine Sim.exit rfl ?_ | refine Sim.condT rfl ?_ | refine Sim.condF rfl ?_)
    refine RL.st h57 hb13 hle13 fun w8 h58 hbt hb13 => ?_
    have hb13 : Box w8 b13 _ [.slice a1 s.types.length c1, .slice a2 s.changes.length c2, .slice a3 s.things.length c3] := hb13
    have h68 : Up w6 w8 := Up.but h67 hbt (Nat.le_of_eq he13.symm)
    clear hat hbt h57 h67
    repeat (first | refine RL.vv ?_ | refine RL.p ?_ | refine RL.nil ?_ | refine Sim.seq ?_ | refine Sim.region ?_ | refine Sim.block ?_ | refine Sim.skip ?_ | refine Sim.inBlock ?_ | refine Sim.exit rfl ?_ | refine Sim.condT rfl ?_ | refine Sim.condF rfl ?_)
    refine RL.vv ?_ (hy := y_lookupV (k := (i : Int)) (v := .bool (ask (i : Int))) Try.underlying3 (hmi.up h68) rfl rfl (by rw [hgi]; cases ask (i : Int) <;> rfl))
    cases ha : ask (i : Int) with
    | true =>
      rw [ha, if_pos rfl] at hs2
      subst hs2
      have ha13 := hb13.at
      repeat (first | refine RL.vv ?_ | refine RL.p ?_ | refine RL.nil ?_ | refine Sim.seq ?_ | refine Sim.region ?_ | refine Sim.block ?_ | refine Sim.skip ?_ | refine Sim.inBlock ?_ | refine Sim.exit rfl ?_ | refine Sim.condT rfl ?_ | refine Sim.condF rfl ?_)
      refine RL.bu (el := 31) [.slice a1 s.types.length c1, .slice a2 s.changes.length c2, .slice a3 s.things.length c3] h58 fun b52 w9 he52 _ h59 h89 hb52 => ?_
      have hs5 := h59.size
      have hs58 := h58.size
      refine RL.app (L := svcLay) (el := 31) (S := fun b => b < w5.heap.size ∨ w5.heap.size ≤ b) (B := w5.heap.size) (ys := [s]) h59 ((ho.up h68).up h89) (SliceOf.one hb52 ⟨by omega, (ho.up h68).ne (Nat.le_of_eq he52.symm)⟩ ⟨_, _, _, rfl, (hv1.old.up h59).mono fun k hk => ⟨.inl hk.2, ho.ne' hk.2⟩, (hv2.old.up h59).mono fun k hk => ⟨.inl hk.2, ho.ne' hk.2⟩, (hv3.old.up h59).mono fun k hk => ⟨.inl hk.2, ho.ne' hk.2⟩⟩) (by simp only [List.length_take, List.length_cons, List.length_nil]; omega) (Nat.le_refl _) (by omega) fun v2 w10 h10 ho2 hg hv => ?_
      repeat (first | refine RL.vv ?_ | refine RL.p ?_ | refine RL.nil ?_ | refine Sim.seq ?_ | refine Sim.region ?_ | refine Sim.block ?_ | refine Sim.skip ?_ | refine Sim.inBlock ?_ | refine Sim.exit rfl ?_ | refine Sim.condT rfl ?_ | refine Sim.condF rfl ?_)
      exact next (i + 1, v2) _ _ ⟨by first | omega | (simp only; omega), h10, by simp only; rw [htk]; exact ho2⟩ (by first | omega | (simp only; omega)) sb
    | false =>
      rw [ha] at hs2
      simp only [Bool.false_eq_true, if_false] at hs2
      subst hs2
      repeat (first | refine RL.vv ?_ | refine RL.p ?_ | refine RL.nil ?_ | refine Sim.seq ?_ | refine Sim.region ?_ | refine Sim.block ?_ | refine Sim.skip ?_ | refine Sim.inBlock ?_ | refine Sim.exit rfl ?_ | refine Sim.condT rfl ?_ | refine Sim.condF rfl ?_)
      refine RL.st h58 hb13 hle13 fun w8' h58' hbt hb13 => ?_
      have hb13 : Box w8' b13 _ [.slice a1 s.types.length c1, .slice a2 s.changes.length c2, .slice none 0 0] := hb13
      have h68' : Up w6 w8' := Up.but h68 hbt (Nat.le_of_eq he13.symm)
      have ha13 := hb13.at
      repeat (first | refine RL.vv ?_ | refine RL.p ?_ | refine RL.nil ?_ | refine Sim.seq ?_ | refine Sim.region ?_ | refine Sim.block ?_ | refine Sim.skip ?_ | refine Sim.inBlock ?_ | refine Sim.exit rfl ?_ | refine Sim.condT rfl ?_ | refine Sim.condF rfl ?_)
      refine RL.bu (el := 31) [.slice a1 s.types.length c1, .slice a2 s.changes.length c2, .slice none 0 0] h58' fun b52 w9 he52 _ h59 h89 hb52 => ?_
      have hs5 := h59.size
      have hs58 := h58'.size
      refine RL.app (L := svcLay) (el := 31) (S := fun b => b < w5.heap.size ∨ w5.heap.size ≤ b) (B := w5.heap.size) (ys := [emptyS s]) h59 ((ho.up h68').up h89) (SliceOf.one hb52 ⟨by omega, (ho.up h68').ne (Nat.le_of_eq he52.symm)⟩ ⟨_, _, _, rfl, (hv1.old.up h59).mono fun k hk => ⟨.inl hk.2, ho.ne' hk.2⟩, (hv2.old.up h59).mono fun k hk => ⟨.inl hk.2, ho.ne' hk.2⟩, SliceOf.nil _ _ _⟩) (by simp only [List.length_take, List.length_cons, List.length_nil]; omega) (Nat.le_refl _) (by omega) fun v2 w10 h10 ho2 hg hv => ?_
      repeat (first | refine RL.vv ?_ | refine RL.p ?_ | refine RL.nil ?_ | refine Sim.seq ?_ | refine Sim.region ?_ | refine Sim.block ?_ | refine Sim.skip ?_ | refine Sim.inBlock ?_ | refine Sim.exit rfl ?_ | refine Sim.condT rfl ?_ | refine Sim.condF rfl ?_)
      exact next (i + 1, v2) _ _ ⟨by first | omega | (simp only; omega), h10, by simp only; rw [htk]; exact ho2⟩ (by first | omega | (simp only; omega)) sb
  have : i = l.length := by omega
  subst this
  rw [← hol, List.take_length] at ho
  have hb := ho.sl (S' := fun _ => True) (fun _ _ _ _ => trivial) (fun _ _ => trivial)
  obtain ⟨ba, bc, rfl, _⟩ := id hb
  have hu6 := hu5.trans h56
  have h36 := h35.trans h56
  have ha3 := (hb3.up h56).at
  have hs := hs.up h36
  have hr := hr.up h36
  repeat (first | refine RL.vv ?_ | refine RL.p ?_ | refine RL.nil ?_ | refine Sim.seq ?_ | refine Sim.region ?_ | refine Sim.block ?_ | refine Sim.skip ?_ | refine Sim.inBlock ?_ | refine Sim.exit rfl ?_ | refine Sim.condT rfl ?_ | refine Sim.condF rfl ?_)
  refine RL.cx (Run_any q w6 hb (fun x hx => by
    obtain ⟨s, hs, h | h⟩ := others_mem hx
    · rw [h]; exact hok s hs
    · rw [h]; exact ok_empty (hok s hs)) (hps.up hu6)) ?_
  rw [hoth]
  rintro _ w7 ⟨v', rv', rfl, h67, hs', hr'⟩
  refine ⟨_, rfl, ?_⟩
  obtain ⟨va', vc', rfl, _⟩ := id hs'
  obtain ⟨ra', rc', rfl, _⟩ := id hr'
  have hs := hs.up h67
  have hr := hr.up h67
  clear ha3
  repeat (first | refine RL.vv ?_ | refine RL.p ?_ | refine RL.nil ?_ | refine Sim.seq ?_ | refine Sim.region ?_ | refine Sim.block ?_ | refine Sim.skip ?_ | refine Sim.inBlock ?_ | refine Sim.exit rfl ?_ | refine Sim.condT rfl ?_ | refine Sim.condF rfl ?_)
  refine RL.cu (hu6.trans h67) (SameGot_any (m + 2) w7 hs hs') fun w8 hu8 h78 => ?_
  repeat (first | refine RL.vv ?_ | refine RL.p ?_ | refine RL.nil ?_ | refine Sim.seq ?_ | refine Sim.region ?_ | refine Sim.block ?_ | refine Sim.skip ?_ | refine Sim.inBlock ?_ | refine Sim.exit rfl ?_ | refine Sim.condT rfl ?_ | refine Sim.condF rfl ?_)
  refine RL.cu hu8 (SameRequests_eq w8 (hr.up h78) (hr'.up h78)) fun w9 hu9 _ => ?_
  repeat (first | refine RL.vv ?_ | refine RL.p ?_ | refine RL.nil ?_ | refine Sim.seq ?_ | refine Sim.region ?_ | refine Sim.block ?_ | refine Sim.skip ?_ | refine Sim.inBlock ?_ | refine Sim.exit rfl ?_ | refine Sim.condT rfl ?_ | refine Sim.condF rfl ?_)
  exact Sim.ret1 Try.func8 rfl rfl ⟨rfl, hu9⟩
end Go.Proofs.Ytgckpmcdlciibac
