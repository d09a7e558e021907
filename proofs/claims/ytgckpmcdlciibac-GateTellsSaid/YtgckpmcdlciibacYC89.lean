/- The reference of chapter 6: what picks get of a thing. -/
import Derived.Test.YtgckpmcdlciibacYC88
namespace Go.Proofs.Ytgckpmcdlciibac
open Go.RowKit
def RGetC (m : Nat) : Prop := ∀ {S S2 S3 : Nat → Prop} {pb po : Nat} {lv pv fv ov hv kv : Value} {l : List Svc} {ps : List Prt} {p : Prt} {picks : List Pck} (key : Str) (w : World), RIn S S2 pb po lv pv fv ov hv l ps p w → SliceOf (pckLay m) S3 w kv picks → goesM m ps p.type.name picks = 0 → okSmall m picks →
  Calls Try.prog 74 #[lv, pv, .pointer (some ⟨pb, po, none⟩), .string key, kv] w fun en w' => ∃ v, en = .returned v ∧ Up w w' ∧ Own (gtLay (m + 1)) 77 w.heap.size (fun b => w.heap.size ≤ b) w' v (thingS (semOf l ps) picks p.type.name key)
def txL : List VVal → Str
  | [] => ⟨#[]⟩
  | v :: _ => v.text
theorem one_hit {α : Type} {g : α → Bool} {xs : List α} {v u : α} {a : Nat} (h : xs.filter g = [v]) (hu : xs[a]? = some u) (hg : g u = true) : (xs.take a).filter g = [] ∧ u = v := by
  obtain ⟨hlt, rfl⟩ := List.getElem?_eq_some_iff.1 hu
  have h1 : xs = xs.take a ++ xs[a] :: xs.drop (a + 1) := by rw [List.getElem_cons_drop, List.take_append_drop]
  have h2 : (xs.take a ++ xs[a] :: xs.drop (a + 1)).filter g = [v] := by rw [← h1]; exact h
  rw [List.filter_append, List.filter_cons, if_pos hg] at h2
  cases h3 : (xs.take a).filter g with
  | nil =>
    rw [h3] at h2
    simp only [List.nil_append, List.cons.injEq] at h2
    exact ⟨rfl, h2.1⟩
  | cons y ys =>
    rw [h3] at h2
    have := congrArg List.length h2
    simp at this
/-- all that some values lead to -/
def subsOf (S : Sem) (ty : Str) (ps : List Pck) (vs : List VVal) : List (List Gt) := vs.flatMap fun v => (v.keys.filter (S.there ty)).map fun x => thingS S ps ty x
theorem subsOf_one (S : Sem) (ty : Str) (ps : List Pck) (v : VVal) : subsOf S ty ps [v] = (v.keys.filter (S.there ty)).map fun x => thingS S ps ty x := by simp [subsOf]
set_option maxHeartbeats 8000000 in
theorem RGet_gen {m : Nat} (H : ∀ n, m = n + 1 → RGetC n) : RGetC m := by
  intro S S2 S3 pb po lv pv fv ov hv kv l ps p picks key w0 hI hkv hgo hsm
  refine calls_of_sim Try.func74 rfl (Nat.le_of_ble_eq_true rfl) ?_
  obtain ⟨ka, kc, rfl, hknc, hkcm, _⟩ := id hkv
  obtain ⟨la, lc, rfl, hlnc, hlcm, _⟩ := id hI.svcs
  obtain ⟨pa, pc, rfl, hpnc, hpcm, _⟩ := id hI.parts
  obtain ⟨fa, fc, rfl, hfnc, hfcm, _⟩ := id hI.fields
  obtain ⟨oa, oc, rfl, honc, hocm, _⟩ := id hI.owners
  unfold maxLen at hkcm hlcm hpcm hfcm hocm
  repeat (first | refine RL.vv ?_ | refine RL.p ?_ | refine RL.nil ?_ | refine Sim.seq ?_ | refine Sim.region ?_ | refine Sim.block ?_ | refine Sim.skip ?_ | refine Sim.inBlock ?_ | refine Sim.exit rfl ?_ | refine Sim.condT rfl ?_ | refine Sim.condF rfl ?_)
  refine Sim.loop (σ := Nat × Value) (fun st => [(0, .slice la l.length lc), (1, .slice pa ps.length pc), (2, .pointer (some ⟨pb, po, none⟩)), (3, .string key), (24, .slice ka picks.length kc), (25, .int .i64 (picks.length : Int)), (26, .int .i64 (st.1 : Int)), (11, st.2)])
    (fun st w' => st.1 ≤ picks.length ∧ Up w0 w' ∧ Own (gtLay (m + 1)) 77 w0.heap.size (fun b => w0.heap.size ≤ b) w' st.2 (thingS (semOf l ps) (picks.take st.1) p.type.name key)) (fun st => picks.length - st.1) (0, .slice none 0 0) sb ⟨Nat.zero_le _, .refl _, Own.nil _ _ _ _ _⟩ ?_
  rintro ⟨i, v⟩ w ⟨hi, h0, ho⟩ next
  simp only at hi ho next ⊢
  by_cases hlt : i < picks.length
  rotate_left
  · have : i = picks.length := by omega
    subst this
    rw [List.take_length] at ho
    repeat (first | refine RL.vv ?_ | refine RL.p ?_ | refine RL.nil ?_ | refine Sim.seq ?_ | refine Sim.region ?_ | refine Sim.block ?_ | refine Sim.skip ?_ | refine Sim.inBlock ?_ | refine Sim.exit rfl ?_ | refine Sim.condT rfl ?_ | refine Sim.condF rfl ?_)
    exact Sim.ret1 Try.func74 rfl rfl ⟨_, rfl, h0, ho⟩
  have hx : picks[i]? = some picks[i] := List.getElem?_eq_getElem hlt
  cases m with
  | zero =>
    obtain ⟨_, _, _, _, _, _, h, _⟩ := hkv.at hx
    exact h.elim
  | succ m =>
  obtain ⟨kb, ko, cs, rfl, _, hkat, hkis, _⟩ := hkv.at hx
  have hkat : At w0 kb (ko + i * 3) _ := hkat
  obtain ⟨j, f, hj, hf, hkind, hsub⟩ := goes_pick hI.ok hI.mem hgo hx
  have hsm2 := hsm.2 picks[i] (List.mem_of_getElem? hx)
  have h60 := hsm.1
  have hts : thingS (semOf l ps) (picks.take (i + 1)) p.type.name key = thingS (semOf l ps) (picks.take i) p.type.name key ++ [pickS (semOf l ps) picks[i] p.type.name key] := by
    rw [List.take_succ_eq_append_getElem hlt, thingS_app]
    simp [thingS]
  have hlen : (thingS (semOf l ps) (picks.take i) p.type.name key).length ≤ 60 := by
    rw [thingS_len, List.length_take]
    omega
  generalize picks[i] = q at *
  obtain ⟨qv, rfl, hqv⟩ := pckLay_succ hkis
  obtain ⟨qa, qc, rfl, _⟩ := id hqv
  have hI := hI.up h0
  have hkat := hkat.up h0
  have hqv := hqv.up h0
  obtain ⟨k0, hk0⟩ := List.getElem?_of_mem hI.mem
  obtain ⟨tb, to, _, he, _⟩ := hI.parts.at hk0
  subst he
  obtain ⟨fb, fo, cs, rfl, _, hfat, rfl, _⟩ := hI.fields.at hf
  have hfat : At w fb (fo + j * 3) _ := hfat
  have hjl := (List.getElem?_eq_some_iff.1 hf).1
  obtain ⟨o, hoj⟩ : ∃ o, p.owners[j]? = some o := ⟨_, List.getElem?_eq_getElem (by rw [hI.ok.len p hI.mem]; exact hjl)⟩
  have hjo := (List.getElem?_eq_some_iff.1 hoj).1
  obtain ⟨ob, oo, cs, rfl, _, hoat, rfl, _⟩ := hI.owners.at hoj
  have hoat : At w ob (oo + j * 3) _ := hoat
  have hpat := hI.part
  obtain ⟨ho0, ⟨s, hos⟩, hval⟩ := hI.ok.owner p hI.mem j f o hf hoj
  have hfw := findW_at (o := o) (k := key) hos
  obtain ⟨n, hn⟩ := Int.eq_ofNat_of_zero_le ho0
  rw [hn, Int.toNat_natCast] at hos
  rw [hn] at hoat
  obtain ⟨vb, vo, cs, rfl, _, hvat, ⟨v1, v2, v3, rfl, _, _, hxs⟩, _⟩ := hI.svcs.at hos
  have hvat : At w vb (vo + n * 3) _ := hvat
  have hnl := (List.getElem?_eq_some_iff.1 hos).1
  have hpm := partM_mem hI.ok hI.mem
  have hsf : (semOf l ps).fld p.type.name q.field = some f := by
    simp only [semOf, hpm, hj, Int.toNat_natCast, hf]
    rw [if_neg (by omega)]
  have hsv : (semOf l ps).val p.type.name q.field key = valM l p j key := by
    simp only [semOf, hpm, hj, Int.toNat_natCast]
    rw [if_neg (by omega)]
  have hvm : valM l p j key = match findW l o key with
    | some x => x.vals.find? fun v => decide (v.field = o.field)
    | none => none := by unfold valM; simp only [hoj]; cases findW l o key <;> rfl
  have hps := pickS_def (semOf l ps) q p.type.name key
  rw [hsf] at hps
  simp only [hsv] at hps
  obtain ⟨hk1, hk3, hkt⟩ := hI.ok.kind p hI.mem j f hf
  clear hkis hx hkv hgo hsm hpm hsf hsv
  have hu := Up.refl w
  repeat (first | refine RL.vv ?_ | refine RL.p ?_ | refine RL.nil ?_ | refine Sim.seq ?_ | refine Sim.region ?_ | refine Sim.block ?_ | refine Sim.skip ?_ | refine Sim.inBlock ?_ | refine Sim.exit rfl ?_ | refine Sim.condT rfl ?_ | refine Sim.condF rfl ?_)
  refine RL.al hu fun b13 w2 he13 hle13 hu2 h12 hb13 => ?_
  refine RL.st hu2 hb13 hle13 fun w3 hu hbt hb13 => ?_
  have hb13 : Box w3 b13 _ [.string q.as, .string q.field, .slice qa q.picks.length qc] := hb13
  clear hbt h12 hu2 he13
  repeat (first | refine RL.vv ?_ | refine RL.p ?_ | refine RL.nil ?_ | refine Sim.seq ?_ | refine Sim.region ?_ | refine Sim.block ?_ | refine Sim.skip ?_ | refine Sim.inBlock ?_ | refine Sim.exit rfl ?_ | refine Sim.condT rfl ?_ | refine Sim.condF rfl ?_)
  refine Sim.q ?_
  repeat (first | refine RQ.vv ?_ | refine RQ.p ?_)
  refine RQ.cu (fun wq hq => q_call (c_val (RAt_any q.field wq (hI.fields.up (hu.trans hq))) (by rw [hj])) hq) ?_
  repeat (first | refine RQ.vv ?_ | refine RQ.p ?_)
  refine RQ.nil fun w4 h34 => ?_
  have hu := hu.trans h34
  have hb13 := hb13.up h34
  clear h34
  repeat (first | refine RL.vv ?_ | refine RL.p ?_ | refine RL.nil ?_ | refine Sim.seq ?_ | refine Sim.region ?_ | refine Sim.block ?_ | refine Sim.skip ?_ | refine Sim.inBlock ?_ | refine Sim.exit rfl ?_ | refine Sim.condT rfl ?_ | refine Sim.condF rfl ?_)
  refine Sim.cutX (σ := Nat × Nat) (fun st => [(0, .slice (some ⟨vb, vo, none⟩) l.length lc), (1, .slice (some ⟨tb, to, none⟩) ps.length pc), (2, .pointer (some ⟨pb, po, none⟩)), (3, .string key), (24, .slice (some ⟨kb, ko, none⟩) picks.length kc), (25, .int .i64 (picks.length : Int)), (26, .int .i64 (i : Int)), (11, v), (13, .pointer (some ⟨b13, 0, none⟩)), (15, .pointer (some ⟨st.1, 0, none⟩)), (16, .pointer (some ⟨st.2, 0, none⟩))])
    (fun st w' => Up w w' ∧ Box w' b13 87 [.string q.as, .string q.field, .slice qa q.picks.length qc] ∧ Box w' st.1 68 [.string f.name, .int .i64 f.kind, .string f.type] ∧ Box w' st.2 139 [.int .i64 (n : Int), .string o.type, .string o.field]) (fun k' next => ?_) ?_
  · have hd := Up.drew w4
    have hb13 := hb13.up hd
    have h2 := hu.trans hd
    have hl13 := hb13.lt
    refine Sim.ordD [18] (Up w) (Up w) ?_ mixed
    refine RD.tk 0 ?_
    refine RD.tk 1 ?_
    refine RD.tk 2 ?_
    refine RD.tk 3 ?_
    refine RD.tk 4 ?_
    refine RD.tk 5 ?_
    refine RD.tk 6 ?_
    refine RD.tk 7 ?_
    refine RD.tk 8 ?_
    refine RD.tk 9 ?_
    refine RD.tk 10 ?_
    refine RD.tk 11 ?_
    refine RD.tk 12 ?_
    refine RD.tk 13 ?_
    refine RD.tk 14 ?_
    refine RD.two 15 16 ?_ ?_
    · refine RL.al h2 fun b15 _ he15 hle15 h2 hh hb15 => ?_
      have hn135 : b13 ≠ b15 := by have := hb13.lt; omega
      have hb13 := hb13.up hh
      try have hn56 : b15 ≠ b16 := by have := hb16.lt; omega
      try have hb16 := hb16.up hh
      refine RL.od h2 h2 ?_
      clear hh he15
      refine RD.one 16 ?_
      refine RL.al h2 fun b16 _ he16 hle16 h2 hh hb16 => ?_
      have hn136 : b13 ≠ b16 := by have := hb13.lt; omega
      have hb13 := hb13.up hh
      try have hn56 : b15 ≠ b16 := by have := hb15.lt; omega
      try have hb15 := hb15.up hh
      refine RL.od h2 h2 ?_
      clear hh he16
      refine RD.one 17 ?_
      refine RL.st h2 hb15 hle15 fun _ h2 hbt hb15 => ?_
      have hb15 : Box _ b15 _ [.string f.name, .int .i64 f.kind, .string f.type] := hb15
      have hb13 := hb13.but hbt hn135
      have hb16 := hb16.but hbt (Ne.symm hn56)
      refine RL.od h2 h2 ?_
      clear hbt
      refine RD.one 18 ?_
      refine RL.st h2 hb16 hle16 fun w9 h2 hbt hb16 => ?_
      have hb16 : Box w9 b16 _ [.int .i64 (n : Int), .string o.type, .string o.field] := hb16
      have hb13 := hb13.but hbt hn136
      have hb15 := hb15.but hbt hn56
      refine RL.ox h2 ?_
      clear hbt
      refine RD.done (RL.nil ?_)
      exact next (b15, b16) _ _ ⟨h2, hb13, hb15, hb16⟩ sb
    · refine RL.al h2 fun b16 _ he16 hle16 h2 hh hb16 => ?_
      have hn136 : b13 ≠ b16 := by have := hb13.lt; omega
      have hb13 := hb13.up hh
      try have hn56 : b15 ≠ b16 := by have := hb15.lt; omega
      try have hb15 := hb15.up hh
      refine RL.od h2 h2 ?_
      clear hh he16
      refine RD.one 15 ?_
      refine RL.al h2 fun b15 _ he15 hle15 h2 hh hb15 => ?_
      have hn135 : b13 ≠ b15 := by have := hb13.lt; omega
      have hb13 := hb13.up hh
      try have hn56 : b15 ≠ b16 := by have := hb16.lt; omega
      try have hb16 := hb16.up hh
      refine RL.od h2 h2 ?_
      clear hh he15
      refine RD.one 17 ?_
      refine RL.st h2 hb15 hle15 fun _ h2 hbt hb15 => ?_
      have hb15 : Box _ b15 _ [.string f.name, .int .i64 f.kind, .string f.type] := hb15
      have hb13 := hb13.but hbt hn135
      have hb16 := hb16.but hbt (Ne.symm hn56)
      refine RL.od h2 h2 ?_
      clear hbt
      refine RD.one 18 ?_
      refine RL.st h2 hb16 hle16 fun w9 h2 hbt hb16 => ?_
      have hb16 : Box w9 b16 _ [.int .i64 (n : Int), .string o.type, .string o.field] := hb16
      have hb13 := hb13.but hbt hn136
      have hb15 := hb15.but hbt hn56
      refine RL.ox h2 ?_
      clear hbt
      refine RD.done (RL.nil ?_)
      exact next (b15, b16) _ _ ⟨h2, hb13, hb15, hb16⟩ sb
  rintro ⟨b15, b16⟩ w ⟨h05, hb13, hb15, hb16⟩
  simp only at hb15 hb16 ⊢
  replace hI := hI.up h05
  replace hvat := hvat.up h05
  replace hxs := hxs.up h05
  replace hqv := hqv.up h05
  replace ho := ho.up h05
  replace h0 := h0.trans h05
  clear hu hfat hoat hpat hkat h05
  have ha13 := hb13.at
  have ha15 := hb15.at
  have ha16 := hb16.at
  clear hb13 hb15 hb16
  have hu := Up.refl w
  repeat (first | refine RL.vv ?_ | refine RL.p ?_ | refine RL.nil ?_ | refine Sim.seq ?_ | refine Sim.region ?_ | refine Sim.block ?_ | refine Sim.skip ?_ | refine Sim.inBlock ?_ | refine Sim.exit rfl ?_ | refine Sim.condT rfl ?_ | refine Sim.condF rfl ?_)
  refine Sim.cutX (σ := Nat) (fun b17 => [(0, .slice (some ⟨vb, vo, none⟩) l.length lc), (1, .slice (some ⟨tb, to, none⟩) ps.length pc), (2, .pointer (some ⟨pb, po, none⟩)), (3, .string key), (24, .slice (some ⟨kb, ko, none⟩) picks.length kc), (25, .int .i64 (picks.length : Int)), (26, .int .i64 (i : Int)), (11, v), (13, .pointer (some ⟨b13, 0, none⟩)), (15, .pointer (some ⟨b15, 0, none⟩)), (16, .pointer (some ⟨b16, 0, none⟩)), (17, .pointer (some ⟨b17, 0, none⟩))])
    (fun b17 w' => Up w w' ∧ w.heap.size ≤ b17 ∧ Box w' b17 77 [.string (calledM q), .int .i64 f.kind, .bool false, .string ⟨#[]⟩, .slice none 0 0, .slice none 0 0]) (fun k' next => ?_) ?_
  · have hd := Up.drew w
    have h2 := hd
    refine Sim.ordD [6] (Up w) (Up w) ?_ mixed
    refine RD.tk 0 ?_
    refine RD.tk 2 ?_
    refine RD.tk 3 ?_
    refine RD.two 1 5 ?_ ?_
    · refine RL.cx (RCalled_any q (.slice qa q.picks.length qc) _) ?_
      rintro _ _ ⟨rfl, hh⟩
      refine ⟨_, rfl, ?_⟩
      have h2 := h2.trans hh
      try have hb17 := hb17.up hh
      refine RL.od h2 h2 ?_
      refine RD.tk 4 ?_ (hy := fun wq hq => y_build (v := .agg #[.string (calledM q), .int .i64 f.kind, .bool false, .string ⟨#[]⟩, .slice none 0 0, .slice none 0 0]) rfl (fun w => by kernel_rfl))
      clear hh
      refine RD.one 5 ?_
      refine RL.al h2 fun b17 _ he17 hle17 h2 hh hb17 => ?_
      refine RL.od h2 h2 ?_
      clear hh he17
      refine RD.one 6 ?_
      refine RL.st h2 hb17 hle17 fun w9 h2 hbt hb17 => ?_
      have hb17 : Box w9 b17 _ [.string (calledM q), .int .i64 f.kind, .bool false, .string ⟨#[]⟩, .slice none 0 0, .slice none 0 0] := hb17
      refine RL.ox h2 ?_
      refine RD.done (RL.nil ?_)
      exact next b17 _ _ ⟨h2, hle17, hb17⟩ sb
    · refine RL.al h2 fun b17 _ he17 hle17 h2 hh hb17 => ?_
      refine RL.od h2 h2 ?_
      clear hh he17
      refine RD.one 1 ?_
      refine RL.cx (RCalled_any q (.slice qa q.picks.length qc) _) ?_
      rintro _ _ ⟨rfl, hh⟩
      refine ⟨_, rfl, ?_⟩
      have h2 := h2.trans hh
      try have hb17 := hb17.up hh
      refine RL.od h2 h2 ?_
      refine RD.tk 4 ?_ (hy := fun wq hq => y_build (v := .agg #[.string (calledM q), .int .i64 f.kind, .bool false, .string ⟨#[]⟩, .slice none 0 0, .slice none 0 0]) rfl (fun w => by kernel_rfl))
      clear hh
      refine RD.one 6 ?_
      refine RL.st h2 hb17 hle17 fun w9 h2 hbt hb17 => ?_
      have hb17 : Box w9 b17 _ [.string (calledM q), .int .i64 f.kind, .bool false, .string ⟨#[]⟩, .slice none 0 0, .slice none 0 0] := hb17
      refine RL.ox h2 ?_
      refine RD.done (RL.nil ?_)
      exact next b17 _ _ ⟨h2, hle17, hb17⟩ sb
  rintro b17 w7 ⟨hu, hle17, hb17⟩
  by_cases hk : thingAt s.things o.type key < 0
  · have e : thingAt s.things o.type key = -1 := thingAt_neg' hk
    have hno : valM l p j key = none := by rw [hvm, hfw, thingM_no hk]
    rw [hno] at hps
    simp only at hps
    repeat (first | refine RL.vv ?_ | refine RL.p ?_ | refine RL.nil ?_ | refine Sim.seq ?_ | refine Sim.region ?_ | refine Sim.block ?_ | refine Sim.skip ?_ | refine Sim.inBlock ?_ | refine Sim.exit rfl ?_ | refine Sim.condT rfl ?_ | refine Sim.condF rfl ?_)
    refine Sim.q ?_
    repeat (first | refine RQ.vv ?_ | refine RQ.p ?_)
    refine RQ.cu (fun wq hq => q_same (c_val (RThing_any o.type key wq (hxs.up (hu.trans hq))) (by rw [e, ptrAt_neg])) hq) ?_
    repeat (first | refine RQ.vv ?_ | refine RQ.p ?_)
    refine RQ.nil fun w8 h78 => ?_
    have hu := hu.trans h78
    have hb17 := hb17.up h78
    clear h78
    repeat (first | refine RL.vv ?_ | refine RL.p ?_ | refine RL.nil ?_ | refine Sim.seq ?_ | refine Sim.region ?_ | refine Sim.block ?_ | refine Sim.skip ?_ | refine Sim.inBlock ?_ | refine Sim.exit rfl ?_ | refine Sim.condT rfl ?_ | refine Sim.condF rfl ?_)
    refine RL.st hu hb17 hle17 fun w9 hu hbt hb17 => ?_
    have hb17 : Box w9 b17 _ [.string (calledM q), .int .i64 f.kind, .bool true, .string ⟨#[]⟩, .slice none 0 0, .slice none 0 0] := hb17
    have ha17 := hb17.at
    clear hbt
    repeat (first | refine RL.vv ?_ | refine RL.p ?_ | refine RL.nil ?_ | refine Sim.seq ?_ | refine Sim.region ?_ | refine Sim.block ?_ | refine Sim.skip ?_ | refine Sim.inBlock ?_ | refine Sim.exit rfl ?_ | refine Sim.condT rfl ?_ | refine Sim.condF rfl ?_)
    refine RL.bu (el := 77) [.string (calledM q), .int .i64 f.kind, .bool true, .string ⟨#[]⟩, .slice none 0 0, .slice none 0 0] hu fun b w10 he hle hu10 h910 hb => ?_
    have hs0 := h0.size
    refine RL.app (L := gtLay (m + 1 + 1)) (el := 77) (S := fun b => w0.heap.size ≤ b) (B := w0.heap.size) (ys := [pickS (semOf l ps) q p.type.name key]) (h0.trans hu10) (ho.up hu10) (SliceOf.one hb ⟨by omega, (ho.up hu).ne (Nat.le_of_eq he.symm)⟩ (by rw [hps]; exact gt_succ.2 ⟨_, _, rfl, SliceOf.nil _ _ _, SliceOf.nil _ _ _⟩)) (by simp only [List.length_cons, List.length_nil]; omega) (Nat.le_refl _) (by have := (h0.trans hu10).size; omega) fun v' w11 hu11 ho2 hg hv => ?_
    repeat (first | refine RL.vv ?_ | refine RL.p ?_ | refine RL.nil ?_ | refine Sim.seq ?_ | refine Sim.region ?_ | refine Sim.block ?_ | refine Sim.skip ?_ | refine Sim.inBlock ?_ | refine Sim.exit rfl ?_ | refine Sim.condT rfl ?_ | refine Sim.condF rfl ?_)
    exact next (i + 1, v') _ _ ⟨by first | omega | (simp only; omega), hu11, by simp only; rw [hts]; exact ho2⟩ (by first | omega | (simp only; omega)) sb
  obtain ⟨jx, x, hjx, hxj⟩ := thingAt_get hk
  obtain ⟨xa, xc, rfl, _⟩ := id hxs
  obtain ⟨xb, xo, cs, he, _, hxat, ⟨vv, rfl, hvv⟩, _⟩ := hxs.at hxj
  subst he
  have hxat : At w xb (xo + jx * 3) _ := hxat
  have hfw' : findW l o key = some x := by rw [hfw, thingM_some hjx hxj]
  obtain ⟨v0, hv1, hv2, hv3, hvf⟩ := hval key x hfw'
  have hvs : valM l p j key = some v0 := by
    rw [hvm, hfw']
    simp only
    rw [← List.head?_filter, hv1]
    rfl
  rw [hvs] at hps
  simp only at hps
  obtain ⟨va, vc, rfl, hvnc, hvcm, _⟩ := id hvv
  unfold maxLen at hvcm
  clear hvs hfw hvm hval hk
  repeat (first | refine RL.vv ?_ | refine RL.p ?_ | refine RL.nil ?_ | refine Sim.seq ?_ | refine Sim.region ?_ | refine Sim.block ?_ | refine Sim.skip ?_ | refine Sim.inBlock ?_ | refine Sim.exit rfl ?_ | refine Sim.condT rfl ?_ | refine Sim.condF rfl ?_)
  refine Sim.q ?_
  repeat (first | refine RQ.vv ?_ | refine RQ.p ?_)
  refine RQ.cu (fun wq hq => q_same (c_val (RThing_any o.type key wq (hxs.up (hu.trans hq))) (by rw [hjx, ptrAt_nat])) hq) ?_
  repeat (first | refine RQ.vv ?_ | refine RQ.p ?_)
  refine RQ.nil fun w8 h78 => ?_
  have hu := hu.trans h78
  have hb17 := hb17.up h78
  have hl17 := hb17.lt
  have hsz8 := hu.size
  clear h78 hvat
  repeat (first | refine RL.vv ?_ | refine RL.p ?_ | refine RL.nil ?_ | refine Sim.seq ?_ | refine Sim.region ?_ | refine Sim.block ?_ | refine Sim.skip ?_ | refine Sim.inBlock ?_ | refine Sim.exit rfl ?_ | refine Sim.condT rfl ?_ | refine Sim.condF rfl ?_)
  refine Sim.loop (σ := Nat × Value) (fun st => [(0, .slice (some ⟨vb, vo, none⟩) l.length lc), (1, .slice (some ⟨tb, to, none⟩) ps.length pc), (2, .pointer (some ⟨pb, po, none⟩)), (3, .string key), (24, .slice (some ⟨kb, ko, none⟩) picks.length kc), (25, .int .i64 (picks.length : Int)), (26, .int .i64 (i : Int)), (11, v), (13, .pointer (some ⟨b13, 0, none⟩)), (15, .pointer (some ⟨b15, 0, none⟩)), (16, .pointer (some ⟨b16, 0, none⟩)), (17, .pointer (some ⟨b17, 0, none⟩)), (78, .slice va x.vals.length vc), (79, .int .i64 (x.vals.length : Int)), (80, .int .i64 (st.1 : Int))])
    (fun st w' => st.1 ≤ x.vals.length ∧ Up w w' ∧ w8.heap.size ≤ w'.heap.size ∧ Box w' b17 77 [.string (calledM q), .int .i64 f.kind, .bool false, .string (txL ((x.vals.take st.1).filter fun u => decide (u.field = o.field))), .slice none 0 0, st.2] ∧ Own (gtLay (m + 1)).slice 38 w8.heap.size (fun b => w8.heap.size ≤ b) w' st.2 (subsOf (semOf l ps) f.type q.picks ((x.vals.take st.1).filter fun u => decide (u.field = o.field)))) (fun st => x.vals.length - st.1) (0, .slice none 0 0) sb ⟨Nat.zero_le _, hu, Nat.le_refl _, hb17, Own.nil _ _ _ _ _⟩ ?_
  clear hb17 hu
  rintro ⟨a, sv⟩ w9 ⟨ha, hu, hs9, hb17, hown⟩ next2
  simp only at ha hb17 hown next2 ⊢
  by_cases halt : a < x.vals.length
  · have hxa : x.vals[a]? = some x.vals[a] := List.getElem?_eq_getElem halt
    obtain ⟨ub, uo, cs, rfl, _, huat, ⟨uk, rfl, huk⟩, _⟩ := hvv.at hxa
    have huat : At w ub (uo + a * 3) _ := huat
    have hsn := filter_snoc (g := fun u : VVal => decide (u.field = o.field)) hxa
    have hone := one_hit hv1 hxa
    generalize x.vals[a] = u at *
    obtain ⟨ka2, kc2, rfl, hkn2, hkm2, _⟩ := id huk
    unfold maxLen at hkm2
    repeat (first | refine RL.vv ?_ | refine RL.p ?_ | refine RL.nil ?_ | refine Sim.seq ?_ | refine Sim.region ?_ | refine Sim.block ?_ | refine Sim.skip ?_ | refine Sim.inBlock ?_ | refine Sim.exit rfl ?_ | refine Sim.condT rfl ?_ | refine Sim.condF rfl ?_)
    refine RL.al hu fun b20 w10 he20 hle20 hu10 h910 hb20 => ?_
    refine RL.st hu10 hb20 hle20 fun w11 hu hbt hb20 => ?_
    have hb20 : Box w11 b20 _ [.string u.field, .string u.text, .slice ka2 u.keys.length kc2] := hb20
    have h911 := Up.but h910 hbt (Nat.le_of_eq he20.symm)
    have hb17 := hb17.up h911
    have hown := hown.up h911
    have hs11 := h911.size
    have hn17 : b17 ≠ b20 := by omega
    have hle20' : w8.heap.size ≤ b20 := by omega
    clear h910 hbt hu10
    by_cases hm : u.field = o.field
    rotate_left
    · have hsn : (x.vals.take (a + 1)).filter (fun u => decide (u.field = o.field)) = (x.vals.take a).filter fun u => decide (u.field = o.field) := by
        rw [hsn, decide_eq_false hm]
        simp
      repeat (first | refine RL.vv ?_ | refine RL.p ?_ | refine RL.nil ?_ | refine Sim.seq ?_ | refine Sim.region ?_ | refine Sim.block ?_ | refine Sim.skip ?_ | refine Sim.inBlock ?_ | refine Sim.exit rfl ?_ | refine Sim.condT rfl ?_ | refine Sim.condF rfl ?_)
      exact next2 (a + 1, sv) _ _ ⟨by first | omega | (simp only; omega), hu, by first | omega | (simp only; omega), by simp only; rw [hsn]; exact hb17, by simp only; rw [hsn]; exact hown⟩ (by first | omega | (simp only; omega)) sb
    obtain ⟨hF0, rfl⟩ := hone (decide_eq_true hm)
    rw [hF0] at hsn hb17 hown
    rw [decide_eq_true hm, if_pos rfl, List.nil_append] at hsn
    have ha20 := hb20.at
    repeat (first | refine RL.vv ?_ | refine RL.p ?_ | refine RL.nil ?_ | refine Sim.seq ?_ | refine Sim.region ?_ | refine Sim.block ?_ | refine Sim.skip ?_ | refine Sim.inBlock ?_ | refine Sim.exit rfl ?_ | refine Sim.condT rfl ?_ | refine Sim.condF rfl ?_)
    refine RL.st hu hb17 hle17 fun w12 hu hbt hb17 => ?_
    have hb17 : Box w12 b17 _ [.string (calledM q), .int .i64 f.kind, .bool false, .string u.text, .slice none 0 0, sv] := hb17
    have hb20 := hb20.but hbt (Ne.symm hn17)
    have hown := hown.but hbt (fun k hk => by omega) (fun g hg => by have := (hown.lt g hg).1; omega)
    have hs12 := hbt.size
    have ha20 := hb20.at
    clear hbt
    repeat (first | refine RL.vv ?_ | refine RL.p ?_ | refine RL.nil ?_ | refine Sim.seq ?_ | refine Sim.region ?_ | refine Sim.block ?_ | refine Sim.skip ?_ | refine Sim.inBlock ?_ | refine Sim.exit rfl ?_ | refine Sim.condT rfl ?_ | refine Sim.condF rfl ?_)
    refine Sim.loop (σ := Nat × Value) (fun st => [(0, .slice (some ⟨vb, vo, none⟩) l.length lc), (1, .slice (some ⟨tb, to, none⟩) ps.length pc), (2, .pointer (some ⟨pb, po, none⟩)), (3, .string key), (24, .slice (some ⟨kb, ko, none⟩) picks.length kc), (25, .int .i64 (picks.length : Int)), (26, .int .i64 (i : Int)), (11, v), (13, .pointer (some ⟨b13, 0, none⟩)), (15, .pointer (some ⟨b15, 0, none⟩)), (16, .pointer (some ⟨b16, 0, none⟩)), (17, .pointer (some ⟨b17, 0, none⟩)), (78, .slice (some ⟨ub, uo, none⟩) x.vals.length vc), (79, .int .i64 (x.vals.length : Int)), (80, .int .i64 (a : Int)), (93, .slice ka2 u.keys.length kc2), (94, .int .i64 (u.keys.length : Int)), (95, .int .i64 (st.1 : Int))])
      (fun st w' => st.1 ≤ u.keys.length ∧ Up w w' ∧ w8.heap.size ≤ w'.heap.size ∧ Box w' b17 77 [.string (calledM q), .int .i64 f.kind, .bool false, .string u.text, .slice none 0 0, st.2] ∧ Own (gtLay (m + 1)).slice 38 w8.heap.size (fun b => w8.heap.size ≤ b) w' st.2 (((u.keys.take st.1).filter ((semOf l ps).there f.type)).map fun x => thingS (semOf l ps) q.picks f.type x)) (fun st => u.keys.length - st.1) (0, sv) sb ⟨Nat.zero_le _, hu, by omega, hb17, hown⟩ ?_
    clear hb17 hu hown ha20 hb20
    rintro ⟨c, sv⟩ w13 ⟨hc, hu, hs13, hb17, hown⟩ next3
    simp only at hc hb17 hown next3 ⊢
    by_cases hclt : c < u.keys.length
    rotate_left
    · have : c = u.keys.length := by omega
      subst this
      rw [List.take_length] at hown
      repeat (first | refine RL.vv ?_ | refine RL.p ?_ | refine RL.nil ?_ | refine Sim.seq ?_ | refine Sim.region ?_ | refine Sim.block ?_ | refine Sim.skip ?_ | refine Sim.inBlock ?_ | refine Sim.exit rfl ?_ | refine Sim.condT rfl ?_ | refine Sim.condF rfl ?_)
      exact next2 (a + 1, sv) _ _ ⟨by first | omega | (simp only; omega), hu, hs13, by simp only; rw [hsn]; exact hb17, by simp only; rw [hsn, subsOf_one]; exact hown⟩ (by first | omega | (simp only; omega)) sb
    have hkx : u.keys[c]? = some u.keys[c] := List.getElem?_eq_getElem hclt
    obtain ⟨yb, yo, cs, rfl, _, hyat, rfl, _⟩ := huk.at hkx
    have hyat : At w yb (yo + c * 1) _ := hyat
    have hsn3 := filter_snoc (g := (semOf l ps).there f.type) hkx
    have hkn : f.kind ≠ 1 := fun h => by
      have h1 := hvf.word h
      rw [h1] at hclt
      simp at hclt
    generalize u.keys[c] = y at *
    obtain ⟨k, t, hkf, htk, htn⟩ := partM_name (hkt hkn)
    have hkl := (List.getElem?_eq_some_iff.1 htk).1
    have hgo := hsub fun h => hkn (hkind.2 h)
    rw [← htn] at hgo
    have hth : (semOf l ps).there f.type y = thereM l t y := by simp only [semOf, ← htn, partM_at hI.ok htk]
    have hhome := hI.ok.home t (List.mem_of_getElem? htk)
    obtain ⟨fv2, ov2, hv2', hT⟩ := hI.to htk
    repeat (first | refine RL.vv ?_ | refine RL.p ?_ | refine RL.nil ?_ | refine Sim.seq ?_ | refine Sim.region ?_ | refine Sim.block ?_ | refine Sim.skip ?_ | refine Sim.inBlock ?_ | refine Sim.exit rfl ?_ | refine Sim.condT rfl ?_ | refine Sim.condF rfl ?_)
    refine RL.cs (v := .pointer (some ⟨tb, to + k * 4, none⟩)) (by have := RPart_any f.type w13 (hI.parts.up hu); rw [hkf, ptrAt_nat] at this; exact this) ?_
    repeat (first | refine RL.vv ?_ | refine RL.p ?_ | refine RL.nil ?_ | refine Sim.seq ?_ | refine Sim.region ?_ | refine Sim.block ?_ | refine Sim.skip ?_ | refine Sim.inBlock ?_ | refine Sim.exit rfl ?_ | refine Sim.condT rfl ?_ | refine Sim.condF rfl ?_)
    have hT13 := hT.up hu
    refine RL.cu hu (RThere_any t y w13 hT13.svcs hT13.part hT13.homes hhome) fun w14 hu14 h1314 => ?_
    have hb17 := hb17.up h1314
    have hown := hown.up h1314
    have hs14 := Nat.le_trans hs13 h1314.size
    cases ht : thereM l t y with
    | false =>
      rw [ht] at hth
      rw [hth] at hsn3
      simp only [Bool.false_eq_true, if_false, List.append_nil] at hsn3
      repeat (first | refine RL.vv ?_ | refine RL.p ?_ | refine RL.nil ?_ | refine Sim.seq ?_ | refine Sim.region ?_ | refine Sim.block ?_ | refine Sim.skip ?_ | refine Sim.inBlock ?_ | refine Sim.exit rfl ?_ | refine Sim.condT rfl ?_ | refine Sim.condF rfl ?_)
      exact next3 (c + 1, sv) _ _ ⟨by first | omega | (simp only; omega), hu14, hs14, hb17, by simp only; rw [hsn3]; exact hown⟩ (by first | omega | (simp only; omega)) sb
    | true =>
      rw [ht] at hth
      rw [hth] at hsn3
      simp only [if_true] at hsn3
      have hlen2 : (((u.keys.take c).filter ((semOf l ps).there f.type)).map fun x => thingS (semOf l ps) q.picks f.type x).length ≤ 20 := by
        rw [List.length_map]
        have := hvf.keys
        exact Nat.le_trans (List.length_filter_le _ _) (by rw [List.length_take]; omega)
      repeat (first | refine RL.vv ?_ | refine RL.p ?_ | refine RL.nil ?_ | refine Sim.seq ?_ | refine Sim.region ?_ | refine Sim.block ?_ | refine Sim.skip ?_ | refine Sim.inBlock ?_ | refine Sim.exit rfl ?_ | refine Sim.condT rfl ?_ | refine Sim.condF rfl ?_)
      have h2 : Up w w14.drew := hu14.trans (Up.drew _)
      have h1 : Up w w14.drew ∧ At w14.drew b17 0 [.string (calledM q), .int .i64 f.kind, .bool false, .string u.text, .slice none 0 0, sv] := ⟨h2, hb17.at.up (Up.drew _)⟩
      refine Sim.ordD [12] (fun wq => Up w wq ∧ At wq b17 0 [.string (calledM q), .int .i64 f.kind, .bool false, .string u.text, .slice none 0 0, sv]) (Up w) ?_ mixed
      refine RD.tk 0 ?_
      refine RD.tk 1 ?_ (hy := fun wq hq => y_loadF rfl hq.2 rfl)
      refine RD.tk 2 ?_
      refine RD.tk 3 ?_
      refine RD.tk 4 ?_
      refine RD.tk 5 ?_
      refine RD.tk 6 ?_
      refine RD.tk 7 ?_ (hy := fun wq hq => y_loadF rfl (ha13.up hq.1) rfl)
      refine RD.one 8 ?_
      refine RL.cx (H m rfl y w14.drew (hT.up h2) (hqv.up h2) hgo hsm2) ?_
      rintro _ w15 ⟨tv, rfl, h15, hto⟩
      refine ⟨_, rfl, ?_⟩
      obtain ⟨ta, tn, tc, rfl⟩ := hto.sh
      have hu15 := h2.trans h15
      have hb17 := (hb17.up (Up.drew _)).up h15
      refine RL.od hu15 ⟨hu15, hb17.at⟩ ?_
      refine RD.one 9 ?_
      refine RL.bu (el := 38) [.slice ta tn tc] hu15 fun b116 w16 he16 _ hu16 h16 hb116 => ?_
      have hb17 := hb17.up h16
      refine RL.od hu16 ⟨hu16, hb17.at⟩ ?_
      refine RD.one 10 ?_
      have hs15 := h15.size
      have hown15 := (hown.up (Up.drew _)).up h15
      have hto16 := hto.up h16
      have hs1415 : w14.heap.size ≤ w15.heap.size := hs15
      refine RL.app (L := (gtLay (m + 1)).slice) (el := 38) (S := fun b => w8.heap.size ≤ b) (B := w8.heap.size) (ys := [thingS (semOf l ps) q.picks f.type y]) hu16 (hown15.up h16) (SliceOf.one hb116 ⟨by omega, hown15.ne (Nat.le_of_eq he16.symm)⟩ ⟨_, rfl, by
        rw [← htn]
        exact hto16.sl (fun b hb _ _ => ⟨by have : w14.heap.size ≤ b := hb; omega, hown.ne hb⟩) fun g hg => by
          have := (hto16.lt g hg).1
          exact ⟨by have : w14.heap.size ≤ g := this; omega, hown.ne this⟩⟩) (by simp only [List.length_cons, List.length_nil]; omega) hsz8 (by have := h16.size; omega) fun sv' w17 hu17 hown2 hg hv => ?_
      have hb17 := hb17.grown hg (hown.ne' hl17)
      refine RL.od hu17 ⟨hu17, hb17.at⟩ ?_
      refine RD.tk 11 ?_ (h1 := ⟨hu17, hb17.at⟩)
      refine RD.one 12 ?_
      obtain ⟨va', vn', vc', rfl⟩ := hown2.sh
      refine RL.st hu17 hb17 hle17 fun w18 hu18 hbt hb17 => ?_
      refine RL.ox hu18 ?_
      refine RD.done (RL.nil ?_)
      have hown3 := hown2.but hbt (fun k hk => by omega) (fun g hg => by have := (hown2.lt g hg).1; omega)
      repeat (first | refine RL.vv ?_ | refine RL.p ?_ | refine RL.nil ?_ | refine Sim.seq ?_ | refine Sim.region ?_ | refine Sim.block ?_ | refine Sim.skip ?_ | refine Sim.inBlock ?_ | refine Sim.exit rfl ?_ | refine Sim.condT rfl ?_ | refine Sim.condF rfl ?_)
      exact next3 (c + 1, .slice va' vn' vc') _ _ ⟨by first | omega | (simp only; omega), hu18, by have := hbt.size; have := h16.size; have := hg.size; first | omega | (simp only; omega), hb17, by simp only; rw [hsn3, List.map_append]; exact hown3⟩ (by first | omega | (simp only; omega)) sb
  have han : a = x.vals.length := by omega
  subst han
  rw [List.take_length, hv1] at hb17 hown
  rw [subsOf_one] at hown
  have hb17 : Box w9 b17 _ [.string (calledM q), .int .i64 f.kind, .bool false, .string v0.text, .slice none 0 0, sv] := hb17
  have hw1 : f.kind = 1 → ((v0.keys.filter ((semOf l ps).there f.type)).map fun x => thingS (semOf l ps) q.picks f.type x) = [] := fun h => by rw [hvf.word h]; rfl
  generalize ((v0.keys.filter ((semOf l ps).there f.type)).map fun x => thingS (semOf l ps) q.picks f.type x) = subs at *
  have hS : SliceOf (gtLay (m + 1)).slice (fun b => w8.heap.size ≤ b) w9 sv subs := hown.sl (fun b hb _ _ => hb) fun g hg => (hown.lt g hg).1
  obtain ⟨sa, sc, rfl, hsnc, hscm, _⟩ := id hS
  unfold maxLen at hscm
  clear next2 hown
  repeat (first | refine RL.vv ?_ | refine RL.p ?_ | refine RL.nil ?_ | refine Sim.seq ?_ | refine Sim.region ?_ | refine Sim.block ?_ | refine Sim.skip ?_ | refine Sim.inBlock ?_ | refine Sim.exit rfl ?_ | refine Sim.condT rfl ?_ | refine Sim.condF rfl ?_)
  refine Sim.cutX (σ := Bool × Str × Option Addr × Nat × Nat × Option Addr × Nat × Nat) (fun _ => [(0, .slice (some ⟨vb, vo, none⟩) l.length lc), (1, .slice (some ⟨tb, to, none⟩) ps.length pc), (2, .pointer (some ⟨pb, po, none⟩)), (3, .string key), (24, .slice (some ⟨kb, ko, none⟩) picks.length kc), (25, .int .i64 (picks.length : Int)), (26, .int .i64 (i : Int)), (11, v), (17, .pointer (some ⟨b17, 0, none⟩))])
    (fun st w' => Up w w' ∧ Box w' b17 77 [.string (calledM q), .int .i64 f.kind, .bool st.1, .string st.2.1, .slice st.2.2.1 st.2.2.2.1 st.2.2.2.2.1, .slice st.2.2.2.2.2.1 st.2.2.2.2.2.2.1 st.2.2.2.2.2.2.2] ∧ (gtLay (m + 1 + 1)).is (fun b => w8.heap.size ≤ b) w' [.string (calledM q), .int .i64 f.kind, .bool st.1, .string st.2.1, .slice st.2.2.1 st.2.2.2.1 st.2.2.2.2.1, .slice st.2.2.2.2.2.1 st.2.2.2.2.2.2.1 st.2.2.2.2.2.2.2] (pickS (semOf l ps) q p.type.name key)) (fun k' next => ?_) ?_
  · refine Sim.cond rfl (fun ht => ?_) (fun hf => ?_)
    · have hk2 : f.kind = 2 := of_decide_eq_true ht
      have ht0 := hvf.text (by omega)
      rw [if_neg (by omega), if_pos hk2] at hps
      cases subs with
      | nil =>
        have h0' : ((([] : List (List Gt)).length : Nat) : Int) = 0 := rfl
        have ha17 := hb17.at
        repeat (first | refine RL.vv ?_ | refine RL.p ?_ | refine RL.nil ?_ | refine Sim.seq ?_ | refine Sim.region ?_ | refine Sim.block ?_ | refine Sim.skip ?_ | refine Sim.inBlock ?_ | refine Sim.exit rfl ?_ | refine Sim.condT rfl ?_ | refine Sim.condF rfl ?_)
        refine RL.st hu hb17 hle17 fun w11 hu hbt hb17 => ?_
        have hb17 : Box w11 b17 _ [.string (calledM q), .int .i64 f.kind, .bool true, .string v0.text, .slice none 0 0, .slice sa 0 sc] := hb17
        repeat (first | refine RL.vv ?_ | refine RL.p ?_ | refine RL.nil ?_ | refine Sim.seq ?_ | refine Sim.region ?_ | refine Sim.block ?_ | refine Sim.skip ?_ | refine Sim.inBlock ?_ | refine Sim.exit rfl ?_ | refine Sim.condT rfl ?_ | refine Sim.condF rfl ?_)
        refine next (true, v0.text, none, 0, 0, sa, 0, sc) _ _ ⟨hu, hb17, ?_⟩ sb
        simp only [ht0, hk2, hps, oneOf]
        exact gt_succ.2 ⟨_, _, rfl, SliceOf.nil _ _ _, hS.bt hbt fun k hk => by omega⟩
      | cons s0 r =>
        have h0' : ¬ (((s0 :: r).length : Nat) : Int) = 0 := by simp only [List.length_cons]; omega
        obtain ⟨gb, go, cs, rfl, _, hgat, ⟨gv, rfl, hgv⟩, h0l⟩ := hS.at (i := 0) (x := s0) rfl
        have hgat : At w9 gb (go + 0 * 1) _ := hgat
        obtain ⟨ga, gc, rfl, _⟩ := id hgv
        have hzi : 0 < (s0 :: r).length := by simp
        have ha17 := hb17.at
        repeat (first | refine RL.vv ?_ | refine RL.p ?_ | refine RL.nil ?_ | refine Sim.seq ?_ | refine Sim.region ?_ | refine Sim.block ?_ | refine Sim.skip ?_ | refine Sim.inBlock ?_ | refine Sim.exit rfl ?_ | refine Sim.condT rfl ?_ | refine Sim.condF rfl ?_)
        refine RL.st hu hb17 hle17 fun w12 hu hbt hb17 => ?_
        have hb17 : Box w12 b17 _ [.string (calledM q), .int .i64 f.kind, .bool false, .string v0.text, .slice ga s0.length gc, .slice (some ⟨gb, go, none⟩) (s0 :: r).length sc] := hb17
        have hgv := hgv.bt hbt fun k hk => by omega
        clear hgat ha17 hbt
        repeat (first | refine RL.vv ?_ | refine RL.p ?_ | refine RL.nil ?_ | refine Sim.seq ?_ | refine Sim.region ?_ | refine Sim.block ?_ | refine Sim.skip ?_ | refine Sim.inBlock ?_ | refine Sim.exit rfl ?_ | refine Sim.condT rfl ?_ | refine Sim.condF rfl ?_)
        refine RL.st hu hb17 hle17 fun w13 hu hbt hb17 => ?_
        have hb17 : Box w13 b17 _ [.string (calledM q), .int .i64 f.kind, .bool false, .string v0.text, .slice ga s0.length gc, .slice none 0 0] := hb17
        have hgv := hgv.bt hbt fun k hk => by omega
        repeat (first | refine RL.vv ?_ | refine RL.p ?_ | refine RL.nil ?_ | refine Sim.seq ?_ | refine Sim.region ?_ | refine Sim.block ?_ | refine Sim.skip ?_ | refine Sim.inBlock ?_ | refine Sim.exit rfl ?_ | refine Sim.condT rfl ?_ | refine Sim.condF rfl ?_)
        refine next (false, v0.text, ga, s0.length, gc, none, 0, 0) _ _ ⟨hu, hb17, ?_⟩ sb
        simp only [ht0, hk2, hps, oneOf]
        exact gt_succ.2 ⟨_, _, rfl, hgv, SliceOf.nil _ _ _⟩
    · have hk2 : ¬ f.kind = 2 := of_decide_eq_false hf
      rw [if_neg hk2] at hps
      repeat (first | refine RL.vv ?_ | refine RL.p ?_ | refine RL.nil ?_ | refine Sim.seq ?_ | refine Sim.region ?_ | refine Sim.block ?_ | refine Sim.skip ?_ | refine Sim.inBlock ?_ | refine Sim.exit rfl ?_ | refine Sim.condT rfl ?_ | refine Sim.condF rfl ?_)
      refine next (false, v0.text, none, 0, 0, sa, subs.length, sc) _ _ ⟨hu, hb17, ?_⟩ sb
      by_cases hk1' : f.kind = 1
      · rw [if_pos hk1'] at hps
        have hs0 := hw1 hk1'
        subst hs0
        rw [hps]
        exact gt_succ.2 ⟨_, _, rfl, SliceOf.nil _ _ _, hS⟩
      · rw [if_neg hk1'] at hps
        have ht0 := hvf.text hk1'
        rw [hps]
        simp only [ht0]
        exact gt_succ.2 ⟨_, _, rfl, SliceOf.nil _ _ _, hS⟩
  rintro ⟨nb, tx, a1, n1, c1, a2, n2, c2⟩ w10 ⟨hu, hb17, hgi⟩
  simp only at hb17 hgi ⊢
  have ha17 := hb17.at
  repeat (first | refine RL.vv ?_ | refine RL.p ?_ | refine RL.nil ?_ | refine Sim.seq ?_ | refine Sim.region ?_ | refine Sim.block ?_ | refine Sim.skip ?_ | refine Sim.inBlock ?_ | refine Sim.exit rfl ?_ | refine Sim.condT rfl ?_ | refine Sim.condF rfl ?_)
  refine RL.bu (el := 77) [.string (calledM q), .int .i64 f.kind, .bool nb, .string tx, .slice a1 n1 c1, .slice a2 n2 c2] hu fun b w11 he hle hu11 h1011 hb => ?_
  have hs0 := h0.size
  refine RL.app (L := gtLay (m + 1 + 1)) (el := 77) (S := fun b => w0.heap.size ≤ b) (B := w0.heap.size) (ys := [pickS (semOf l ps) q p.type.name key]) (h0.trans hu11) (ho.up hu11) (SliceOf.one hb ⟨by omega, (ho.up hu).ne (Nat.le_of_eq he.symm)⟩ ((gtLay (m + 1 + 1)).mono ((gtLay (m + 1 + 1)).keep hgi (Keep.of_up h1011)) fun b hb => ⟨by omega, ho.ne (by omega)⟩)) (by simp only [List.length_cons, List.length_nil]; omega) (Nat.le_refl _) (by have := (h0.trans hu11).size; omega) fun v' w12 hu12 ho2 hg hv => ?_
  repeat (first | refine RL.vv ?_ | refine RL.p ?_ | refine RL.nil ?_ | refine Sim.seq ?_ | refine Sim.region ?_ | refine Sim.block ?_ | refine Sim.skip ?_ | refine Sim.inBlock ?_ | refine Sim.exit rfl ?_ | refine Sim.condT rfl ?_ | refine Sim.condF rfl ?_)
  exact next (i + 1, v') _ _ ⟨by first | omega | (simp only; omega), hu12, by simp only; rw [hts]; exact ho2⟩ (by first | omega | (simp only; omega)) sb
theorem RGet_any : ∀ m, RGetC m
  | 0 => RGet_gen fun n h => by cases h
  | m + 1 => RGet_gen fun n h => by cases h; exact RGet_any m
end Go.Proofs.Ytgckpmcdlciibac
