/- Contracts of chapter 7: all homes of a type are asked. -/
import Derived.Test.YtgckpmcdlciibabZO
import Derived.Test.YtgckpmcdlciibabZW
namespace Go.Proofs.Ytgckpmcdlciibab
open Go.RowKit
/-- all that a thing's requests are made of -/
structure InG (S S2 : Nat → Prop) (pb po : Nat) (lv pv fv ov hv : Value) (l : List Svc) (ps : List Prt) (p : Prt) (w : World) : Prop where
  all : (allM l).2.err = 0
  eq : ps = (allM l).1
  mem : p ∈ ps
  okS : ∀ s ∈ l, okSvc s
  svcs : SliceOf svcLay S w lv l
  parts : SliceOf prtLay S2 w pv ps
  part : At w pb po [.string p.type.name, fv, ov, hv]
  fields : SliceOf fldLay S2 w fv p.type.fields
  owners : SliceOf ownLay S2 w ov p.owners
  homes : SliceOf ownLay S2 w hv p.homes
theorem InG.ok {S S2 : Nat → Prop} {pb po : Nat} {lv pv fv ov hv : Value} {l : List Svc} {ps : List Prt} {p : Prt} {w : World} (h : InG S S2 pb po lv pv fv ov hv l ps p w) : WholeOk l ps := by rw [h.eq]; exact wholeOk h.all
theorem InG.up {S S2 : Nat → Prop} {pb po : Nat} {lv pv fv ov hv : Value} {l : List Svc} {ps : List Prt} {p : Prt} {w w' : World} (h : InG S S2 pb po lv pv fv ov hv l ps p w) (hu : Up w w') : InG S S2 pb po lv pv fv ov hv l ps p w' :=
  ⟨h.all, h.eq, h.mem, h.okS, h.svcs.up hu, h.parts.up hu, h.part.up hu, h.fields.up hu, h.owners.up hu, h.homes.up hu⟩
theorem InG.to {S S2 : Nat → Prop} {pb po pa : Nat} {pn pc : Nat} {pb' : Nat} {lv fv ov hv : Value} {l : List Svc} {ps : List Prt} {p t : Prt} {w : World} {k : Nat} (h : InG S S2 pb po lv (.slice (some ⟨pb', pa, none⟩) pn pc) fv ov hv l ps p w) (ht : ps[k]? = some t) : ∃ fv' ov' hv', InG S S2 pb' (pa + k * 4) lv (.slice (some ⟨pb', pa, none⟩) pn pc) fv' ov' hv' l ps t w := by
  obtain ⟨b, o, cs, he, _, hat, ⟨fv', ov', hv', rfl, h1, h2, h3⟩, _⟩ := h.parts.at ht
  simp only [Option.some.injEq, Addr.mk.injEq, and_true] at he
  obtain ⟨rfl, rfl⟩ := he
  exact ⟨fv', ov', hv', h.all, h.eq, List.mem_of_getElem? ht, h.okS, h.svcs, h.parts, hat, h1, h2, h3⟩
theorem getD_get {keys : List Str} {i : Nat} {k : Str} (h : keys[i]? = some k) : keys.getD i ⟨#[]⟩ = k := by rw [List.getD_eq_getElem?_getD, h]; rfl
set_option maxHeartbeats 8000000 in
theorem fetch_any {m gb pb po : Nat} {S S2 S3 Sk Sq : Nat → Prop} {lv pv fv ov hv kv keysv av0 : Value} {l : List Svc} {ps : List Prt} {p : Prt} {picks : List Pck} {asked : List Rq} {keys : List Str} {w0 : World} (w : World) (hI : InG S S2 pb po lv pv fv ov hv l ps p w0) (hu : Up w0 w)
    (hps : SliceOf (pckLay m) S3 w0 kv picks) (hfl : ∀ q ∈ picks, ∃ (j : Nat) (f : Fld), fieldF p.type.fields q.field = (j : Int) ∧ p.type.fields[j]? = some f) (h60 : picks.length ≤ 60)
    (hgb : Box w gb 172 [lv, pv, av0]) (hg0 : w0.heap.size ≤ gb) (hask : Own rqLay 52 w0.heap.size Sq w av0 asked) (hgq : ∀ x, av0.ownBlock = some x → x ≠ gb) (hSq : ¬ Sq gb) (hSq2 : ∀ b, w.heap.size ≤ b → Sq b) (hal : asked.length ≤ 1000)
    (hk : SliceOf strLay Sk w keysv keys) (hSk : ∀ b, Sk b → b ≠ gb ∧ some b ≠ av0.ownBlock) (hn : keys.Nodup) (hne : keys ≠ []) (hkl : keys.length ≤ 512000000000) :
    Calls Try.prog 121 #[.pointer (some ⟨gb, 0, none⟩), .pointer (some ⟨pb, po, none⟩), keysv, kv] w fun en w' => ∃ (b9 Z : Nat) (av : Value) (bs : Nat → Nat × Nat), en = .returned (.map (some b9)) ∧ Els (fun b => b = gb ∨ some b = av0.ownBlock) w w' ∧ Box w' gb 172 [lv, pv, av] ∧
      Own rqLay 52 w0.heap.size Sq w' av (asked ++ homesRq p keys picks) ∧ (∀ x, av.ownBlock = some x → av0.ownBlock = some x ∨ Z ≤ x) ∧ w.heap.size ≤ Z ∧ Z ≤ w'.heap.size ∧
      RowsAt w.heap.size Z (fun b => Z ≤ b ∧ some b ≠ av.ownBlock) w' b9 keys keys.length bs (fun i => rowT l p.homes (keys.getD i ⟨#[]⟩)) (fun i => rowF l p (picks.map Pck.field) p.homes (keys.getD i ⟨#[]⟩)) := by
  refine calls_of_sim Try.func121 rfl (Nat.le_of_ble_eq_true rfl) ?_
  obtain ⟨ka, kc, rfl, hknc, hkcm, _⟩ := id hk
  obtain ⟨qa, qc, rfl, hqnc, hqcm, _⟩ := id hps
  obtain ⟨ha, hc, rfl, hhnc, hhcm, _⟩ := id hI.homes
  unfold maxLen at hkcm hqcm hhcm
  obtain ⟨oa, oc, rfl, _⟩ := id hI.owners
  obtain ⟨fa, fc, rfl, _⟩ := id hI.fields
  have hgl := hgb.lt
  have hask0 := hask
  have hko : SliceOf strLay (fun b => (b ≠ gb ∧ some b ≠ av0.ownBlock) ∧ b < w.heap.size) w (.slice ka keys.length kc) keys := hk.old.mono fun b hb => ⟨hSk b hb.1, hb.2⟩
  clear hk
  repeat (first | refine RL.vv ?_ | refine RL.p ?_ | refine RL.nil ?_ | refine Sim.seq ?_ | refine Sim.region ?_ | refine Sim.block ?_ | refine Sim.skip ?_ | refine Sim.inBlock ?_ | refine Sim.exit rfl ?_ | refine Sim.condT rfl ?_ | refine Sim.condF rfl ?_)
  refine RL.mmap (κ := Str) (.refl w) fun b9 w1 he9 _ hu1 _ hm9 => ?_
  repeat (first | refine RL.vv ?_ | refine RL.p ?_ | refine RL.nil ?_ | refine Sim.seq ?_ | refine Sim.region ?_ | refine Sim.block ?_ | refine Sim.skip ?_ | refine Sim.inBlock ?_ | refine Sim.exit rfl ?_ | refine Sim.condT rfl ?_ | refine Sim.condF rfl ?_)
  refine Sim.loop (σ := Nat × Nat × (Nat → Nat × Nat)) (fun st => [(0, .pointer (some ⟨gb, 0, none⟩)), (1, .pointer (some ⟨pb, po, none⟩)), (2, .slice ka keys.length kc), (3, .slice qa picks.length qc), (9, .map (some b9)), (27, .slice ka keys.length kc), (28, .int .i64 (keys.length : Int)), (29, .int .i64 (st.1 : Int))])
    (fun st w' => st.1 ≤ keys.length ∧ Up w w' ∧ st.2.1 ≤ w'.heap.size ∧ w.heap.size ≤ st.2.1 ∧ RowsAt w.heap.size st.2.1 (fun _ => False) w' b9 keys st.1 st.2.2 (fun _ => false) (fun _ _ => none)) (fun st => keys.length - st.1) (0, w1.heap.size, fun _ => (0, 0)) sb
    ⟨Nat.zero_le _, hu1, Nat.le_refl _, hu1.size, ⟨by simpa using hm9, fun i hi => absurd hi (Nat.not_lt_zero _), fun i j hi => absurd hi (Nat.not_lt_zero _), fun i hi => absurd hi (Nat.not_lt_zero _), fun i hi => absurd hi (Nat.not_lt_zero _), ⟨by omega, hm9.lt⟩⟩⟩ ?_
  clear hu1 hm9
  rintro ⟨i, Z, bs⟩ w2 ⟨hi, hu2, hZ2, hZ1, hr⟩ next1
  simp only at hi hZ2 hZ1 hr next1 ⊢
  by_cases hlt : i < keys.length
  · have hx : keys[i]? = some keys[i] := List.getElem?_eq_getElem hlt
    obtain ⟨xb, xo, cs, rfl, _, hxat, rfl, _⟩ := (hko.up hu2).at hx
    have hxat : At w2 xb (xo + i * 1) _ := hxat
    generalize hkk : keys[i] = k at *
    repeat (first | refine RL.vv ?_ | refine RL.p ?_ | refine RL.nil ?_ | refine Sim.seq ?_ | refine Sim.region ?_ | refine Sim.block ?_ | refine Sim.skip ?_ | refine Sim.inBlock ?_ | refine Sim.exit rfl ?_ | refine Sim.condT rfl ?_ | refine Sim.condF rfl ?_)
    refine RL.mmap (κ := Str) hu2 fun vb w3 hev _ hu3 h23 hmv => ?_
    refine RL.val trivial rfl (y_build (v := .agg #[.bool false, .map (some vb)]) rfl (fun w => by kernel_rfl)) ?_
    refine RL.bx hu3 fun rb w4 her hler hu4 h34 hrb => ?_
    have hrb : Box w4 rb _ [.bool false, .map (some vb)] := hrb
    have hvlt := hmv.lt
    have hr4 := (hr.up h23).up h34
    have h9 := hr.rng9
    refine RL.mset (el := 214) (k := k) Try.underlying9 hu4 hr4.map h9.1 fun w5 hu5 hbt hm => ?_
    have h24 := h23.trans h34
    repeat (first | refine RL.vv ?_ | refine RL.p ?_ | refine RL.nil ?_ | refine Sim.seq ?_ | refine Sim.region ?_ | refine Sim.block ?_ | refine Sim.skip ?_ | refine Sim.inBlock ?_ | refine Sim.exit rfl ?_ | refine Sim.condT rfl ?_ | refine Sim.condF rfl ?_)
    refine next1 (i + 1, max (rb + 1) (vb + 1), fun j => if j = i then (rb, vb) else bs j) _ _ ⟨by first | omega | (simp only; omega), hu5, ?_, ?_, ?_⟩ (by first | omega | (simp only; omega)) sb
    · have := hbt.size
      have := hrb.lt
      have := h34.size
      simp only
      omega
    · have := h24.size
      simp only
      omega
    · refine (hr4.new hn hx hbt hm (hrb.but hbt (by have := h24.size; have := h34.size; omega)) ((hmv.up h34).but hbt (by omega)) (by omega) (by have := h34.size; omega) (by omega) hZ1 (fun b hb => hb.elim)).cong (fun j _ => by split <;> rfl) (fun j _ => by split <;> rfl)
  have hin : i = keys.length := by omega
  subst hin
  clear next1
  -- the homes, one by one
  obtain ⟨Tq, hTq⟩ : ∃ T : Nat → Prop, T = fun b => Sq b ∧ ¬ (w.heap.size ≤ b ∧ b < Z) := ⟨_, rfl⟩
  have hT1 : ∀ b, Tq b → Sq b := fun b hb => by rw [hTq] at hb; exact hb.1
  have hT2 : ∀ b, Tq b → ¬ (w.heap.size ≤ b ∧ b < Z) := fun b hb => by rw [hTq] at hb; exact hb.2
  have hT3 : ∀ b, Sq b → ¬ (w.heap.size ≤ b ∧ b < Z) → Tq b := fun b h1 h2 => by rw [hTq]; exact ⟨h1, h2⟩
  clear hTq
  have hu02 := hu.trans hu2
  have hpat := hI.part.up hu02
  repeat (first | refine RL.vv ?_ | refine RL.p ?_ | refine RL.nil ?_ | refine Sim.seq ?_ | refine Sim.region ?_ | refine Sim.block ?_ | refine Sim.skip ?_ | refine Sim.inBlock ?_ | refine Sim.exit rfl ?_ | refine Sim.condT rfl ?_ | refine Sim.condF rfl ?_)
  have h0len : ∀ (x : Nat), x ≤ p.homes.length → (homesRq p keys picks).take x = (p.homes.take x).map (rqFor p keys picks) := fun x _ => by unfold homesRq; rw [List.map_take]
  have hX0 : ∀ b, b < w0.heap.size → ¬ (b = gb ∨ some b = av0.ownBlock) := fun b hb h => by
    rcases h with rfl | h
    · omega
    · have := (hask.lt b h.symm).1; omega
  refine Sim.loop (σ := Nat × Value) (fun st => [(0, .pointer (some ⟨gb, 0, none⟩)), (1, .pointer (some ⟨pb, po, none⟩)), (2, .slice ka keys.length kc), (3, .slice qa picks.length qc), (9, .map (some b9)), (42, .slice ha p.homes.length hc), (43, .int .i64 (p.homes.length : Int)), (44, .int .i64 (st.1 : Int))])
    (fun st w' => st.1 ≤ p.homes.length ∧ Els (fun b => b = gb ∨ some b = av0.ownBlock) w w' ∧ Z ≤ w'.heap.size ∧ Box w' gb 172 [lv, pv, st.2] ∧ Own rqLay 52 w0.heap.size Tq w' st.2 (asked ++ (p.homes.take st.1).map (rqFor p keys picks)) ∧ (∀ x, st.2.ownBlock = some x → av0.ownBlock = some x ∨ Z ≤ x) ∧
      RowsAt w.heap.size Z (fun b => Z ≤ b ∧ some b ≠ st.2.ownBlock) w' b9 keys keys.length bs (fun i => rowT l (p.homes.take st.1) (keys.getD i ⟨#[]⟩)) (fun i => rowF l p (picks.map Pck.field) (p.homes.take st.1) (keys.getD i ⟨#[]⟩))) (fun st => p.homes.length - st.1) (0, av0) sb
    ⟨Nat.zero_le _, .of_up hu2, hZ2, hgb.up hu2, by simpa using (hask.shift (S' := Tq) fun b hb hlt _ => hT3 b hb (by omega)).up hu2, fun x hx => .inl hx, (hr.reF fun b hb => hb.elim).cong (fun i _ => rfl) (fun i _ => by funext n; simp [rowF, ownIn]; intro _; cases ownerM p n <;> simp)⟩ ?_
  clear hr hpat hu2 hu02 hZ2
  rintro ⟨j, av⟩ w3 ⟨hj, hE, hZ3, hgb3, hask3, havx, hr⟩ next2
  simp only at hj hgb3 hask3 havx hr next2 ⊢
  by_cases hjl : j < p.homes.length
  rotate_left
  · have : j = p.homes.length := by omega
    subst this
    rw [List.take_length] at hask3 hr
    repeat (first | refine RL.vv ?_ | refine RL.p ?_ | refine RL.nil ?_ | refine Sim.seq ?_ | refine Sim.region ?_ | refine Sim.block ?_ | refine Sim.skip ?_ | refine Sim.inBlock ?_ | refine Sim.exit rfl ?_ | refine Sim.condT rfl ?_ | refine Sim.condF rfl ?_)
    exact Sim.ret1 Try.func121 rfl rfl ⟨b9, Z, av, bs, rfl, hE, hgb3, hask3.shift (fun b hb _ _ => hT1 b hb), havx, hZ1, hZ3, hr⟩
  have hu3 := hE.up hu hX0
  have hx : p.homes[j]? = some p.homes[j] := List.getElem?_eq_getElem hjl
  have htk := List.take_succ_eq_append_getElem hjl
  obtain ⟨hb, ho, cs, rfl, _, hhat, rfl, _⟩ := (hI.homes.up hu3).at hx
  have hhat : At w3 hb (ho + j * 3) _ := hhat
  obtain ⟨hh0, s, hhs⟩ := hI.ok.home p hI.mem _ (List.mem_of_getElem? hx)
  have hfrom : FromHome (allM l).1 (rqFor p keys picks p.homes[j]) := ⟨p, by rw [← hI.eq]; exact hI.mem, keys, picks, _, List.mem_of_getElem? hx, rfl, hn, hne⟩
  have hright := rq_right hI.all hfrom
  generalize p.homes[j] = h at *
  have hk3 : SliceOf strLay (fun b => b < w.heap.size) w3 (.slice ka keys.length kc) keys := (hko.keep (hE.keepS fun b hb _ h => by
    rcases h with h | h
    · exact hb.1.1 h
    · exact hb.1.2 h)).mono fun b hb => hb.2
  repeat (first | refine RL.vv ?_ | refine RL.p ?_ | refine RL.nil ?_ | refine Sim.seq ?_ | refine Sim.region ?_ | refine Sim.block ?_ | refine Sim.skip ?_ | refine Sim.inBlock ?_ | refine Sim.exit rfl ?_ | refine Sim.condT rfl ?_ | refine Sim.condF rfl ?_)
  refine RL.al (.refl w3) fun b13 w4 he13 hle13 h34 _ hb13 => ?_
  repeat (first | refine RL.vv ?_ | refine RL.p ?_ | refine RL.nil ?_ | refine Sim.seq ?_ | refine Sim.region ?_ | refine Sim.block ?_ | refine Sim.skip ?_ | refine Sim.inBlock ?_ | refine Sim.exit rfl ?_ | refine Sim.condT rfl ?_ | refine Sim.condF rfl ?_)
  refine RL.st h34 hb13 hle13 fun w5 h35 _ hb13 => ?_
  have hb13 : Box w5 b13 _ [.int .i64 h.service, .string h.type, .string h.field] := hb13
  clear h34 hhat
  have hS3 := h35.size
  repeat (first | refine RL.vv ?_ | refine RL.p ?_ | refine RL.nil ?_ | refine Sim.seq ?_ | refine Sim.region ?_ | refine Sim.block ?_ | refine Sim.skip ?_ | refine Sim.inBlock ?_ | refine Sim.exit rfl ?_ | refine Sim.condT rfl ?_ | refine Sim.condF rfl ?_)
  refine Sim.cutX (σ := Nat × Value) (fun st => [(0, .pointer (some ⟨gb, 0, none⟩)), (1, .pointer (some ⟨pb, po, none⟩)), (2, .slice ka keys.length kc), (3, .slice qa picks.length qc), (9, .map (some b9)), (42, .slice (some ⟨hb, ho, none⟩) p.homes.length hc), (43, .int .i64 (p.homes.length : Int)), (44, .int .i64 (j : Int)), (13, .pointer (some ⟨b13, 0, none⟩)), (14, .pointer (some ⟨st.1, 0, none⟩))])
    (fun st w' => Up w3 w' ∧ w3.heap.size ≤ st.1 ∧ st.1 ≠ b13 ∧ Box w' b13 89 [.int .i64 h.service, .string h.type, .string h.field] ∧ Box w' st.1 52 [.int .i64 h.service, .string h.type, st.2, .slice none 0 0] ∧ SliceOf strLay (fun b => w3.heap.size ≤ b ∧ b ≠ st.1) w' st.2 keys) (fun k' next => ?_) ?_
  · have h0 := Up.drew w5
    have ha13 := hb13.at
    refine Sim.ord (Up w5) ?_
    refine RO.tk 0 ?_
    refine RO.tk 1 ?_
    refine RO.tk 2 ?_
    refine RO.tk 3 ?_
    refine RO.tk 4 ?_
    have hb13 := hb13.up h0
    refine RO.two 5 7 ?_ ?_
    · refine RL.cx (Clone_Str (S' := Nn) _ (hk3.up (h35.trans h0)) (by omega)) ?_
      rintro _ w6 ⟨cv, rfl, hh, hcv⟩
      refine ⟨_, rfl, ?_⟩
      have hs := h0.size
      have hcs := hcv.sl (S' := fun b => w5.heap.size ≤ b ∧ b < w6.heap.size) (fun _ h _ _ => h.elim) fun g hg => ⟨(hcv.lt g hg).1, (hcv.lt g hg).2⟩
      obtain ⟨ca, cn, cc, rfl⟩ := hcv.sh
      have h0 := h0.trans hh
      have hb13 := hb13.up hh
      have hlt13 := hb13.lt
      refine RL.ord h0 ?_
      refine RO.tk 6 ?_ (hy := fun wq hq => y_build (v := .agg #[.int .i64 h.service, .string h.type, .slice ca cn cc, .slice none 0 0]) rfl (fun w => by kernel_rfl))
      refine RO.one 7 ?_
      refine RL.al h0 fun b14 w7 he14 hle14 h0 hh hb14 => ?_
      have hb13 := hb13.up hh
      have hn14 : b14 ≠ b13 := by omega
      refine RL.ord h0 ?_
      refine RO.one 8 ?_
      refine RL.st h0 hb14 hle14 fun w8 h0 hbt hb14 => ?_
      refine RL.ord h0 ?_
      refine RO.done (RL.nil ?_)
      exact next (b14, .slice ca cn cc) _ _ ⟨h35.trans h0, by simp only; omega, hn14, hb13.but hbt hn14.symm, hb14, ((hcs.up hh).bt hbt fun k hk => by omega).mono fun k hk => ⟨by omega, by omega⟩⟩ sb
    · refine RL.al h0 fun b14 w6 he14 hle14 h0 hh hb14 => ?_
      have hn14 : b14 ≠ b13 := fun e => by have := hb13.lt; omega
      have hb13 := hb13.up hh
      refine RL.ord h0 ?_
      refine RO.one 5 ?_
      refine RL.cx (Clone_Str (S' := Nn) _ (hk3.up (h35.trans h0)) (by omega)) ?_
      rintro _ w7 ⟨cv, rfl, hh, hcv⟩
      refine ⟨_, rfl, ?_⟩
      have hl14 := hb14.lt
      have hcs := hcv.sl (S' := fun b => w6.heap.size ≤ b) (fun _ h _ _ => h.elim) fun g hg => (hcv.lt g hg).1
      obtain ⟨ca, cn, cc, rfl⟩ := hcv.sh
      have hs := h0.size
      have h0 := h0.trans hh
      have hb13 := hb13.up hh
      have hb14 := hb14.up hh
      refine RL.ord h0 ?_
      refine RO.tk 6 ?_ (hy := fun wq hq => y_build (v := .agg #[.int .i64 h.service, .string h.type, .slice ca cn cc, .slice none 0 0]) rfl (fun w => by kernel_rfl))
      refine RO.one 8 ?_
      refine RL.st h0 hb14 hle14 fun w8 h0 hbt hb14 => ?_
      refine RL.ord h0 ?_
      refine RO.done (RL.nil ?_)
      exact next (b14, .slice ca cn cc) _ _ ⟨h35.trans h0, by simp only; omega, hn14, hb13.but hbt hn14.symm, hb14, (hcs.bt hbt fun k hk => by omega).mono fun k hk => ⟨by omega, by omega⟩⟩ sb
  clear hb13 h35 he13 hS3
  rintro ⟨b14, cv⟩ w6 ⟨h36, hle14, hn14, hb13, hb14, hcv⟩
  simp only at hle14 hn14 hb14 hcv ⊢
  have hcv := hcv.old
  have hl13 := hb13.lt
  have hl14 := hb14.lt
  obtain ⟨ca, cc, rfl, _⟩ := id hcv
  repeat (first | refine RL.vv ?_ | refine RL.p ?_ | refine RL.nil ?_ | refine Sim.seq ?_ | refine Sim.region ?_ | refine Sim.block ?_ | refine Sim.skip ?_ | refine Sim.inBlock ?_ | refine Sim.exit rfl ?_ | refine Sim.condT rfl ?_ | refine Sim.condF rfl ?_)
  refine Sim.loop (σ := Nat × Value × Value) (fun st => [(0, .pointer (some ⟨gb, 0, none⟩)), (1, .pointer (some ⟨pb, po, none⟩)), (2, .slice ka keys.length kc), (3, .slice qa picks.length qc), (9, .map (some b9)), (42, .slice (some ⟨hb, ho, none⟩) p.homes.length hc), (43, .int .i64 (p.homes.length : Int)), (44, .int .i64 (j : Int)), (13, .pointer (some ⟨b13, 0, none⟩)), (14, .pointer (some ⟨b14, 0, none⟩)), (55, .slice qa picks.length qc), (56, .int .i64 (picks.length : Int)), (57, .int .i64 (st.1 : Int)), (15, st.2.2)])
    (fun st w' => st.1 ≤ picks.length ∧ Up w3 w' ∧ w6.heap.size ≤ w'.heap.size ∧ Box w' b13 89 [.int .i64 h.service, .string h.type, .string h.field] ∧ Box w' b14 52 [.int .i64 h.service, .string h.type, .slice ca keys.length cc, st.2.1] ∧ SliceOf strLay (fun b => (w3.heap.size ≤ b ∧ b ≠ b14) ∧ b < w6.heap.size) w' (.slice ca keys.length cc) keys ∧
      Own strLay 9 w6.heap.size Nn w' st.2.1 ((fldsFor p h ((picks.take st.1).map Pck.field)).map (·.1)) ∧ Own strLay 9 w6.heap.size Nn w' st.2.2 ((fldsFor p h ((picks.take st.1).map Pck.field)).map (·.2)) ∧ (∀ g, st.2.1.ownBlock = some g → st.2.2.ownBlock ≠ some g)) (fun st => picks.length - st.1) (0, .slice none 0 0, .slice none 0 0) sb
    ⟨Nat.zero_le _, h36, Nat.le_refl _, hb13, hb14, hcv, Own.nil _ _ _ _ _, Own.nil _ _ _ _ _, fun g hg => by cases hg⟩ ?_
  clear hb13 hb14 hcv
  rintro ⟨i, fv2, sv⟩ w7 ⟨hi, h37, hs67, hb13, hb14, hcv, hof, hos, hds⟩ next3
  simp only at hi hb14 hof hos hds next3 ⊢
  have hu7 := hu3.trans h37
  by_cases hil : i < picks.length
  · have hq0 : picks[i]? = some picks[i] := List.getElem?_eq_getElem hil
    obtain ⟨j2, f, hfj, hfx⟩ := hfl picks[i] (List.mem_of_getElem? hq0)
    cases m with
    | zero =>
      obtain ⟨_, _, _, _, _, _, h, _⟩ := hps.at hq0
      exact h.elim
    | succ m =>
    obtain ⟨kb, ko, cs, rfl, _, hkat, hkis, _⟩ := hps.at hq0
    obtain ⟨kv, rfl, hkv⟩ := pckLay_succ hkis
    have hkat : At w0 kb (ko + i * 3) _ := hkat
    have hkat := hkat.up hu7
    have hpt := List.take_succ_eq_append_getElem hil
    have hstep : fldsFor p h ((picks.take (i + 1)).map Pck.field) = fldsStep p h (fldsFor p h ((picks.take i).map Pck.field)) picks[i].field := by
      rw [hpt, List.map_append]
      unfold fldsFor
      rw [List.foldl_append]
      rfl
    have hacc : (fldsFor p h ((picks.take i).map Pck.field)).length ≤ 60 := by
      have : ∀ (ns : List Str) (acc : List (Str × Str)), (ns.foldl (fldsStep p h) acc).length ≤ acc.length + ns.length := fun ns => by
        induction ns with
        | nil => intro acc; simp
        | cons n ns ih =>
          intro acc
          rw [List.foldl_cons]
          have := ih (fldsStep p h acc n)
          have h2 : (fldsStep p h acc n).length ≤ acc.length + 1 := by
            unfold fldsStep
            split
            · split <;> simp
            · omega
          simp only [List.length_cons]
          omega
      have := this ((picks.take i).map Pck.field) []
      unfold fldsFor
      simp only [List.length_nil, List.length_map, List.length_take] at this
      omega
    generalize picks[i] = q at *
    obtain ⟨k1, k2, rfl, _⟩ := id hkv
    generalize hacc0 : fldsFor p h ((picks.take i).map Pck.field) = acc at *
    repeat (first | refine RL.vv ?_ | refine RL.p ?_ | refine RL.nil ?_ | refine Sim.seq ?_ | refine Sim.region ?_ | refine Sim.block ?_ | refine Sim.skip ?_ | refine Sim.inBlock ?_ | refine Sim.exit rfl ?_ | refine Sim.condT rfl ?_ | refine Sim.condF rfl ?_)
    refine RL.al (.refl w7) fun b17 w8 he17 hle17 h78 _ hb17 => ?_
    repeat (first | refine RL.vv ?_ | refine RL.p ?_ | refine RL.nil ?_ | refine Sim.seq ?_ | refine Sim.region ?_ | refine Sim.block ?_ | refine Sim.skip ?_ | refine Sim.inBlock ?_ | refine Sim.exit rfl ?_ | refine Sim.condT rfl ?_ | refine Sim.condF rfl ?_)
    refine RL.st h78 hb17 hle17 fun w9 h79 _ hb17 => ?_
    have hb17 : Box w9 b17 _ [.string q.as, .string q.field, .slice k1 q.picks.length k2] := hb17
    have ha17 := hb17.at
    have hu9 := hu7.trans h79
    have hpat := hI.part.up hu9
    have hfs := hI.fields.up hu9
    clear h78 hkat
    repeat (first | refine RL.vv ?_ | refine RL.p ?_ | refine RL.nil ?_ | refine Sim.seq ?_ | refine Sim.region ?_ | refine Sim.block ?_ | refine Sim.skip ?_ | refine Sim.inBlock ?_ | refine Sim.exit rfl ?_ | refine Sim.condT rfl ?_ | refine Sim.condF rfl ?_)
    refine Sim.q ?_
    repeat (first | refine RQ.vv ?_ | refine RQ.p ?_)
    refine RQ.cu (fun wq hq => q_call (c_val (Field_any q.field wq (hfs.up hq)) (by rw [hfj])) hq) ?_
    repeat (first | refine RQ.vv ?_ | refine RQ.p ?_)
    refine RQ.nil fun w10 h910 => ?_
    have hu10 := hu9.trans h910
    have h710 := h79.trans h910
    have hb17 := hb17.up h910
    have hpat := hpat.up h910
    obtain ⟨o, ho2⟩ : ∃ o, p.owners[j2]? = some o := ⟨_, List.getElem?_eq_getElem (by rw [hI.ok.len p hI.mem]; exact (List.getElem?_eq_some_iff.1 hfx).1)⟩
    have hom : ownerM p q.field = some o := by
      unfold ownerM
      rw [hfj, if_neg (by omega), Int.toNat_natCast, ho2]
    have hown10 := hI.owners.up hu10
    obtain ⟨ob, oo, cs, rfl, _, hoat, rfl, hol⟩ := hown10.at ho2
    have hoat : At w10 ob (oo + j2 * 3) _ := hoat
    clear hown10 hfs ha17
    repeat (first | refine RL.vv ?_ | refine RL.p ?_ | refine RL.nil ?_ | refine Sim.seq ?_ | refine Sim.region ?_ | refine Sim.block ?_ | refine Sim.skip ?_ | refine Sim.inBlock ?_ | refine Sim.exit rfl ?_ | refine Sim.condT rfl ?_ | refine Sim.condF rfl ?_)
    refine RL.al h710 fun b19 w11 he19 hle19 h711 hh hb19 => ?_
    have hn19 : b17 ≠ b19 := by have := hb17.lt; omega
    have hb17 := hb17.up hh
    repeat (first | refine RL.vv ?_ | refine RL.p ?_ | refine RL.nil ?_ | refine Sim.seq ?_ | refine Sim.region ?_ | refine Sim.block ?_ | refine Sim.skip ?_ | refine Sim.inBlock ?_ | refine Sim.exit rfl ?_ | refine Sim.condT rfl ?_ | refine Sim.condF rfl ?_)
    refine RL.st h711 hb19 hle19 fun w12 h712 hbt hb19 => ?_
    have hb19 : Box w12 b19 _ [.int .i64 o.service, .string o.type, .string o.field] := hb19
    have hb17 := hb17.but hbt hn19
    have hl17 := hb17.lt
    have hl19 := hb19.lt
    have hu12 := hu7.trans h712
    have hb13 := hb13.up h712
    have hb14 := hb14.up h712
    have hcv := hcv.up h712
    have hof7 := hof
    have hos7 := hos
    have hof := hof.up h712
    have hos := hos.up h712
    have h312 := h37.trans h712
    have hs712 := h712.size
    clear hbt hh hpat hoat h710 h711 h910 h79
    have ha19 := hb19.at
    have ha13 := hb13.at
    have hskip : fldsStep p h acc q.field = acc → Sim Try.prog 121 Try.f121.ntmps [] [] w12 (fun _ _ => True) → True := fun _ _ => trivial
    clear hskip
    by_cases c1 : o.service = h.service
    rotate_left
    · have hst : fldsStep p h acc q.field = acc := by
        unfold fldsStep
        rw [hom]
        simp only
        rw [if_neg fun hh => c1 hh.1]
      rw [hst] at hstep
      repeat (first | refine RL.vv ?_ | refine RL.p ?_ | refine RL.nil ?_ | refine Sim.seq ?_ | refine Sim.region ?_ | refine Sim.block ?_ | refine Sim.skip ?_ | refine Sim.inBlock ?_ | refine Sim.exit rfl ?_ | refine Sim.condT rfl ?_ | refine Sim.condF rfl ?_)
      exact next3 (i + 1, fv2, sv) _ _ ⟨by first | omega | (simp only; omega), h312, by first | omega | (simp only; omega), hb13, hb14, hcv, by simp only; rw [hstep]; exact hof, by simp only; rw [hstep]; exact hos, hds⟩ (by first | omega | (simp only; omega)) sb
    by_cases c2 : o.type = h.type
    rotate_left
    · have hst : fldsStep p h acc q.field = acc := by
        unfold fldsStep
        rw [hom]
        simp only
        rw [if_neg fun hh => c2 hh.2.1]
      rw [hst] at hstep
      repeat (first | refine RL.vv ?_ | refine RL.p ?_ | refine RL.nil ?_ | refine Sim.seq ?_ | refine Sim.region ?_ | refine Sim.block ?_ | refine Sim.skip ?_ | refine Sim.inBlock ?_ | refine Sim.exit rfl ?_ | refine Sim.condT rfl ?_ | refine Sim.condF rfl ?_)
      exact next3 (i + 1, fv2, sv) _ _ ⟨by first | omega | (simp only; omega), h312, by first | omega | (simp only; omega), hb13, hb14, hcv, by simp only; rw [hstep]; exact hof, by simp only; rw [hstep]; exact hos, hds⟩ (by first | omega | (simp only; omega)) sb
    obtain ⟨f1, f2, f3, rfl⟩ := hof.sh
    obtain ⟨s1, s2, s3, rfl⟩ := hos.sh
    have ha14 := hb14.at
    repeat (first | refine RL.vv ?_ | refine RL.p ?_ | refine RL.nil ?_ | refine Sim.seq ?_ | refine Sim.region ?_ | refine Sim.block ?_ | refine Sim.skip ?_ | refine Sim.inBlock ?_ | refine Sim.exit rfl ?_ | refine Sim.condT rfl ?_ | refine Sim.condF rfl ?_)
    refine RL.cs (Contains_Str o.field w12 ((hof.no (S' := Nn)).sl (S' := fun _ => True) (fun _ h _ _ => h.elim) fun _ _ => trivial)) ?_
    by_cases c3 : 0 ≤ strAt (acc.map (·.1)) o.field
    · have hst : fldsStep p h acc q.field = acc := by
        unfold fldsStep
        rw [hom]
        simp only
        rw [if_neg fun hh => hh.2.2 (strAt_mem.1 c3)]
      rw [hst] at hstep
      rw [decide_eq_true c3]
      repeat (first | refine RL.vv ?_ | refine RL.p ?_ | refine RL.nil ?_ | refine Sim.seq ?_ | refine Sim.region ?_ | refine Sim.block ?_ | refine Sim.skip ?_ | refine Sim.inBlock ?_ | refine Sim.exit rfl ?_ | refine Sim.condT rfl ?_ | refine Sim.condF rfl ?_)
      exact next3 (i + 1, .slice f1 f2 f3, .slice s1 s2 s3) _ _ ⟨by first | omega | (simp only; omega), h312, by first | omega | (simp only; omega), hb13, hb14, hcv, by simp only; rw [hstep]; exact hof, by simp only; rw [hstep]; exact hos, hds⟩ (by first | omega | (simp only; omega)) sb
    have hst : fldsStep p h acc q.field = acc ++ [(o.field, q.field)] := by
      unfold fldsStep
      rw [hom]
      simp only
      rw [if_pos ⟨c1, c2, fun hh => c3 (strAt_mem.2 hh)⟩]
    rw [hst] at hstep
    rw [decide_eq_false c3]
    clear ha19 ha13 ha14
    repeat (first | refine RL.vv ?_ | refine RL.p ?_ | refine RL.nil ?_ | refine Sim.seq ?_ | refine Sim.region ?_ | refine Sim.block ?_ | refine Sim.skip ?_ | refine Sim.inBlock ?_ | refine Sim.exit rfl ?_ | refine Sim.condT rfl ?_ | refine Sim.condF rfl ?_)
    have hne1 : ∀ k, (k < w6.heap.size ∨ w7.heap.size ≤ k) → some k ≠ Value.ownBlock (.slice f1 f2 f3) := fun k hk => by
      rcases hk with hk | hk
      · exact hof.ne' hk
      · exact hof7.ne hk
    have hne2 : ∀ k, (k < w6.heap.size ∨ w7.heap.size ≤ k) → some k ≠ Value.ownBlock (.slice s1 s2 s3) := fun k hk => by
      rcases hk with hk | hk
      · exact hos.ne' hk
      · exact hos7.ne hk
    refine Sim.cutX (σ := Value × Value) (fun st => [(0, .pointer (some ⟨gb, 0, none⟩)), (1, .pointer (some ⟨pb, po, none⟩)), (2, .slice ka keys.length kc), (3, .slice (some ⟨kb, ko, none⟩) picks.length qc), (9, .map (some b9)), (42, .slice (some ⟨hb, ho, none⟩) p.homes.length hc), (43, .int .i64 (p.homes.length : Int)), (44, .int .i64 (j : Int)), (13, .pointer (some ⟨b13, 0, none⟩)), (14, .pointer (some ⟨b14, 0, none⟩)), (55, .slice (some ⟨kb, ko, none⟩) picks.length qc), (56, .int .i64 (picks.length : Int)), (57, .int .i64 (i : Int)), (15, st.2)])
      (fun st w' => Up w3 w' ∧ w6.heap.size ≤ w'.heap.size ∧ Box w' b13 89 [.int .i64 h.service, .string h.type, .string h.field] ∧ Box w' b14 52 [.int .i64 h.service, .string h.type, .slice ca keys.length cc, st.1] ∧ SliceOf strLay (fun b => (w3.heap.size ≤ b ∧ b ≠ b14) ∧ b < w6.heap.size) w' (.slice ca keys.length cc) keys ∧
        Own strLay 9 w6.heap.size Nn w' st.1 (acc.map (·.1) ++ [o.field]) ∧ Own strLay 9 w6.heap.size Nn w' st.2 (acc.map (·.2) ++ [q.field]) ∧ (∀ g, st.1.ownBlock = some g → st.2.ownBlock ≠ some g)) (fun k' next => ?_) ?_
    · have h2 : Up w3 w12.drew := h312.trans (Up.drew _)
      have hZ : w7.heap.size ≤ w12.drew.heap.size := hs712
      have hb13 := hb13.up (Up.drew w12)
      have hb14 := hb14.up (Up.drew w12)
      have hb17 := hb17.up (Up.drew w12)
      have hb19 := hb19.up (Up.drew w12)
      have hcv := hcv.up (Up.drew w12)
      have hof := hof.up (Up.drew w12)
      have hos := hos.up (Up.drew w12)
      have h1 : At w12.drew b14 0 [.int .i64 h.service, .string h.type, .slice ca keys.length cc, .slice f1 f2 f3] ∧ At w12.drew b19 0 [.int .i64 o.service, .string o.type, .string o.field] := ⟨hb14.at, hb19.at⟩
      have hS2 : Up w3 w12.drew ∧ At w12.drew b17 0 [.string q.as, .string q.field, .slice k1 q.picks.length k2] := ⟨h2, hb17.at⟩
      refine Sim.ordD [12] (fun wq => At wq b14 0 [.int .i64 h.service, .string h.type, .slice ca keys.length cc, .slice f1 f2 f3] ∧ At wq b19 0 [.int .i64 o.service, .string o.type, .string o.field]) (fun wq => Up w3 wq ∧ At wq b17 0 [.string q.as, .string q.field, .slice k1 q.picks.length k2]) ?_ mixed
      refine RD.tk 0 ?_
      refine RD.tk 1 ?_ (hy := fun wq hq => y_loadF rfl hq.1 rfl)
      refine RD.tk 2 ?_
      refine RD.tk 3 ?_ (hy := fun wq hq => y_loadF rfl hq.2 rfl)
      refine RD.tm 6 ?_
      refine RD.tm 7 ?_
      refine RD.tm 8 ?_ (hy := fun wq hq => y_loadF rfl hq.2 rfl)
      clear h1 hS2
      refine RD.two 4 9 ?_ ?_
      · refine RL.bu (el := 9) [.string o.field] h2 fun b100 _ he100 _ h2 hh hb100 => ?_
        have hn100 : some b100 ≠ Value.ownBlock (.slice f1 f2 f3) := hne1 b100 (.inr (by omega))
        have hZ := Nat.le_trans hZ hh.size
        have hb13 := hb13.up hh
        have hb14 := hb14.up hh
        have hb17 := hb17.up hh
        have hb19 := hb19.up hh
        have hcv := hcv.up hh
        have hof := hof.up hh
        have hos := hos.up hh
        try have hb105 := hb105.up hh
        refine RL.od ⟨h2, hb17.at⟩ ⟨hb14.at, hb19.at⟩ ?_
        clear hh he100
        refine RD.two 5 9 ?_ ?_
        · refine RL.app (L := strLay) (el := 9) (S := fun _ => True) (B := w6.heap.size) (ys := [o.field]) h2 (hof.no (S' := fun _ => True)) (SliceOf.one hb100 ⟨trivial, hn100⟩ rfl) (by simp only [List.length_map, List.length_cons, List.length_nil]; omega) h36.size (by omega) fun fv3 _ h2 hof3 hg hvn => ?_
          have hof3 := hof3.no (S' := Nn)
          have hds3 : ∀ g, fv3.ownBlock = some g → Value.ownBlock (.slice s1 s2 s3) ≠ some g := fun g hg' hsv => by
            rcases hvn g hg' with hx | hx
            · exact hds g hx hsv
            · have := (hos.lt g hsv).2; omega
          have hb13 := hb13.grown hg (hne1 b13 (.inl hl13))
          have hb14 := hb14.grown hg (hne1 b14 (.inl hl14))
          have hb17 := hb17.grown hg (hne1 b17 (.inr hle17))
          have hb19 := hb19.grown hg (hne1 b19 (.inr hle19))
          have hcv := hcv.grown hg fun b hb => hne1 b (.inl hb.2)
          have hos := hos.grown hg (fun _ h => h.elim) fun g hg' e => hds g e.symm hg'
          try have hb105 := hb105.grown hg hn105
          have hZ := Nat.le_trans hZ hg.size
          clear hof hb100
          refine RL.od ⟨h2, hb17.at⟩ ⟨hb14.at, hb19.at⟩ ?_
          refine RD.tk 11 ?_ (h1 := ⟨hb14.at, hb19.at⟩) (h2 := ⟨h2, hb17.at⟩)
          clear hg hvn
          refine RD.one 9 ?_
          refine RL.bu (el := 9) [.string q.field] h2 fun b105 _ he105 _ h2 hh hb105 => ?_
          have hn105 : some b105 ≠ Value.ownBlock (.slice f1 f2 f3) := hne1 b105 (.inr (by omega))
          have hn105s : some b105 ≠ Value.ownBlock (.slice s1 s2 s3) := hne2 b105 (.inr (by omega))
          have hZ := Nat.le_trans hZ hh.size
          have hb13 := hb13.up hh
          have hb14 := hb14.up hh
          have hb17 := hb17.up hh
          have hb19 := hb19.up hh
          have hcv := hcv.up hh
          try have hof := hof.up hh
          try have hof3 := hof3.up hh
          have hos := hos.up hh
          try have hb100 := hb100.up hh
          refine RL.od ⟨h2, hb17.at⟩ ⟨hb14.at, hb19.at⟩ ?_
          clear hh he105
          refine RD.one 10 ?_
          refine RL.app (L := strLay) (el := 9) (S := fun _ => True) (B := w6.heap.size) (ys := [q.field]) h2 (hos.no (S' := fun _ => True)) (SliceOf.one hb105 ⟨trivial, hn105s⟩ rfl) (by simp only [List.length_map, List.length_cons, List.length_nil]; omega) h36.size (by omega) fun sv3 _ h2 hos3 hg hvn => ?_
          have hos3 := hos3.no (S' := Nn)
          have hds4 : ∀ g, fv3.ownBlock = some g → sv3.ownBlock ≠ some g := fun g hg' hsv => by
            rcases hvn g hsv with hx | hx
            · exact hds3 g hg' hx
            · have := (hof3.lt g hg').2; omega
          have hb13 := hb13.grown hg (hne2 b13 (.inl hl13))
          have hb14 := hb14.grown hg (hne2 b14 (.inl hl14))
          have hb17 := hb17.grown hg (hne2 b17 (.inr hle17))
          have hb19 := hb19.grown hg (hne2 b19 (.inr hle19))
          have hcv := hcv.grown hg fun b hb => hne2 b (.inl hb.2)
          have hof3 := hof3.grown hg (fun _ h => h.elim) fun g hg' e => hds3 g hg' e.symm
          have hZ := Nat.le_trans hZ hg.size
          refine RL.od ⟨h2, hb17.at⟩ ⟨hb14.at, hb19.at⟩ ?_
          obtain ⟨x1, x2, x3, rfl⟩ := hof3.sh
          refine RD.one 12 ?_
          refine RL.st h2 hb14 hle14 fun w13 h2 hbt hb14 => ?_
          have hb17 := hb17.but hbt (by omega)
          refine RL.ox ⟨h2, hb17.at⟩ ?_
          refine RD.on 13 ⟨h2, hb17.at⟩ ?_
          refine RD.done (RL.nil ?_)
          exact next (.slice x1 x2 x3, sv3) _ _ ⟨h2, by have := hbt.size; omega, hb13.but hbt hn14.symm, hb14, hcv.bt hbt fun k hk => hk.1.2, hof3.but hbt (fun _ h => h.elim) (fun g hg => by have := (hof3.lt g hg).1; omega), hos3.but hbt (fun _ h => h.elim) (fun g hg => by have := (hos3.lt g hg).1; omega), hds4⟩ sb
        · refine RL.bu (el := 9) [.string q.field] h2 fun b105 _ he105 _ h2 hh hb105 => ?_
          have hn105 : some b105 ≠ Value.ownBlock (.slice f1 f2 f3) := hne1 b105 (.inr (by omega))
          have hn105s : some b105 ≠ Value.ownBlock (.slice s1 s2 s3) := hne2 b105 (.inr (by omega))
          have hZ := Nat.le_trans hZ hh.size
          have hb13 := hb13.up hh
          have hb14 := hb14.up hh
          have hb17 := hb17.up hh
          have hb19 := hb19.up hh
          have hcv := hcv.up hh
          try have hof := hof.up hh
          try have hof3 := hof3.up hh
          have hos := hos.up hh
          try have hb100 := hb100.up hh
          refine RL.od ⟨h2, hb17.at⟩ ⟨hb14.at, hb19.at⟩ ?_
          clear hh he105
          refine RD.one 5 ?_
          refine RL.app (L := strLay) (el := 9) (S := fun _ => True) (B := w6.heap.size) (ys := [o.field]) h2 (hof.no (S' := fun _ => True)) (SliceOf.one hb100 ⟨trivial, hn100⟩ rfl) (by simp only [List.length_map, List.length_cons, List.length_nil]; omega) h36.size (by omega) fun fv3 _ h2 hof3 hg hvn => ?_
          have hof3 := hof3.no (S' := Nn)
          have hds3 : ∀ g, fv3.ownBlock = some g → Value.ownBlock (.slice s1 s2 s3) ≠ some g := fun g hg' hsv => by
            rcases hvn g hg' with hx | hx
            · exact hds g hx hsv
            · have := (hos.lt g hsv).2; omega
          have hb13 := hb13.grown hg (hne1 b13 (.inl hl13))
          have hb14 := hb14.grown hg (hne1 b14 (.inl hl14))
          have hb17 := hb17.grown hg (hne1 b17 (.inr hle17))
          have hb19 := hb19.grown hg (hne1 b19 (.inr hle19))
          have hcv := hcv.grown hg fun b hb => hne1 b (.inl hb.2)
          have hos := hos.grown hg (fun _ h => h.elim) fun g hg' e => hds g e.symm hg'
          try have hb105 := hb105.grown hg hn105
          have hZ := Nat.le_trans hZ hg.size
          clear hof hb100
          refine RL.od ⟨h2, hb17.at⟩ ⟨hb14.at, hb19.at⟩ ?_
          refine RD.tk 11 ?_ (h1 := ⟨hb14.at, hb19.at⟩) (h2 := ⟨h2, hb17.at⟩)
          clear hg hvn
          refine RD.one 10 ?_
          refine RL.app (L := strLay) (el := 9) (S := fun _ => True) (B := w6.heap.size) (ys := [q.field]) h2 (hos.no (S' := fun _ => True)) (SliceOf.one hb105 ⟨trivial, hn105s⟩ rfl) (by simp only [List.length_map, List.length_cons, List.length_nil]; omega) h36.size (by omega) fun sv3 _ h2 hos3 hg hvn => ?_
          have hos3 := hos3.no (S' := Nn)
          have hds4 : ∀ g, fv3.ownBlock = some g → sv3.ownBlock ≠ some g := fun g hg' hsv => by
            rcases hvn g hsv with hx | hx
            · exact hds3 g hg' hx
            · have := (hof3.lt g hg').2; omega
          have hb13 := hb13.grown hg (hne2 b13 (.inl hl13))
          have hb14 := hb14.grown hg (hne2 b14 (.inl hl14))
          have hb17 := hb17.grown hg (hne2 b17 (.inr hle17))
          have hb19 := hb19.grown hg (hne2 b19 (.inr hle19))
          have hcv := hcv.grown hg fun b hb => hne2 b (.inl hb.2)
          have hof3 := hof3.grown hg (fun _ h => h.elim) fun g hg' e => hds3 g hg' e.symm
          have hZ := Nat.le_trans hZ hg.size
          refine RL.od ⟨h2, hb17.at⟩ ⟨hb14.at, hb19.at⟩ ?_
          obtain ⟨x1, x2, x3, rfl⟩ := hof3.sh
          refine RD.one 12 ?_
          refine RL.st h2 hb14 hle14 fun w13 h2 hbt hb14 => ?_
          have hb17 := hb17.but hbt (by omega)
          refine RL.ox ⟨h2, hb17.at⟩ ?_
          refine RD.on 13 ⟨h2, hb17.at⟩ ?_
          refine RD.done (RL.nil ?_)
          exact next (.slice x1 x2 x3, sv3) _ _ ⟨h2, by have := hbt.size; omega, hb13.but hbt hn14.symm, hb14, hcv.bt hbt fun k hk => hk.1.2, hof3.but hbt (fun _ h => h.elim) (fun g hg => by have := (hof3.lt g hg).1; omega), hos3.but hbt (fun _ h => h.elim) (fun g hg => by have := (hos3.lt g hg).1; omega), hds4⟩ sb
      · refine RL.bu (el := 9) [.string q.field] h2 fun b105 _ he105 _ h2 hh hb105 => ?_
        have hn105 : some b105 ≠ Value.ownBlock (.slice f1 f2 f3) := hne1 b105 (.inr (by omega))
        have hn105s : some b105 ≠ Value.ownBlock (.slice s1 s2 s3) := hne2 b105 (.inr (by omega))
        have hZ := Nat.le_trans hZ hh.size
        have hb13 := hb13.up hh
        have hb14 := hb14.up hh
        have hb17 := hb17.up hh
        have hb19 := hb19.up hh
        have hcv := hcv.up hh
        try have hof := hof.up hh
        try have hof3 := hof3.up hh
        have hos := hos.up hh
        try have hb100 := hb100.up hh
        refine RL.od ⟨h2, hb17.at⟩ ⟨hb14.at, hb19.at⟩ ?_
        clear hh he105
        refine RD.one 4 ?_
        refine RL.bu (el := 9) [.string o.field] h2 fun b100 _ he100 _ h2 hh hb100 => ?_
        have hn100 : some b100 ≠ Value.ownBlock (.slice f1 f2 f3) := hne1 b100 (.inr (by omega))
        have hZ := Nat.le_trans hZ hh.size
        have hb13 := hb13.up hh
        have hb14 := hb14.up hh
        have hb17 := hb17.up hh
        have hb19 := hb19.up hh
        have hcv := hcv.up hh
        have hof := hof.up hh
        have hos := hos.up hh
        try have hb105 := hb105.up hh
        refine RL.od ⟨h2, hb17.at⟩ ⟨hb14.at, hb19.at⟩ ?_
        clear hh he100
        refine RD.one 5 ?_
        refine RL.app (L := strLay) (el := 9) (S := fun _ => True) (B := w6.heap.size) (ys := [o.field]) h2 (hof.no (S' := fun _ => True)) (SliceOf.one hb100 ⟨trivial, hn100⟩ rfl) (by simp only [List.length_map, List.length_cons, List.length_nil]; omega) h36.size (by omega) fun fv3 _ h2 hof3 hg hvn => ?_
        have hof3 := hof3.no (S' := Nn)
        have hds3 : ∀ g, fv3.ownBlock = some g → Value.ownBlock (.slice s1 s2 s3) ≠ some g := fun g hg' hsv => by
          rcases hvn g hg' with hx | hx
          · exact hds g hx hsv
          · have := (hos.lt g hsv).2; omega
        have hb13 := hb13.grown hg (hne1 b13 (.inl hl13))
        have hb14 := hb14.grown hg (hne1 b14 (.inl hl14))
        have hb17 := hb17.grown hg (hne1 b17 (.inr hle17))
        have hb19 := hb19.grown hg (hne1 b19 (.inr hle19))
        have hcv := hcv.grown hg fun b hb => hne1 b (.inl hb.2)
        have hos := hos.grown hg (fun _ h => h.elim) fun g hg' e => hds g e.symm hg'
        try have hb105 := hb105.grown hg hn105
        have hZ := Nat.le_trans hZ hg.size
        clear hof hb100
        refine RL.od ⟨h2, hb17.at⟩ ⟨hb14.at, hb19.at⟩ ?_
        refine RD.tk 11 ?_ (h1 := ⟨hb14.at, hb19.at⟩) (h2 := ⟨h2, hb17.at⟩)
        clear hg hvn
        refine RD.one 10 ?_
        refine RL.app (L := strLay) (el := 9) (S := fun _ => True) (B := w6.heap.size) (ys := [q.field]) h2 (hos.no (S' := fun _ => True)) (SliceOf.one hb105 ⟨trivial, hn105s⟩ rfl) (by simp only [List.length_map, List.length_cons, List.length_nil]; omega) h36.size (by omega) fun sv3 _ h2 hos3 hg hvn => ?_
        have hos3 := hos3.no (S' := Nn)
        have hds4 : ∀ g, fv3.ownBlock = some g → sv3.ownBlock ≠ some g := fun g hg' hsv => by
          rcases hvn g hsv with hx | hx
          · exact hds3 g hg' hx
          · have := (hof3.lt g hg').2; omega
        have hb13 := hb13.grown hg (hne2 b13 (.inl hl13))
        have hb14 := hb14.grown hg (hne2 b14 (.inl hl14))
        have hb17 := hb17.grown hg (hne2 b17 (.inr hle17))
        have hb19 := hb19.grown hg (hne2 b19 (.inr hle19))
        have hcv := hcv.grown hg fun b hb => hne2 b (.inl hb.2)
        have hof3 := hof3.grown hg (fun _ h => h.elim) fun g hg' e => hds3 g hg' e.symm
        have hZ := Nat.le_trans hZ hg.size
        refine RL.od ⟨h2, hb17.at⟩ ⟨hb14.at, hb19.at⟩ ?_
        obtain ⟨x1, x2, x3, rfl⟩ := hof3.sh
        refine RD.one 12 ?_
        refine RL.st h2 hb14 hle14 fun w13 h2 hbt hb14 => ?_
        have hb17 := hb17.but hbt (by omega)
        refine RL.ox ⟨h2, hb17.at⟩ ?_
        refine RD.on 13 ⟨h2, hb17.at⟩ ?_
        refine RD.done (RL.nil ?_)
        exact next (.slice x1 x2 x3, sv3) _ _ ⟨h2, by have := hbt.size; omega, hb13.but hbt hn14.symm, hb14, hcv.bt hbt fun k hk => hk.1.2, hof3.but hbt (fun _ h => h.elim) (fun g hg => by have := (hof3.lt g hg).1; omega), hos3.but hbt (fun _ h => h.elim) (fun g hg => by have := (hos3.lt g hg).1; omega), hds4⟩ sb
    rintro ⟨fv4, sv4⟩ w13 ⟨h313, hs13, hb13, hb14, hcv, hof, hos, hds⟩
    simp only at hb14 hof hos hds ⊢
    repeat (first | refine RL.vv ?_ | refine RL.p ?_ | refine RL.nil ?_ | refine Sim.seq ?_ | refine Sim.region ?_ | refine Sim.block ?_ | refine Sim.skip ?_ | refine Sim.inBlock ?_ | refine Sim.exit rfl ?_ | refine Sim.condT rfl ?_ | refine Sim.condF rfl ?_)
    exact next3 (i + 1, fv4, sv4) _ _ ⟨by first | omega | (simp only; omega), h313, hs13, hb13, hb14, hcv, by simp only; rw [hstep, List.map_append]; exact hof, by simp only; rw [hstep, List.map_append]; exact hos, hds⟩ (by first | omega | (simp only; omega)) sb
  have hiq : i = picks.length := by omega
  subst hiq
  rw [List.take_length] at hof hos
  clear next3
  have hfl60 : (fldsFor p h (picks.map Pck.field)).length ≤ 60 := by
    have : ∀ (ns : List Str) (acc : List (Str × Str)), (ns.foldl (fldsStep p h) acc).length ≤ acc.length + ns.length := fun ns => by
      induction ns with
      | nil => intro acc; simp
      | cons n ns ih =>
        intro acc
        rw [List.foldl_cons]
        have := ih (fldsStep p h acc n)
        have h2 : (fldsStep p h acc n).length ≤ acc.length + 1 := by
          unfold fldsStep
          split
          · split <;> simp
          · omega
        simp only [List.length_cons]
        omega
    have := this (picks.map Pck.field) []
    unfold fldsFor
    simp only [List.length_nil, List.length_map] at this
    omega
  have hfs := (hof.no (S' := Nn)).sl (S' := fun b => w6.heap.size ≤ b ∧ b < w7.heap.size) (fun _ h _ _ => h.elim) fun g hg => ⟨(hof.lt g hg).1, (hof.lt g hg).2⟩
  have hss := (hos.no (S' := Nn)).sl (S' := fun b => w6.heap.size ≤ b ∧ b < w7.heap.size) (fun _ h _ _ => h.elim) fun g hg => ⟨(hos.lt g hg).1, (hos.lt g hg).2⟩
  have hks := hcv.mono (S' := fun b => (w3.heap.size ≤ b ∧ b ≠ b14) ∧ b < w7.heap.size) fun b hb => ⟨hb.1, by omega⟩
  have hs36 := h36.size
  have hfs := hfs.mono (S' := fun b => (w3.heap.size ≤ b ∧ b ≠ b14) ∧ b < w7.heap.size) fun b hb => ⟨⟨by omega, by omega⟩, hb.2⟩
  have hss := hss.mono (S' := fun b => (w3.heap.size ≤ b ∧ b ≠ b14) ∧ b < w7.heap.size) fun b hb => ⟨⟨by omega, by omega⟩, hb.2⟩
  clear hof hos hcv hds hs67 hl13 hb13
  obtain ⟨f1, f3, rfl, _⟩ := id hfs
  obtain ⟨s1, s3, rfl, _⟩ := id hss
  have hgb7 := hgb3.up h37
  have hanswer : answerM l (rqFor p keys picks h) = (⟨keys.map fun k => (ansKey s (rqFor p keys picks h) k).1, keys.map fun k => (ansKey s (rqFor p keys picks h) k).2⟩, 0) := by
    unfold answerM
    rw [if_pos hright]
    have hhs : l[(rqFor p keys picks h).service.toNat]? = some s := hhs
    rw [hhs]
    rfl
  repeat (first | refine RL.vv ?_ | refine RL.p ?_ | refine RL.nil ?_ | refine Sim.seq ?_ | refine Sim.region ?_ | refine Sim.block ?_ | refine Sim.skip ?_ | refine Sim.inBlock ?_ | refine Sim.exit rfl ?_ | refine Sim.condT rfl ?_ | refine Sim.condF rfl ?_)
  refine Sim.cutX (σ := Nat × Value × Value) (fun st => [(0, .pointer (some ⟨gb, 0, none⟩)), (1, .pointer (some ⟨pb, po, none⟩)), (2, .slice ka keys.length kc), (3, .slice qa picks.length qc), (9, .map (some b9)), (42, .slice (some ⟨hb, ho, none⟩) p.homes.length hc), (43, .int .i64 (p.homes.length : Int)), (44, .int .i64 (j : Int)), (14, .pointer (some ⟨b14, 0, none⟩)), (15, .slice s1 ((fldsFor p h (picks.map Pck.field)).map (·.2)).length s3), (20, .pointer (some ⟨st.1, 0, none⟩))])
    (fun st w' => Up w3 w' ∧ Up w7 w' ∧ w7.heap.size ≤ st.1 ∧ Box w' st.1 56 [st.2.1, st.2.2] ∧ SliceOf boolLay (fun b => w7.heap.size ≤ b ∧ b ≠ st.1) w' st.2.1 (answerM l (rqFor p keys picks h)).1.found ∧ SliceOf valLay.slice (fun b => w7.heap.size ≤ b ∧ b ≠ st.1) w' st.2.2 (answerM l (rqFor p keys picks h)).1.vals) (fun k' next => ?_) ?_
  · have h0 := Up.drew w7
    have hag := hgb7.at
    have ha14 := hb14.at
    refine Sim.ord (Up w7) ?_
    refine RO.tk 0 ?_
    refine RO.tk 1 ?_
    refine RO.tk 2 ?_
    refine RO.tk 3 ?_
    refine RO.tk 4 ?_
    have hcall : ∀ w8, Up w7 w8 → Calls Try.prog 26 #[lv, .agg #[.int .i64 h.service, .string h.type, .slice ca keys.length cc, .slice f1 ((fldsFor p h (picks.map Pck.field)).map (·.1)).length f3]] w8 fun en w' => ∃ a b, en = .returned (.tuple #[.agg #[a, b], .int .i64 (answerM l (rqFor p keys picks h)).2]) ∧ Up w8 w' ∧ ReplyAt 0 w8.heap.size w' a b (answerM l (rqFor p keys picks h)).1 := fun w8 h78 =>
      SAnswer_any (rqFor p keys picks h) w8 (hI.svcs.up ((hu3.trans h37).trans h78)) (hks.up h78) (hfs.up h78) hI.okS (by show keys.length * 16 ≤ _; omega)
    refine RO.two 5 9 ?_ ?_
    · refine RL.cx (hcall _ h0) ?_
      rintro _ w8 ⟨a, b, rfl, hh, hra⟩
      refine ⟨_, rfl, ?_⟩
      have h1s := h0.size
      have h0 := h0.trans hh
      have hl1 := hra.1.lt
      have hl2 := hra.2.1.lt
      have hfa := (hra.1).sl (S' := fun k => w7.heap.size ≤ k ∧ k < w8.heap.size) (fun _ h _ _ => h.elim) fun g hg => ⟨by have := (hl1 g hg).1; omega, (hl1 g hg).2⟩
      have hva := (hra.2.1).sl (S' := fun k => w7.heap.size ≤ k ∧ k < w8.heap.size) (fun k hk hlt _ => ⟨by omega, hlt⟩) fun g hg => ⟨by have := (hl2 g hg).1; omega, (hl2 g hg).2⟩
      obtain ⟨a1, a2, a3, rfl⟩ := hra.1.sh
      obtain ⟨c1, c2, c3, rfl⟩ := hra.2.1.sh
      refine RL.ord h0 ?_
      refine RO.tk 6 ?_
      refine RO.tk 7 ?_
      refine RO.tk 8 ?_
      refine RO.one 9 ?_
      refine RL.al h0 fun b20 w9 he20 hle20 h0 hh2 hb20 => ?_
      refine RL.ord h0 ?_
      refine RO.one 10 ?_
      refine RL.st h0 hb20 hle20 fun w10 h0 hbt hb20 => ?_
      refine RL.ord h0 ?_
      refine RO.tk 11 ?_
      refine RO.done (RL.nil ?_)
      exact next (b20, .slice a1 a2 a3, .slice c1 c2 c3) _ _ ⟨h37.trans h0, h0, hle20, hb20, ((hfa.up hh2).bt hbt fun k hk => by omega).mono fun k hk => ⟨hk.1, by omega⟩, ((hva.up hh2).bt hbt fun k hk => by omega).mono fun k hk => ⟨hk.1, by omega⟩⟩ sb
    · refine RL.al h0 fun b20 w8 he20 hle20 h0 hh2 hb20 => ?_
      have hl20 := hb20.lt
      refine RL.ord h0 ?_
      refine RO.one 5 ?_
      refine RL.cx (hcall _ h0) ?_
      rintro _ w9 ⟨a, b, rfl, hh, hra⟩
      refine ⟨_, rfl, ?_⟩
      have h1s := h0.size
      have h0 := h0.trans hh
      have hb20 := hb20.up hh
      have hl1 := hra.1.lt
      have hl2 := hra.2.1.lt
      have hfa := (hra.1).sl (S' := fun k => w8.heap.size ≤ k) (fun _ h _ _ => h.elim) fun g hg => (hl1 g hg).1
      have hva := (hra.2.1).sl (S' := fun k => w8.heap.size ≤ k) (fun k hk _ _ => by omega) fun g hg => (hl2 g hg).1
      obtain ⟨a1, a2, a3, rfl⟩ := hra.1.sh
      obtain ⟨c1, c2, c3, rfl⟩ := hra.2.1.sh
      refine RL.ord h0 ?_
      refine RO.tk 6 ?_
      refine RO.tk 7 ?_
      refine RO.tk 8 ?_
      refine RO.one 10 ?_
      refine RL.st h0 hb20 hle20 fun w10 h0 hbt hb20 => ?_
      refine RL.ord h0 ?_
      refine RO.tk 11 ?_
      refine RO.done (RL.nil ?_)
      exact next (b20, .slice a1 a2 a3, .slice c1 c2 c3) _ _ ⟨h37.trans h0, h0, hle20, hb20, (hfa.bt hbt fun k hk => by omega).mono fun k hk => ⟨by omega, by omega⟩, (hva.bt hbt fun k hk => by omega).mono fun k hk => ⟨by omega, by omega⟩⟩ sb
  rintro ⟨b20, fa2, va2⟩ w8 ⟨h38, h78, hle20, hb20, hfa, hva⟩
  simp only at hle20 hb20 hfa hva ⊢
  have hgb8 := hgb3.up h38
  have hb14 := hb14.up h78
  have hks := hks.up h78
  have hfs := hfs.up h78
  have hss := hss.up h78
  have hask8 := hask3.up h38
  have hr8 := hr.up h38
  have hu8 := hu3.trans h38
  have hl20 := hb20.lt
  have hs37 := h37.size
  clear hgb7 h37 hgb3
  have hag := hgb8.at
  have ha14 := hb14.at
  obtain ⟨qa1, qn1, qc1, rfl⟩ := hask8.sh
  repeat (first | refine RL.vv ?_ | refine RL.p ?_ | refine RL.nil ?_ | refine Sim.seq ?_ | refine Sim.region ?_ | refine Sim.block ?_ | refine Sim.skip ?_ | refine Sim.inBlock ?_ | refine Sim.exit rfl ?_ | refine Sim.condT rfl ?_ | refine Sim.condF rfl ?_)
  have hSq3 : ∀ b, w3.heap.size ≤ b → Tq b := fun b hb => hT3 b (hSq2 b (by have := hE.size; omega)) (by omega)
  have hs38 := h38.size
  have hs78 := h78.size
  have hEs := hE.size
  have hgne : ∀ x, Value.ownBlock (.slice qa1 qn1 qc1) = some x → x ≠ gb := fun x hx => by
    rcases havx x hx with h1 | h1
    · exact hgq x h1
    · omega
  have hgne' : some gb ≠ Value.ownBlock (.slice qa1 qn1 qc1) := fun e => hgne gb e.symm rfl
  have hqne : ∀ b, w3.heap.size ≤ b → some b ≠ Value.ownBlock (.slice qa1 qn1 qc1) := fun b hb => hask3.ne hb
  refine Sim.cutX (σ := Value) (fun st => [(0, .pointer (some ⟨gb, 0, none⟩)), (1, .pointer (some ⟨pb, po, none⟩)), (2, .slice ka keys.length kc), (3, .slice qa picks.length qc), (9, .map (some b9)), (42, .slice (some ⟨hb, ho, none⟩) p.homes.length hc), (43, .int .i64 (p.homes.length : Int)), (44, .int .i64 (j : Int)), (15, .slice s1 ((fldsFor p h (picks.map Pck.field)).map (·.2)).length s3), (20, .pointer (some ⟨b20, 0, none⟩))])
    (fun st w' => Els (fun b => b = gb ∨ some b = av0.ownBlock) w w' ∧ Up w0 w' ∧ w8.heap.size ≤ w'.heap.size ∧ Box w' gb 172 [lv, pv, st] ∧ Own rqLay 52 w0.heap.size Tq w' st (asked ++ (p.homes.take (j + 1)).map (rqFor p keys picks)) ∧ (∀ x, st.ownBlock = some x → av0.ownBlock = some x ∨ Z ≤ x) ∧ (∀ x, st.ownBlock = some x → x < w3.heap.size ∨ w8.heap.size ≤ x) ∧
      RowsAt w.heap.size Z (fun b => Z ≤ b ∧ some b ≠ st.ownBlock) w' b9 keys keys.length bs (fun i => rowT l (p.homes.take j) (keys.getD i ⟨#[]⟩)) (fun i => rowF l p (picks.map Pck.field) (p.homes.take j) (keys.getD i ⟨#[]⟩)) ∧
      SliceOf strLay (fun b => w3.heap.size ≤ b ∧ b < w8.heap.size) w' (.slice s1 ((fldsFor p h (picks.map Pck.field)).map (·.2)).length s3) ((fldsFor p h (picks.map Pck.field)).map (·.2)) ∧ Box w' b20 56 [fa2, va2] ∧
      SliceOf boolLay (fun b => w3.heap.size ≤ b ∧ b < w8.heap.size ∧ b ≠ b20) w' fa2 (answerM l (rqFor p keys picks h)).1.found ∧ SliceOf valLay.slice (fun b => w3.heap.size ≤ b ∧ b < w8.heap.size ∧ b ≠ b20) w' va2 (answerM l (rqFor p keys picks h)).1.vals) (fun k' next => ?_) ?_
  · have hd := Up.drew w8
    have h2 : Up w0 w8.drew := hu8.trans hd
    have hgb := hgb8.up hd
    have hb14 := hb14.up hd
    have hask := hask8.up hd
    have h1 : At w8.drew gb 0 [lv, pv, .slice qa1 qn1 qc1] ∧ At w8.drew b14 0 [.int .i64 h.service, .string h.type, .slice ca keys.length cc, .slice f1 ((fldsFor p h (picks.map Pck.field)).map (·.1)).length f3] := ⟨hgb.at, hb14.at⟩
    refine Sim.ordD [10] (fun wq => At wq gb 0 [lv, pv, .slice qa1 qn1 qc1] ∧ At wq b14 0 [.int .i64 h.service, .string h.type, .slice ca keys.length cc, .slice f1 ((fldsFor p h (picks.map Pck.field)).map (·.1)).length f3]) (Up w0) ?_ mixed
    refine RD.tk 0 ?_
    refine RD.tk 1 ?_
    refine RD.tk 2 ?_
    refine RD.tk 3 ?_
    refine RD.tk 4 ?_ (hy := fun wq hq => y_loadF rfl hq.1 rfl)
    refine RD.tk 5 ?_ (hy := fun wq hq => y_loadA rfl hq.2 rfl)
    have h5 : p.homes.length ≤ 5 := Nat.le_trans (homes_len hI.all (by rw [← hI.eq]; exact hI.mem)) (wrongS_iff.1 (allM_canon hI.all).2.1).1
    refine RD.one 6 ?_
    refine RL.bu (el := 52) [.int .i64 h.service, .string h.type, .slice ca keys.length cc, .slice f1 ((fldsFor p h (picks.map Pck.field)).map (·.1)).length f3] h2 fun b124 w9 he124 _ h2 hh hb124 => ?_
    have h89 := hd.trans hh
    have hgb := hgb.up hh
    have hb14 := hb14.up hh
    have hask := hask.up hh
    refine RL.od h2 ⟨hgb.at, hb14.at⟩ ?_
    refine RD.one 7 ?_
    have hs89 := h89.size
    have he124' : w8.heap.size ≤ b124 := by rw [he124]; exact hd.size
    have hel : rqLay.is (fun b => Tq b ∧ some b ≠ Value.ownBlock (.slice qa1 qn1 qc1)) w9 [.int .i64 h.service, .string h.type, .slice ca keys.length cc, .slice f1 ((fldsFor p h (picks.map Pck.field)).map (·.1)).length f3] (rqFor p keys picks h) := ⟨_, _, rfl, (hks.up h89).mono fun b hb => ⟨hSq3 b hb.1.1, hqne b hb.1.1⟩, (hfs.up h89).mono fun b hb => ⟨hSq3 b hb.1.1, hqne b hb.1.1⟩⟩
    refine RL.app (L := rqLay) (el := 52) (S := Tq) (B := w0.heap.size) (ys := [rqFor p keys picks h]) h2 hask (SliceOf.one hb124 ⟨hSq3 _ (by omega), hqne _ (by omega)⟩ hel) (by simp only [List.length_append, List.length_map, List.length_take, List.length_cons, List.length_nil]; omega) (Nat.le_refl _) h2.size fun av' w10 h2 hask2 hg hvn => ?_
    have hgb := hgb.grown hg hgne'
    have hb14 := hb14.grown hg (hqne b14 hle14)
    refine RL.od h2 ⟨hgb.at, hb14.at⟩ ?_
    refine RD.tm 8 ?_ (h1 := ⟨hgb.at, hb14.at⟩)
    refine RD.tm 9 ?_ (h1 := ⟨hgb.at, hb14.at⟩)
    refine RD.one 10 ?_
    obtain ⟨u1, u2, u3, rfl⟩ := hask2.sh
    refine RL.st h2 hgb hg0 fun w11 h2 hbt hgb => ?_
    refine RL.ox h2 ?_
    refine RD.done (RL.nil ?_)
    have hgs := hg.size
    have hbs := hbt.size
    have hE11 : Els (fun b => b = gb ∨ some b = av0.ownBlock) w w11 := ((hE.trans (.of_up (h38.trans h89))).trans' (X' := fun b => some b = Value.ownBlock (.slice qa1 qn1 qc1)) (.of_grown hg fun g hg => hg.symm) fun b hb hx => by
      rcases havx b hx.symm with h1 | h1
      · exact .inr h1.symm
      · omega).trans (.of_but hbt (.inl rfl))
    have hk9 : Keep (fun b => b ≠ gb ∧ some b ≠ Value.ownBlock (.slice qa1 qn1 qc1)) w9 w11 := fun b hb hlt => (hbt.block b (by omega) hb.1).trans (hg.block b hlt hb.2)
    have hrow : ∀ b, w.heap.size ≤ b → b < Z → b ≠ gb ∧ some b ≠ Value.ownBlock (.slice qa1 qn1 qc1) := fun b h1 h2 => ⟨by omega, fun e => by
      rcases havx b e.symm with h3 | h3
      · have := (hask.lt b e.symm).2
        have h4 := (hask0.lt b h3).2
        omega
      · omega⟩
    have hnew : ∀ b, w3.heap.size ≤ b → b ≠ gb ∧ some b ≠ Value.ownBlock (.slice qa1 qn1 qc1) := fun b hb => ⟨by omega, hqne b hb⟩
    have hr11 := ((hr8.reF (F' := fun b => (Z ≤ b ∧ some b ≠ Value.ownBlock (.slice qa1 qn1 qc1)) ∧ b < w8.heap.size) fun b hb hlt => ⟨hb, hlt⟩).up h89).keep hk9 hrow fun b hb _ => ⟨by omega, hb.1.2⟩
    have hk9' : ∀ {S : Nat → Prop}, (∀ b, S b → w3.heap.size ≤ b) → Keep S w9 w11 := fun hS b hb hlt => hk9 b (hnew b (hS b hb)) hlt
    refine next (.slice u1 u2 u3) _ _ ⟨hE11, h2, by omega, hgb, ?_, fun x hx => ?_, fun x hx => ?_, hr11.reF fun b hb _ => ⟨hb.1.1, fun e => ?_⟩, ((hss.up h89).keep (hk9' fun b hb => hb.1.1)).mono fun b hb => ⟨hb.1.1, by omega⟩, (hb20.up h89).keep hk9 (hnew b20 (by omega)), ((hfa.old.up h89).keep (hk9' fun b hb => by omega)).mono fun b hb => ⟨by omega, hb.2, hb.1.2⟩, ((hva.old.up h89).keep (hk9' fun b hb => by omega)).mono fun b hb => ⟨by omega, hb.2, hb.1.2⟩⟩ sb
    · rw [htk, List.map_append, ← List.append_assoc]
      refine hask2.but hbt (fun b hb e => hSq (hT1 _ (by rw [← e]; exact hb))) fun x hx => ?_
      rcases hvn x hx with h1 | h1
      · exact hgne x h1
      · omega
    · rcases hvn x hx with h1 | h1
      · exact havx x h1
      · exact .inr (by omega)
    · rcases hvn x hx with h1 | h1
      · exact .inl (hask3.lt x h1).2
      · exact .inr (by omega)
    · rcases hvn b e.symm with h1 | h1
      · exact hb.1.2 h1.symm
      · have := hb.2; omega
  clear hE hask3 hr hgb8 hask8 hr8 hb20 hb14 hks hfs hss hfa hva hk3 havx hgne hgne' hqne
  rintro av2 w9 ⟨hE9, hu9, hs89, hgb9, hask9, havx, hav3, hr9, hss, hb20, hfa, hva⟩
  have hkA : SliceOf strLay (fun b => b < w.heap.size) w9 (.slice ka keys.length kc) keys := (hko.keep (hE9.keepS fun b hb _ h => by
    rcases h with h | h
    · exact hb.1.1 h
    · exact hb.1.2 h)).mono fun b hb => hb.2
  have hfw : ∀ k, findW l h k = thingM s.things h.type k := fun k => findW_at hhs
  rw [hanswer] at hfa hva
  change SliceOf boolLay _ w9 _ (keys.map fun k => (ansKey s (rqFor p keys picks h) k).1) at hfa
  change SliceOf valLay.slice _ w9 _ (keys.map fun k => (ansKey s (rqFor p keys picks h) k).2) at hva
  have hml1 : (keys.map fun k => (ansKey s (rqFor p keys picks h) k).1).length = keys.length := List.length_map _
  have hml2 : (keys.map fun k => (ansKey s (rqFor p keys picks h) k).2).length = keys.length := List.length_map _
  have hF : ∀ b, (Z ≤ b ∧ some b ≠ av2.ownBlock) → Z ≤ b := fun b hb => hb.1
  obtain ⟨fa1, fa3, rfl, _⟩ := id hfa
  obtain ⟨va1, va3, rfl, _⟩ := id hva
  repeat (first | refine RL.vv ?_ | refine RL.p ?_ | refine RL.nil ?_ | refine Sim.seq ?_ | refine Sim.region ?_ | refine Sim.block ?_ | refine Sim.skip ?_ | refine Sim.inBlock ?_ | refine Sim.exit rfl ?_ | refine Sim.condT rfl ?_ | refine Sim.condF rfl ?_)
  refine Sim.loop (σ := Nat) (fun t => [(0, .pointer (some ⟨gb, 0, none⟩)), (1, .pointer (some ⟨pb, po, none⟩)), (2, .slice ka keys.length kc), (3, .slice qa picks.length qc), (9, .map (some b9)), (42, .slice (some ⟨hb, ho, none⟩) p.homes.length hc), (43, .int .i64 (p.homes.length : Int)), (44, .int .i64 (j : Int)), (15, .slice s1 ((fldsFor p h (picks.map Pck.field)).map (·.2)).length s3), (20, .pointer (some ⟨b20, 0, none⟩)), (128, .slice ka keys.length kc), (129, .int .i64 (keys.length : Int)), (130, .int .i64 (t : Int))])
    (fun t w' => t ≤ keys.length ∧ Els (fun b => w.heap.size ≤ b ∧ b < Z) w9 w' ∧ RowsAt w.heap.size Z (fun b => Z ≤ b ∧ some b ≠ av2.ownBlock) w' b9 keys keys.length bs (fun i => if i < t then rowT l (p.homes.take (j + 1)) (keys.getD i ⟨#[]⟩) else rowT l (p.homes.take j) (keys.getD i ⟨#[]⟩)) (fun i => if i < t then rowF l p (picks.map Pck.field) (p.homes.take (j + 1)) (keys.getD i ⟨#[]⟩) else rowF l p (picks.map Pck.field) (p.homes.take j) (keys.getD i ⟨#[]⟩))) (fun t => keys.length - t) 0 sb
    ⟨Nat.zero_le _, .refl _ _, hr9.cong (fun i _ => by rw [if_neg (Nat.not_lt_zero _)]) (fun i _ => by rw [if_neg (Nat.not_lt_zero _)])⟩ ?_
  clear hr9
  rintro t w10 ⟨ht, hE10, hr⟩ next4
  have hu10 : Up w0 w10 := hE10.up hu9 fun b hb h => by have := hu.size; omega
  have hEw : Els (fun b => b = gb ∨ some b = av0.ownBlock) w w10 := hE9.trans' hE10 fun b hb h => by omega
  have hkeep : ∀ {S : Nat → Prop}, (∀ b, S b → b < w9.heap.size → b < w.heap.size ∨ Z ≤ b) → Keep S w9 w10 := fun hS => hE10.keepS fun b hb hlt h => by
    have := hS b hb hlt
    omega
  have hgb10 := hgb9.keep (hkeep (S := fun b => b = gb) fun b hb _ => .inl (by omega)) rfl
  by_cases htl : t < keys.length
  rotate_left
  · have : t = keys.length := by omega
    subst this
    have hav0l : ∀ x, av0.ownBlock = some x → x < w.heap.size := fun x hx => (hask0.lt x hx).2
    have hask10 := hask9.keep (S' := fun b => b < w.heap.size ∨ Z ≤ b) (hkeep fun b hb _ => hb) (fun b hb => by have := hT2 b hb; omega) (fun g hg => by
      rcases havx g hg with h1 | h1
      · exact .inl (hav0l g h1)
      · exact .inr h1)
    repeat (first | refine RL.vv ?_ | refine RL.p ?_ | refine RL.nil ?_ | refine Sim.seq ?_ | refine Sim.region ?_ | refine Sim.block ?_ | refine Sim.skip ?_ | refine Sim.inBlock ?_ | refine Sim.exit rfl ?_ | refine Sim.condT rfl ?_ | refine Sim.condF rfl ?_)
    exact next2 (j + 1, av2) _ _ ⟨by first | omega | (simp only; omega), hEw, by have := hE10.size; first | omega | (simp only; omega), hgb10, hask10, havx, hr.cong (fun i hi => by rw [if_pos hi]) (fun i hi => by rw [if_pos hi])⟩ (by first | omega | (simp only; omega)) sb
  have hkx : keys[t]? = some keys[t] := List.getElem?_eq_getElem htl
  obtain ⟨xb, xo, cs, rfl, _, hxat, rfl, _⟩ := (hkA.keep (hkeep fun b hb _ => .inl hb)).at hkx
  have hxat : At w10 xb (xo + t * 1) _ := hxat
  have hZ3' : Z ≤ w3.heap.size := hZ3
  have hkg := getD_get hkx
  generalize hkk : keys[t] = k at *
  have hf0 : (keys.map fun k => (ansKey s (rqFor p keys picks h) k).1)[t]? = some (findW l h k).isSome := by
    rw [List.getElem?_map, hkx, hfw]
    rfl
  have hv0 : (keys.map fun k => (ansKey s (rqFor p keys picks h) k).2)[t]? = some (valsM ((fldsFor p h (picks.map Pck.field)).map (·.1)) (findW l h k)) := by
    rw [List.getElem?_map, hkx, hfw]
    rfl
  obtain ⟨fb, fo, cs, rfl, _, hfat, rfl, _⟩ := (hfa.keep (hkeep fun b hb _ => .inr (by omega))).at hf0
  have hfat : At w10 fb (fo + t * 1) _ := hfat
  have hb20w := hb20.keep (hkeep (S := fun b => b = b20) fun b hb _ => .inr (by omega)) rfl
  have ha20 := hb20w.at
  cases hfx : findW l h k with
  | none =>
    rw [hfx] at hfat
    repeat (first | refine RL.vv ?_ | refine RL.p ?_ | refine RL.nil ?_ | refine Sim.seq ?_ | refine Sim.region ?_ | refine Sim.block ?_ | refine Sim.skip ?_ | refine Sim.inBlock ?_ | refine Sim.exit rfl ?_ | refine Sim.condT rfl ?_ | refine Sim.condF rfl ?_)
    exact next4 (t + 1) _ _ ⟨by omega, hE10, hr.cong (fun i hi => by
      by_cases h1 : i < t
      · rw [if_pos h1, if_pos (by omega)]
      · by_cases h2 : i = t
        · subst h2
          rw [if_pos (by omega), if_neg h1, hkg, htk, rowT_snoc, hfx]
          simp
        · rw [if_neg h1, if_neg (by omega)]) (fun i hi => by
      by_cases h1 : i < t
      · rw [if_pos h1, if_pos (by omega)]
      · by_cases h2 : i = t
        · subst h2
          rw [if_pos (by omega), if_neg h1, hkg, htk, rowF_miss hfx]
        · rw [if_neg h1, if_neg (by omega)])⟩ (by omega) sb
  | some x =>
  rw [hfx] at hfat
  have hrow := hr.row t htl
  have hget := hr.get htl hkx
  repeat (first | refine RL.vv ?_ | refine RL.p ?_ | refine RL.nil ?_ | refine Sim.seq ?_ | refine Sim.region ?_ | refine Sim.block ?_ | refine Sim.skip ?_ | refine Sim.inBlock ?_ | refine Sim.exit rfl ?_ | refine Sim.condT rfl ?_ | refine Sim.condF rfl ?_)
  refine RL.vv ?_ (hy := y_lookupV (k := k) (v := .pointer (some ⟨(bs t).1, 0, none⟩)) Try.underlying9 hr.map rfl rfl (by rw [hget]; rfl))
  repeat (first | refine RL.vv ?_ | refine RL.p ?_ | refine RL.nil ?_ | refine Sim.seq ?_ | refine Sim.region ?_ | refine Sim.block ?_ | refine Sim.skip ?_ | refine Sim.inBlock ?_ | refine Sim.exit rfl ?_ | refine Sim.condT rfl ?_ | refine Sim.condF rfl ?_)
  have hrb0 : w0.heap.size ≤ (bs t).1 := by have := (hr.rng t htl).1; have := hu.size; omega
  refine RL.st hu10 hrow.box hrb0 fun w11 hu11 hbt hbx => ?_
  have hbx : Box w11 (bs t).1 _ [.bool true, .map (some (bs t).2)] := hbx
  have hr11 := hr.there htl hF hbt hbx
  have hE11 := hE10.trans (.of_but hbt ⟨(hr.rng t htl).1, (hr.rng t htl).2.1⟩)
  obtain ⟨hvl, hvs⟩ := reply_vals (l := l) hI.all (by rw [← hI.eq]; exact hI.mem) (ns := picks.map Pck.field) hfx
  rw [hfx] at hv0
  have hls : ((fldsFor p h (picks.map Pck.field)).map (·.2)).length = (fldsFor p h (picks.map Pck.field)).length := List.length_map _
  have hls60 : ((fldsFor p h (picks.map Pck.field)).map (·.2)).length ≤ 60 := by omega
  clear hrow hbx hfat hb20w ha20 hxat
  repeat (first | refine RL.vv ?_ | refine RL.p ?_ | refine RL.nil ?_ | refine Sim.seq ?_ | refine Sim.region ?_ | refine Sim.block ?_ | refine Sim.skip ?_ | refine Sim.inBlock ?_ | refine Sim.exit rfl ?_ | refine Sim.condT rfl ?_ | refine Sim.condF rfl ?_)
  refine Sim.loop (σ := Nat) (fun n => [(0, .pointer (some ⟨gb, 0, none⟩)), (1, .pointer (some ⟨pb, po, none⟩)), (2, .slice (some ⟨xb, xo, none⟩) keys.length kc), (3, .slice qa picks.length qc), (9, .map (some b9)), (42, .slice (some ⟨hb, ho, none⟩) p.homes.length hc), (43, .int .i64 (p.homes.length : Int)), (44, .int .i64 (j : Int)), (15, .slice s1 ((fldsFor p h (picks.map Pck.field)).map (·.2)).length s3), (20, .pointer (some ⟨b20, 0, none⟩)), (128, .slice (some ⟨xb, xo, none⟩) keys.length kc), (129, .int .i64 (keys.length : Int)), (130, .int .i64 (t : Int)),
      (22, .int .i64 (t : Int)), (23, .string k), (146, .slice s1 ((fldsFor p h (picks.map Pck.field)).map (·.2)).length s3), (147, .int .i64 (((fldsFor p h (picks.map Pck.field)).map (·.2)).length : Int)), (148, .int .i64 (n : Int))])
    (fun n w' => n ≤ ((fldsFor p h (picks.map Pck.field)).map (·.2)).length ∧ Els (fun b => w.heap.size ≤ b ∧ b < Z) w9 w' ∧ RowsAt w.heap.size Z (fun b => Z ≤ b ∧ some b ≠ av2.ownBlock) w' b9 keys keys.length bs (fun i => if i < t + 1 then rowT l (p.homes.take (j + 1)) (keys.getD i ⟨#[]⟩) else rowT l (p.homes.take j) (keys.getD i ⟨#[]⟩)) (fun i => if i = t then (fun m => if m ∈ ((fldsFor p h (picks.map Pck.field)).map (·.2)).take n then valOf l p m k else rowF l p (picks.map Pck.field) (p.homes.take j) k m) else if i < t then rowF l p (picks.map Pck.field) (p.homes.take (j + 1)) (keys.getD i ⟨#[]⟩) else rowF l p (picks.map Pck.field) (p.homes.take j) (keys.getD i ⟨#[]⟩)))
    (fun n => ((fldsFor p h (picks.map Pck.field)).map (·.2)).length - n) 0 sb ⟨Nat.zero_le _, hE11, hr11.cong (fun i _ => by
      by_cases h1 : i < t
      · rw [if_pos (by omega), if_neg (by omega), if_pos h1]
      · by_cases h2 : i = t
        · subst h2
          rw [if_pos (by omega), if_pos rfl, hkg, htk, rowT_snoc, hfx]
          simp
        · rw [if_neg (by omega), if_neg h2, if_neg h1]) (fun i _ => by
      by_cases h2 : i = t
      · subst h2
        rw [if_pos rfl, if_neg (Nat.lt_irrefl _), hkg]
        funext m
        simp
      · rw [if_neg h2])⟩ ?_
  clear hr11 hE11 hr hE10 hEw hkeep hgb10 hbt hu11 hu10 hget
  rintro n w12 ⟨hnn, hE12, hr⟩ next5
  have hu12 : Up w0 w12 := hE12.up hu9 fun b hb h => by have := hu.size; omega
  have hkeep : ∀ {S : Nat → Prop}, (∀ b, S b → b < w9.heap.size → b < w.heap.size ∨ Z ≤ b) → Keep S w9 w12 := fun hS => hE12.keepS fun b hb hlt h => by
    have := hS b hb hlt
    omega
  by_cases hnl : n < ((fldsFor p h (picks.map Pck.field)).map (·.2)).length
  rotate_left
  · have : n = ((fldsFor p h (picks.map Pck.field)).map (·.2)).length := by omega
    subst this
    rw [List.take_length] at hr
    repeat (first | refine RL.vv ?_ | refine RL.p ?_ | refine RL.nil ?_ | refine Sim.seq ?_ | refine Sim.region ?_ | refine Sim.block ?_ | refine Sim.skip ?_ | refine Sim.inBlock ?_ | refine Sim.exit rfl ?_ | refine Sim.condT rfl ?_ | refine Sim.condF rfl ?_)
    exact next4 (t + 1) _ _ ⟨by omega, hE12, hr.cong (fun i _ => rfl) (fun i _ => by
      by_cases h2 : i = t
      · subst h2
        rw [if_pos rfl, if_pos (by omega), hkg, htk]
        funext m
        rw [rowF_hit hI.all (by rw [← hI.eq]; exact hI.mem)]
      · rw [if_neg h2]
        by_cases h1 : i < t
        · rw [if_pos h1, if_pos (by omega)]
        · rw [if_neg h1, if_neg (by omega)])⟩ (by omega) sb
  have hnx : ((fldsFor p h (picks.map Pck.field)).map (·.2))[n]? = some ((fldsFor p h (picks.map Pck.field)).map (·.2))[n] := List.getElem?_eq_getElem hnl
  have htk5 := List.take_succ_eq_append_getElem hnl
  obtain ⟨y, hy, hyn⟩ : ∃ y, (fldsFor p h (picks.map Pck.field))[n]? = some y ∧ y.2 = ((fldsFor p h (picks.map Pck.field)).map (·.2))[n] := ⟨(fldsFor p h (picks.map Pck.field))[n]'(by omega), List.getElem?_eq_getElem _, by simp⟩
  obtain ⟨v, hv1, hv2⟩ := hvs n y hy
  rw [hyn] at hv2
  generalize ((fldsFor p h (picks.map Pck.field)).map (·.2))[n] = nm at *
  obtain ⟨nb, no, cs, rfl, _, hnat, rfl, _⟩ := (hss.keep (hkeep fun b hb _ => .inr (by omega))).at hnx
  have hnat : At w12 nb (no + n * 1) _ := hnat
  obtain ⟨vb, vo, cs, rfl, _, hvat, ⟨vv, rfl, hvv⟩, _⟩ := (hva.keep (hkeep fun b hb _ => .inr (by omega))).at hv0
  have hvat : At w12 vb (vo + t * 1) _ := hvat
  obtain ⟨va, vc, rfl, _⟩ := id hvv
  obtain ⟨ub, uo, cs, rfl, _, huat, ⟨kv, rfl, hkv⟩, hul⟩ := hvv.at hv1
  have huat : At w12 ub (uo + n * 3) _ := huat
  have ha20 := (hb20.keep (hkeep (S := fun b => b = b20) fun b hb _ => .inr (by omega)) rfl).at
  have hrow := hr.row t htl
  rw [if_pos (by omega), if_pos rfl] at hrow
  have har := hrow.box.at
  obtain ⟨ents, hme, hev⟩ := hrow.vals
  have hget := hr.get htl hkx
  obtain ⟨x1, x2, rfl, _⟩ := id hkv
  have hkvF : SliceOf strLay (fun b => Z ≤ b ∧ some b ≠ av2.ownBlock) w12 (.slice x1 v.keys.length x2) v.keys := hkv.mono fun b hb => ⟨by omega, fun e => by
    rcases hav3 b e.symm with h1 | h1 <;> omega⟩
  repeat (first | refine RL.vv ?_ | refine RL.p ?_ | refine RL.nil ?_ | refine Sim.seq ?_ | refine Sim.region ?_ | refine Sim.block ?_ | refine Sim.skip ?_ | refine Sim.inBlock ?_ | refine Sim.exit rfl ?_ | refine Sim.condT rfl ?_ | refine Sim.condF rfl ?_)
  have hd := Up.drew w12
  have hS2 : True := trivial
  refine Sim.ordD [15] (fun wq => Up w12 wq) (fun _ => True) ?_ mixed
  refine RD.tk 0 ?_
  refine RD.tk 1 ?_
  refine RD.tk 2 ?_ (hy := fun wq hq => y_lookupV (k := k) (v := .pointer (some ⟨(bs t).1, 0, none⟩)) Try.underlying9 (hr.map.up hq) rfl rfl (by rw [hget]; rfl))
  refine RD.tk 3 ?_
  refine RD.tk 4 ?_
  refine RD.tk 5 ?_
  refine RD.tk 6 ?_
  refine RD.tk 7 ?_
  refine RD.tk 8 ?_
  refine RD.tk 9 ?_
  refine RD.tk 10 ?_
  refine RD.tk 11 ?_
  refine RD.tk 12 ?_
  refine RD.tk 13 ?_
  refine RD.tk 14 ?_
  refine RD.one 15 ?_
  have hrb0 : w0.heap.size ≤ (bs t).2 := by have := (hr.rng t htl).2.2.1; have := hu.size; omega
  refine RL.mset (el := 62) (k := nm) Try.underlying9 (hu12.trans hd) (hme.up hd) hrb0 fun w13 hu13 hbt hm => ?_
  refine RL.ox trivial ?_
  refine RD.done (RL.nil ?_)
  have hr13 := (hr.up hd).val htl hF hbt hm (fun m => by
    have := hev m
    dsimp only at this
    rw [if_pos rfl]
    cases hf : (if m ∈ ((fldsFor p h (picks.map Pck.field)).map (·.2)).take n then valOf l p m k else rowF l p (picks.map Pck.field) (p.homes.take j) k m) with
    | none => rw [hf] at this; exact this
    | some u =>
      rw [hf] at this
      obtain ⟨ku, h1, h2⟩ := this
      exact ⟨ku, h1, h2.up hd⟩) (hkvF.up hd)
  have hE13 := (hE12.up_trans hd).trans (.of_but hbt ⟨(hr.rng t htl).2.2.1, (hr.rng t htl).2.2.2⟩)
  clear ha20 har hnat hvat huat
  repeat (first | refine RL.vv ?_ | refine RL.p ?_ | refine RL.nil ?_ | refine Sim.seq ?_ | refine Sim.region ?_ | refine Sim.block ?_ | refine Sim.skip ?_ | refine Sim.inBlock ?_ | refine Sim.exit rfl ?_ | refine Sim.condT rfl ?_ | refine Sim.condF rfl ?_)
  refine next5 (n + 1) _ _ ⟨by omega, hE13, hr13.cong (fun i _ => rfl) (fun i _ => ?_)⟩ (by omega) sb
  by_cases h2 : i = t
  · subst h2
    rw [if_pos rfl, if_pos rfl, if_pos rfl, htk5]
    funext m
    by_cases hm1 : m = nm
    · subst hm1
      rw [if_pos rfl, if_pos (by simp), hv2]
    · rw [if_neg hm1]
      have : m ∈ ((fldsFor p h (picks.map Pck.field)).map (·.2)).take n ++ [nm] ↔ m ∈ ((fldsFor p h (picks.map Pck.field)).map (·.2)).take n := by simp [hm1]
      simp only [this]
  · rw [if_neg h2, if_neg h2, if_neg h2]
end Go.Proofs.Ytgckpmcdlciibab
