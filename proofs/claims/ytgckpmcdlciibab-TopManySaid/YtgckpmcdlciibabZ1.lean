/- Several texts in one: Contracts of chapter 7: what all things of a key are asked for. Contracts of chapter 7: what is asked for is run. -/
import Derived.Test.YtgckpmcdlciibabZ0
import Derived.Test.YtgckpmcdlciibabZX
namespace Go.Proofs.Ytgckpmcdlciibab
open Go.RowKit
theorem askL_app (l : List Svc) (ps : List Prt) (p : Prt) (keys : List Str) : ∀ xs ys : List Pck, askL l ps (xs ++ ys) p keys = askL l ps xs p keys ++ askL l ps ys p keys
  | [], ys => by simp [askL]
  | x :: xs, ys => by simp only [List.cons_append, askL, askL_app l ps p keys xs ys, List.append_assoc]
theorem askL_len (l : List Svc) (ps : List Prt) (p : Prt) (keys : List Str) (picks : List Pck) (i : Nat) : (askL l ps (picks.take i) p keys).length ≤ (askL l ps picks p keys).length := by
  conv => rhs; rw [← List.take_append_drop i picks, askL_app, List.length_append]
  omega
theorem RowsAt.toR {A Z : Nat} {F Fr : Nat → Prop} {w : World} {b9 : Nat} {keys : List Str} {bs : Nat → Nat × Nat} {th : Nat → Bool} {f : Nat → Str → Option VVal} {th' : Str → Bool} {f' : Str → Str → Option VVal} (h : RowsAt A Z F w b9 keys keys.length bs th f) (hZ : ∀ b, A ≤ b → b < Z → Fr b) (hF : ∀ b, F b → b < w.heap.size → Fr b) (h1 : ∀ i k, keys[i]? = some k → th i = th' k) (h2 : ∀ i k, keys[i]? = some k → f i = f' k) : RowsR Fr w b9 keys th' f' := by
  refine ⟨bs, hZ _ h.rng9.1 h.rng9.2, h.map, fun i k hk => ?_⟩
  have hi := (List.getElem?_eq_some_iff.1 hk).1
  have hr := h.row i hi
  have hg := h.rng i hi
  refine ⟨hZ _ hg.1 hg.2.1, hZ _ hg.2.2.1 hg.2.2.2, ?_, ?_⟩
  · rw [← h1 i k hk]; exact hr.box
  · rw [← h2 i k hk]; exact hr.vals.mono hF
set_option maxHeartbeats 8000000 in
theorem things_gen {m : Nat} (H : ∀ n, m = n + 1 → PickG n) : ThingsG m := by
  intro gb pb po d S S2 S3 Sk Sq lv pv fv ov hv kv keysv av0 l ps p picks asked keys w0 w hI hu hps hgo hsm hlv hld hkl hgb hg0 hask hgq hSq hSq2 hal hk hSk hn hne
  refine calls_of_sim Try.func85 rfl (Nat.le_of_ble_eq_true rfl) ?_
  obtain ⟨ka, kc, rfl, hknc, hkcm, _⟩ := id hk
  obtain ⟨qa, qc, rfl, hqnc, hqcm, _⟩ := id hps
  unfold maxLen at hkcm hqcm
  have hgl := hgb.lt
  have hko : SliceOf strLay (fun b => (b ≠ gb ∧ some b ≠ av0.ownBlock) ∧ b < w.heap.size) w (.slice ka keys.length kc) keys := hk.old.mono fun b hb => ⟨hSk b hb.1, hb.2⟩
  have hX0 : ∀ b, b < w0.heap.size → ¬ (b = gb ∨ some b = av0.ownBlock) := fun b hb h => by
    rcases h with rfl | h
    · omega
    · have := (hask.lt b h.symm).1; omega
  have h60 : picks.length ≤ 60 := by
    cases m with
    | zero => have : picks = [] := hlv; simp [this]
    | succ m => exact hsm.1
  have hfl : ∀ q ∈ picks, ∃ (j : Nat) (f : Fld), fieldF p.type.fields q.field = (j : Int) ∧ p.type.fields[j]? = some f := fun q hq => by
    cases m with
    | zero => have : picks = [] := hlv; subst this; cases hq
    | succ m =>
      obtain ⟨i, hi⟩ := List.mem_iff_getElem?.1 hq
      obtain ⟨j, f, h1, h2, _⟩ := goes_pick hI.ok hI.mem hgo hi
      exact ⟨j, f, h1, h2⟩
  have hal' : asked.length + ((homesRq p keys picks).length + (askL l ps picks p keys).length) ≤ 1000 := by rw [← List.length_append]; exact hal
  have h20 : 1 ≤ 20 ^ d := Nat.pow_pos (by decide)
  have hkn : keys.length ≤ 25600000000 := Nat.le_trans (Nat.le_mul_of_pos_right _ h20) hkl
  clear hk
  repeat (first | refine RL.vv ?_ | refine RL.p ?_ | refine RL.nil ?_ | refine Sim.seq ?_ | refine Sim.region ?_ | refine Sim.block ?_ | refine Sim.skip ?_ | refine Sim.inBlock ?_ | refine Sim.exit rfl ?_ | refine Sim.condT rfl ?_ | refine Sim.condF rfl ?_)
  refine RL.cx (fetch_any w hI hu hps hfl h60 hgb hg0 hask hgq hSq hSq2 (by omega) hko (fun b hb => hb.1) hn hne (by omega)) ?_
  rintro _ w1 ⟨b9, Z, av1, bs, rfl, hE1, hgb1, hask1, hav1, hZ0, hZ1, hr1⟩
  refine ⟨_, rfl, ?_⟩
  have hrows : RowsR (fun b => w.heap.size ≤ b ∧ b < w1.heap.size ∧ some b ≠ av1.ownBlock) w1 b9 keys (thereM l p) (fun k n => rowF l p (picks.map Pck.field) p.homes k n) := hr1.toR (fun b h1 h2 => ⟨h1, by omega, fun e => by
      rcases hav1 b e.symm with h3 | h3
      · have := (hask.lt b h3).2; omega
      · omega⟩) (fun b hb hlt => ⟨by omega, hlt, hb.2⟩) (fun i k hi => by rw [getD_get hi]; rfl) (fun i k hi => by rw [getD_get hi])
  have hav1w : ∀ x, av1.ownBlock = some x → av0.ownBlock = some x ∨ w.heap.size ≤ x := fun x hx => by
    rcases hav1 x hx with h | h
    · exact .inl h
    · exact .inr (by omega)
  have hs1 := hE1.size
  clear hr1 hask
  repeat (first | refine RL.vv ?_ | refine RL.p ?_ | refine RL.nil ?_ | refine Sim.seq ?_ | refine Sim.region ?_ | refine Sim.block ?_ | refine Sim.skip ?_ | refine Sim.inBlock ?_ | refine Sim.exit rfl ?_ | refine Sim.condT rfl ?_ | refine Sim.condF rfl ?_)
  refine RL.mmap (κ := Str) (.refl w1) fun ob w2 heob _ h12 _ hm0 => ?_
  have hs12 := h12.size
  have hobl := hm0.lt
  repeat (first | refine RL.vv ?_ | refine RL.p ?_ | refine RL.nil ?_ | refine Sim.seq ?_ | refine Sim.region ?_ | refine Sim.block ?_ | refine Sim.skip ?_ | refine Sim.inBlock ?_ | refine Sim.exit rfl ?_ | refine Sim.condT rfl ?_ | refine Sim.condF rfl ?_)
  refine Sim.loop (σ := Nat) (fun t => [(0, .pointer (some ⟨gb, 0, none⟩)), (1, .pointer (some ⟨pb, po, none⟩)), (2, .slice ka keys.length kc), (3, .slice qa picks.length qc), (9, .map (some b9)), (10, .map (some ob)), (20, .slice ka keys.length kc), (21, .int .i64 (keys.length : Int)), (22, .int .i64 (t : Int))])
    (fun t w' => t ≤ keys.length ∧ Up w1 w' ∧ MapAt w' ob (((keys.take t).filter (thereM l p)).map fun k => (k, Value.slice none 0 0))) (fun t => keys.length - t) 0 sb ⟨Nat.zero_le _, h12, by simpa using hm0⟩ ?_
  clear hm0 h12
  rintro t w3 ⟨ht, h13, hm⟩ next1
  by_cases htl : t < keys.length
  · have hkx : keys[t]? = some keys[t] := List.getElem?_eq_getElem htl
    have hk3 := (hko.keep (hE1.keepS fun b hb _ h => by
      rcases h with h | h
      · exact hb.1.1 h
      · exact hb.1.2 h)).up h13
    obtain ⟨xb, xo, cs, rfl, _, hxat, rfl, _⟩ := hk3.at hkx
    have hxat : At w3 xb (xo + t * 1) _ := hxat
    obtain ⟨ents, x, hm9, hget, hrow⟩ := (hrows.up h13).get hkx
    have har := hrow.box.at
    have hfs := filter_snoc (g := thereM l p) hkx
    have hnot : ¬ keys[t] ∈ keys.take t := fun hmem => by
      obtain ⟨i, hi⟩ := List.mem_iff_getElem?.1 hmem
      have h1 := (List.getElem?_eq_some_iff.1 hi).1
      rw [List.length_take] at h1
      rw [List.getElem?_take_of_lt (by omega)] at hi
      have := (List.getElem?_inj (by omega) hn).1 (hi.trans hkx.symm)
      omega
    generalize keys[t] = k at *
    repeat (first | refine RL.vv ?_ | refine RL.p ?_ | refine RL.nil ?_ | refine Sim.seq ?_ | refine Sim.region ?_ | refine Sim.block ?_ | refine Sim.skip ?_ | refine Sim.inBlock ?_ | refine Sim.exit rfl ?_ | refine Sim.condT rfl ?_ | refine Sim.condF rfl ?_)
    refine RL.vv ?_ (hy := y_lookupV (k := k) (v := .pointer (some ⟨x.1, 0, none⟩)) Try.underlying9 hm9 rfl rfl (by rw [hget]; rfl))
    cases hth : thereM l p k with
    | false =>
      rw [hth] at har hfs
      simp only [Bool.false_eq_true, if_false, List.append_nil] at hfs
      repeat (first | refine RL.vv ?_ | refine RL.p ?_ | refine RL.nil ?_ | refine Sim.seq ?_ | refine Sim.region ?_ | refine Sim.block ?_ | refine Sim.skip ?_ | refine Sim.inBlock ?_ | refine Sim.exit rfl ?_ | refine Sim.condT rfl ?_ | refine Sim.condF rfl ?_)
      exact next1 (t + 1) _ _ ⟨by omega, h13, by rw [hfs]; exact hm⟩ (by omega) sb
    | true =>
      rw [hth] at har hfs
      simp only [if_true] at hfs
      repeat (first | refine RL.vv ?_ | refine RL.p ?_ | refine RL.nil ?_ | refine Sim.seq ?_ | refine Sim.region ?_ | refine Sim.block ?_ | refine Sim.skip ?_ | refine Sim.inBlock ?_ | refine Sim.exit rfl ?_ | refine Sim.condT rfl ?_ | refine Sim.condF rfl ?_)
      refine RL.mset (el := 24) (k := k) Try.underlying9 h13 hm (by omega) fun w4 h14 _ hm4 => ?_
      rw [mput_new fun x hx e => by
        obtain ⟨y, hy, rfl⟩ := List.mem_map.1 hx
        simp only at e
        subst e
        exact hnot (List.mem_filter.1 hy).1] at hm4
      repeat (first | refine RL.vv ?_ | refine RL.p ?_ | refine RL.nil ?_ | refine Sim.seq ?_ | refine Sim.region ?_ | refine Sim.block ?_ | refine Sim.skip ?_ | refine Sim.inBlock ?_ | refine Sim.exit rfl ?_ | refine Sim.condT rfl ?_ | refine Sim.condF rfl ?_)
      exact next1 (t + 1) _ _ ⟨by omega, h14, by rw [hfs, List.map_append]; exact hm4⟩ (by omega) sb
  have : t = keys.length := by omega
  subst this
  rw [List.take_length] at hm
  clear next1
  have hs13 := h13.size
  have hob3 := hm.lt
  obtain ⟨lab0, hlab0⟩ : ∃ lab : Nat → Option Nat, lab = fun b => if b = ob then some 0 else if av1.ownBlock = some b ∧ w.heap.size ≤ b then some 1 else none := ⟨_, rfl⟩
  have hl0 : ∀ b, lab0 b = if b = ob then some 0 else if av1.ownBlock = some b ∧ w.heap.size ≤ b then some 1 else none := fun b => by rw [hlab0]
  clear hlab0
  have hav1l : ∀ x, av1.ownBlock = some x → x < w1.heap.size := fun x hx => (hask1.lt x hx).2
  have hout : OutAt (m + 1) w.heap.size w3 ob (keys.filter (thereM l p)) (fun _ => .slice none 0 0) (fun _ => []) lab0 := by
    refine ⟨fun b hb => ?_, ?_, fun i hi => ⟨Own.nil _ _ _ _ _, fun x hx => by cases hx⟩, by rw [hl0, if_pos rfl]⟩
    · rw [hl0, if_neg (by omega), if_neg (by omega)]
    · have e : (List.range (keys.filter (thereM l p)).length).map (fun i => ((keys.filter (thereM l p)).getD i ⟨#[]⟩, Value.slice none 0 0)) = (keys.filter (thereM l p)).map fun k => (k, Value.slice none 0 0) := by
        refine List.ext_getElem? fun i => ?_
        rw [List.getElem?_map, List.getElem?_map]
        by_cases hi : i < (keys.filter (thereM l p)).length
        · rw [List.getElem?_range hi, List.getElem?_eq_getElem hi]
          simp only [Option.map_some]
          rw [List.getD_eq_getElem?_getD, List.getElem?_eq_getElem hi]
          rfl
        · rw [List.getElem?_eq_none (by simpa using hi), List.getElem?_eq_none (by omega)]
          rfl
      rw [e]
      exact hm
  have hask3 : Own rqLay 52 w0.heap.size (fun b => Sq b ∧ lab0 b = none) w3 av1 (asked ++ homesRq p keys picks) := (hask1.shift fun b hb hlt hne => ⟨hb, by rw [hl0, if_neg (by omega), if_neg fun h => hne h.1.symm]⟩).up h13
  repeat (first | refine RL.vv ?_ | refine RL.p ?_ | refine RL.nil ?_ | refine Sim.seq ?_ | refine Sim.region ?_ | refine Sim.block ?_ | refine Sim.skip ?_ | refine Sim.inBlock ?_ | refine Sim.exit rfl ?_ | refine Sim.condT rfl ?_ | refine Sim.condF rfl ?_)
  refine Sim.loop (σ := Nat × Value × (Nat → Value) × (Nat → Option Nat)) (fun st => [(0, .pointer (some ⟨gb, 0, none⟩)), (1, .pointer (some ⟨pb, po, none⟩)), (2, .slice ka keys.length kc), (3, .slice qa picks.length qc), (9, .map (some b9)), (10, .map (some ob)), (36, .int .i64 (picks.length : Int)), (37, .int .i64 (st.1 : Int))])
    (fun st w' => st.1 ≤ picks.length ∧ Els (fun b => b = gb ∨ some b = av0.ownBlock) w w' ∧ w3.heap.size ≤ w'.heap.size ∧ Box w' gb 172 [lv, pv, st.2.1] ∧ Own rqLay 52 w0.heap.size (fun b => Sq b ∧ st.2.2.2 b = none) w' st.2.1 (asked ++ homesRq p keys picks ++ askL l ps (picks.take st.1) p keys) ∧
      (∀ x, st.2.1.ownBlock = some x → av1.ownBlock = some x ∨ w3.heap.size ≤ x) ∧ (∀ x, st.2.1.ownBlock = some x → x < w.heap.size ∨ st.2.2.2 x = some 1) ∧ RowsR (fun b => w.heap.size ≤ b ∧ b < w1.heap.size ∧ some b ≠ av1.ownBlock) w' b9 keys (thereM l p) (fun k n => rowF l p (picks.map Pck.field) p.homes k n) ∧
      OutAt (m + 1) w.heap.size w' ob (keys.filter (thereM l p)) st.2.2.1 (fun i => thingS (semOf l ps) (picks.take st.1) p.type.name ((keys.filter (thereM l p)).getD i ⟨#[]⟩)) st.2.2.2 ∧ (∀ b, w'.heap.size ≤ b → st.2.2.2 b = none) ∧ (∀ b, b < w3.heap.size → st.2.2.2 b = lab0 b)) (fun st => picks.length - st.1) (0, av1, fun _ => .slice none 0 0, lab0) sb
    ⟨Nat.zero_le _, hE1.up_trans h13, Nat.le_refl _, hgb1.up h13, by simpa [askL] using hask3, fun x hx => .inl hx, fun x hx => ?_, hrows.up h13, by simpa [thingS] using hout, fun b hb => ?_, fun _ _ => rfl⟩ ?_
  · by_cases h : w.heap.size ≤ x
    · refine .inr ?_
      simp only
      rw [hl0, if_neg (by have := hav1l x hx; omega), if_pos ⟨hx, h⟩]
    · exact .inl (by omega)
  · simp only
    rw [hl0, if_neg (by omega), if_neg fun h => by have := hav1l b h.1; omega]
  clear hout hask3 hask1 hrows hgb1 hm h13 hgb hE1
  rintro ⟨i, av, vs, lab⟩ w4 ⟨hi, hE4, hs34, hgb4, hask4, hav4, hlav, hrows, hout, hlab, hleq⟩ next
  simp only at hi hgb4 hask4 hav4 hlav hout hlab hleq next ⊢
  have hu4 := hE4.up hu hX0
  by_cases hlt : i < picks.length
  rotate_left
  · have : i = picks.length := by omega
    subst this
    rw [List.take_length] at hask4 hout
    have hobn : some ob ≠ av.ownBlock := fun e => by
      rcases hlav ob e.symm with h | h
      · omega
      · rw [hout.lob] at h; cases h
    have hol := hout.map.lt
    repeat (first | refine RL.vv ?_ | refine RL.p ?_ | refine RL.nil ?_ | refine Sim.seq ?_ | refine Sim.region ?_ | refine Sim.block ?_ | refine Sim.skip ?_ | refine Sim.inBlock ?_ | refine Sim.exit rfl ?_ | refine Sim.condT rfl ?_ | refine Sim.condF rfl ?_)
    refine Sim.ret1 Try.func85 rfl rfl ⟨ob, av, rfl, hE4, hgb4, by rw [asksM, ← List.append_assoc]; exact hask4.shift fun b hb _ _ => hb.1, fun x hx => ?_, ⟨by omega, hol, hobn⟩, _, hout.map, fun k hk => ?_⟩
    · rcases hav4 x hx with h | h
      · exact hav1w x h
      · exact .inr (by omega)
    · dsimp only
      cases hth : thereM l p k with
      | false =>
        simp only [Bool.false_eq_true, if_false]
        exact hout.none fun h => by have := (List.mem_filter.1 h).2; rw [hth] at this; cases this
      | true =>
        simp only [if_true]
        obtain ⟨i, hi⟩ := List.mem_iff_getElem?.1 (List.mem_filter.2 ⟨hk, hth⟩)
        obtain ⟨ho1, ho2⟩ := hout.own i (List.getElem?_eq_some_iff.1 hi).1
        rw [getD_get hi] at ho1
        refine ⟨_, hout.get hi, ho1.sl (fun b hb hlt _ => ⟨hb.1, hlt, fun e => ?_⟩) fun g hg => ⟨(ho1.lt g hg).1, (ho1.lt g hg).2, fun e => ?_⟩⟩
        · rcases hlav b e.symm with h | h
          · omega
          · rw [hb.2] at h; cases h
        · rcases hlav g e.symm with h | h
          · have := (ho1.lt g hg).1; omega
          · rw [ho2 g hg] at h
            simp only [Option.some.injEq] at h
            omega
  have hx : picks[i]? = some picks[i] := List.getElem?_eq_getElem hlt
  cases m with
  | zero =>
    obtain ⟨_, _, _, _, _, _, h, _⟩ := hps.at hx
    exact h.elim
  | succ m =>
  obtain ⟨kb, ko, cs, rfl, _, hkat, hkis, _⟩ := hps.at hx
  have hkat : At w0 kb (ko + i * 3) _ := hkat
  have hqm := List.mem_of_getElem? hx
  obtain ⟨j, f, hj, hf, hkind, hsub⟩ := goes_pick hI.ok hI.mem hgo hx
  have hts : ∀ k, thingS (semOf l ps) (picks.take (i + 1)) p.type.name k = thingS (semOf l ps) (picks.take i) p.type.name k ++ [pickS (semOf l ps) picks[i] p.type.name k] := fun k => by
    rw [List.take_succ_eq_append_getElem hlt, thingS_app]
    simp [thingS]
  have hta : askL l ps (picks.take (i + 1)) p keys = askL l ps (picks.take i) p keys ++ askP l ps picks[i] p keys := by
    rw [List.take_succ_eq_append_getElem hlt, askL_app]
    simp [askL]
  have hal2 := askL_len l ps p keys picks (i + 1)
  rw [hta, List.length_append] at hal2
  have hsm2 := hsm.2 picks[i] hqm
  have hlv2 : lvl m picks[i].picks := hlv picks[i] hqm
  have hfm : ∀ k ∈ keys, (fun k n => rowF l p (picks.map Pck.field) p.homes k n) k picks[i].field = valOf l p picks[i].field k := fun k _ => rowF_all hI.all (by rw [← hI.eq]; exact hI.mem) (List.mem_map.2 ⟨_, hqm, rfl⟩)
  obtain ⟨d, rfl⟩ : ∃ d', d = d' + 1 := by
    cases d with
    | zero => have : picks = [] := hld; subst this; cases hqm
    | succ d => exact ⟨d, rfl⟩
  have hld2 : lvl d picks[i].picks := hld picks[i] hqm
  have hk4 := hko.keep (hE4.keepS fun b hb _ h => by
    rcases h with h | h
    · exact hb.1.1 h
    · exact hb.1.2 h)
  generalize picks[i] = q at *
  have hwE := hE4.size
  have hFr : ∀ b, (w.heap.size ≤ b ∧ b < w1.heap.size ∧ some b ≠ av1.ownBlock) → b < w4.heap.size ∧ b ≠ gb ∧ some b ≠ av.ownBlock ∧ lab b = none := fun b hb => ⟨by omega, by omega, fun e => by
    rcases hav4 b e.symm with h | h
    · exact hb.2.2 h.symm
    · omega, by rw [hleq b (by omega), hl0, if_neg (by omega), if_neg fun h => hb.2.2 h.1.symm]⟩
  repeat (first | refine RL.vv ?_ | refine RL.p ?_ | refine RL.nil ?_ | refine Sim.seq ?_ | refine Sim.region ?_ | refine Sim.block ?_ | refine Sim.skip ?_ | refine Sim.inBlock ?_ | refine Sim.exit rfl ?_ | refine Sim.condT rfl ?_ | refine Sim.condF rfl ?_)
  refine RL.cx (H m rfl w4 hI hu4 hkat hkis hj hf hkind hsub hsm2 hlv2 hld2 hkl hgb4 hg0 hask4 (fun x hx e => ?_) hSq hSq2 (by simp only [List.length_append]; omega) hk4 (fun b hb => ⟨hb.2, hb.1.1, fun e => ?_⟩) hrows hfm hFr hout hgl hwE hlav hlab (fun i => by rw [thingS_len, List.length_take]; omega) hn) ?_
  · rcases hav4 x hx with h | h
    · rcases hav1 x h with h1 | h1
      · exact hgq x h1 e
      · omega
    · omega
  · rcases hav4 b e.symm with h | h
    · rcases hav1 b h with h1 | h1
      · exact hb.1.2 h1.symm
      · omega
    · omega
  rintro _ w5 ⟨av', vs', lab', rfl, hE5, hgb5, hask5, hav5, hlav5, hout5, hlab5, hleq5⟩
  refine ⟨_, rfl, ?_⟩
  have hs45 := hE5.size
  repeat (first | refine RL.vv ?_ | refine RL.p ?_ | refine RL.nil ?_ | refine Sim.seq ?_ | refine Sim.region ?_ | refine Sim.block ?_ | refine Sim.skip ?_ | refine Sim.inBlock ?_ | refine Sim.exit rfl ?_ | refine Sim.condT rfl ?_ | refine Sim.condF rfl ?_)
  refine next (i + 1, av', vs', lab') _ _ ⟨by first | omega | (simp only; omega), hE4.trans' hE5 fun b hb h => ?_, by first | omega | (simp only; omega), hgb5, by simp only; rw [hta, ← List.append_assoc]; exact hask5, fun x hx => ?_, hlav5, hrows.keep (hE5.keepS fun b hb _ h => ?_), ?_, hlab5, fun b hb => by simp only; rw [hleq5 b (by omega), hleq b hb]⟩ (by first | omega | (simp only; omega)) sb
  · rcases h with h | h | h
    · exact .inl h
    · rcases hav4 b h.symm with h1 | h1
      · rcases hav1 b h1 with h2 | h2
        · exact .inr h2.symm
        · omega
      · omega
    · exact absurd (hout.base b hb) h
  · rcases hav5 x hx with h | h
    · exact hav4 x h
    · exact .inr (by omega)
  · have h2 := hFr b hb
    rcases h with h | h | h
    · exact h2.2.1 h
    · exact h2.2.2.1 h
    · exact h h2.2.2.2
  · simp only [hts]
    exact hout5
theorem things_any : ∀ m, ThingsG m
  | 0 => things_gen fun n h => by cases h
  | m + 1 => things_gen fun n h => by cases h; exact gpick_any (things_any m)
end Go.Proofs.Ytgckpmcdlciibab

namespace Go.Proofs.Ytgckpmcdlciibab
open Go.RowKit
theorem lay_lvl : ∀ {m : Nat} {S : Nat → Prop} {w : World} {v : Value} {ps : List Pck}, SliceOf (pckLay m) S w v ps → lvl m ps
  | 0, _, _, _, ps, h => show ps = [] from List.eq_nil_of_length_eq_zero (by have := pck_zero h; omega)
  | m + 1, _, _, _, _, h => fun q hq => by
    obtain ⟨i, hi⟩ := List.mem_iff_getElem?.1 hq
    obtain ⟨a, c, rfl, _⟩ := id h
    obtain ⟨_, _, _, _, _, _, h1, _⟩ := h.at hi
    obtain ⟨kv, _, h2⟩ := pckLay_succ h1
    exact lay_lvl h2
section
variable {P : Program} {f : FuncId} {N : Nat} {e : Env} {w : World} {R : Ending → World → Prop} {k : List Item} {fn : Func}
theorem Sim.ret3 {a b c : Tmp} {v v' v2 : Value} (hf : P.funcs[f]? = some fn) (h : fn.results = #[.tmp a, .tmp b, .tmp c]) (hv : e.get a = some v) (hv' : e.get b = some v') (hv2 : e.get c = some v2) (hR : R (.returned (.tuple #[v, v', v2])) w) : Sim P f N (.code .ret :: k) e w R :=
  Sim.ret hf (fun tm hok => by simp [results, h, hok.get _ _ hv, hok.get _ _ hv', hok.get _ _ hv2]) hR
end
set_option maxHeartbeats 4000000 in
theorem Run_any {m : Nat} {S S3 : Nat → Prop} {lv kv : Value} {l : List Svc} (q : Ak) (w : World) (hl : SliceOf svcLay S w lv l) (hok : ∀ s ∈ l, okSvc s) (hps : SliceOf (pckLay (m + 1)) S3 w kv q.picks) :
    Calls Try.prog 42 #[lv, .agg #[.string q.type, .string q.key, kv]] w fun en w' => ∃ v rv, en = .returned (.tuple #[v, rv, .int .i64 (runM (m + 1) l q).2.2]) ∧ Up w w' ∧ SliceOf (gtLay (m + 2)) (fun b => w.heap.size ≤ b) w' v (runM (m + 1) l q).1 ∧ SliceOf rqLay (fun b => w.heap.size ≤ b) w' rv (runM (m + 1) l q).2.1 := by
  refine calls_of_sim Try.func42 rfl (Nat.le_of_ble_eq_true rfl) ?_
  obtain ⟨la, lc, rfl, _⟩ := id hl
  obtain ⟨ka, kc, rfl, _⟩ := id hps
  have hlv := lay_lvl hps
  repeat (first | refine RL.vv ?_ | refine RL.p ?_ | refine RL.nil ?_ | refine Sim.seq ?_ | refine Sim.region ?_ | refine Sim.block ?_ | refine Sim.skip ?_ | refine Sim.inBlock ?_ | refine Sim.exit rfl ?_ | refine Sim.condT rfl ?_ | refine Sim.condF rfl ?_)
  refine RL.bx (.refl w) fun b3 w1 he3 hle3 hu _ hb3 => ?_
  have hb3 : Box w1 b3 _ [.string q.type, .string q.key, .slice ka q.picks.length kc] := hb3
  repeat (first | refine RL.vv ?_ | refine RL.p ?_ | refine RL.nil ?_ | refine Sim.seq ?_ | refine Sim.region ?_ | refine Sim.block ?_ | refine Sim.skip ?_ | refine Sim.inBlock ?_ | refine Sim.exit rfl ?_ | refine Sim.condT rfl ?_ | refine Sim.condF rfl ?_)
  refine RL.cx (MAll_any w1 (hl.up hu)) ?_
  rintro _ w2 ⟨pv, rfl, h12, hds, lab, hp⟩
  refine ⟨_, rfl, ?_⟩
  have hu2 := hu.trans h12
  have hb3 := hb3.up h12
  have hparts := hp.parts.mono (S' := fun _ => True) fun _ _ => trivial
  obtain ⟨pa, pc, rfl, hpnc, hpcm, _⟩ := id hparts
  unfold fltV
  unfold maxLen at hpcm
  clear h12 hp hu
  repeat (first | refine RL.vv ?_ | refine RL.p ?_ | refine RL.nil ?_ | refine Sim.seq ?_ | refine Sim.region ?_ | refine Sim.block ?_ | refine Sim.skip ?_ | refine Sim.inBlock ?_ | refine Sim.exit rfl ?_ | refine Sim.condT rfl ?_ | refine Sim.condF rfl ?_)
  refine RL.al hu2 fun b7 w3 he7 hle7 hu3 h23 hb7 => ?_
  have hne : b3 ≠ b7 := by have := hb3.lt; omega
  have hb3 := hb3.up h23
  repeat (first | refine RL.vv ?_ | refine RL.p ?_ | refine RL.nil ?_ | refine Sim.seq ?_ | refine Sim.region ?_ | refine Sim.block ?_ | refine Sim.skip ?_ | refine Sim.inBlock ?_ | refine Sim.exit rfl ?_ | refine Sim.condT rfl ?_ | refine Sim.condF rfl ?_)
  refine RL.st hu3 hb7 hle7 fun w4 hu hbt hb7 => ?_
  have h24 := Up.but h23 hbt (Nat.le_of_eq he7.symm)
  have hb7 : Box w4 b7 _ [.int .i64 (allM l).2.err, .int .i64 (allM l).2.at_] := hb7
  have hb3 := hb3.but hbt hne
  have hparts := hparts.up h24
  have ha7 := hb7.at
  have ha3 := hb3.at
  clear hbt h23 h24 hu2 hu3 he7
  unfold runM meanM
  by_cases he : (allM l).2.err = 0
  rotate_left
  · rw [if_neg he]
    simp only [if_neg he]
    repeat (first | refine RL.vv ?_ | refine RL.p ?_ | refine RL.nil ?_ | refine Sim.seq ?_ | refine Sim.region ?_ | refine Sim.block ?_ | refine Sim.skip ?_ | refine Sim.inBlock ?_ | refine Sim.exit rfl ?_ | refine Sim.condT rfl ?_ | refine Sim.condF rfl ?_)
    refine Sim.q ?_
    repeat (first | refine RQ.vv ?_ | refine RQ.p ?_)
    refine RQ.nil fun w5 h45 => ?_
    repeat (first | refine RL.vv ?_ | refine RL.p ?_ | refine RL.nil ?_ | refine Sim.seq ?_ | refine Sim.region ?_ | refine Sim.block ?_ | refine Sim.skip ?_ | refine Sim.inBlock ?_ | refine Sim.exit rfl ?_ | refine Sim.condT rfl ?_ | refine Sim.condF rfl ?_)
    exact Sim.ret3 Try.func42 rfl rfl rfl rfl ⟨_, _, rfl, hu.trans h45, SliceOf.nil _ _ _, SliceOf.nil _ _ _⟩
  rw [if_pos he]
  repeat (first | refine RL.vv ?_ | refine RL.p ?_ | refine RL.nil ?_ | refine Sim.seq ?_ | refine Sim.region ?_ | refine Sim.block ?_ | refine Sim.skip ?_ | refine Sim.inBlock ?_ | refine Sim.exit rfl ?_ | refine Sim.condT rfl ?_ | refine Sim.condF rfl ?_)
  refine RL.cu hu (Check_any q w4 hparts (hps.up hu)) fun w5 hu h45 => ?_
  have hb3 := hb3.up h45
  have hparts := hparts.up h45
  clear ha7 ha3 h45 hb7
  have ha3 := hb3.at
  by_cases hc : checkM (m + 1) (allM l).1 q = 0
  rotate_left
  · rw [if_neg hc]
    simp only [if_neg hc]
    repeat (first | refine RL.vv ?_ | refine RL.p ?_ | refine RL.nil ?_ | refine Sim.seq ?_ | refine Sim.region ?_ | refine Sim.block ?_ | refine Sim.skip ?_ | refine Sim.inBlock ?_ | refine Sim.exit rfl ?_ | refine Sim.condT rfl ?_ | refine Sim.condF rfl ?_)
    exact Sim.ret3 Try.func42 rfl rfl rfl rfl ⟨_, _, rfl, hu, SliceOf.nil _ _ _, SliceOf.nil _ _ _⟩
  rw [if_pos hc]
  obtain ⟨hc1, hc2, hc3, hc4⟩ := checkM_zero.1 hc
  have hsm := shapeM_small (m + 1) q.picks 1 0 (by decide) (by decide) hc3
  have hl8 := shapeM_lvl (m + 1) q.picks 1 0 8 (by decide) hlv hc3
  have hw := wholeOk he
  obtain ⟨k, t, hk, htk, htn, _⟩ := goes_ok hc4
  have hkl := (List.getElem?_eq_some_iff.1 htk).1
  obtain ⟨tb, to, cs, he2, _, htat, ⟨fv, ov, hv, rfl, hfv, hov, hhv⟩, _⟩ := hparts.at htk
  subst he2
  have htat : At w5 tb (to + k * 4) _ := htat
  have hI : InG S (fun _ => True) tb (to + k * 4) (.slice la l.length lc) (.slice (some ⟨tb, to, none⟩) (allM l).1.length pc) fv ov hv l (allM l).1 t w5 := ⟨he, rfl, List.mem_of_getElem? htk, hok, hl.up hu, hparts, htat, hfv, hov, hhv⟩
  have hps5 := hps.up hu
  have hbd := asks_bound he hc hlv hI.mem htn [q.key]
  have hth : (semOf l (allM l).1).there q.type q.key = thereM l t q.key := by rw [← htn]; simp only [semOf, partM_at hw htk]
  have hpt : partM (allM l).1 q.type = some t := by rw [← htn]; exact partM_at hw htk
  rw [hth]
  have hs5 := hu.size
  have hl3 := hb3.lt
  repeat (first | refine RL.vv ?_ | refine RL.p ?_ | refine RL.nil ?_ | refine Sim.seq ?_ | refine Sim.region ?_ | refine Sim.block ?_ | refine Sim.skip ?_ | refine Sim.inBlock ?_ | refine Sim.exit rfl ?_ | refine Sim.condT rfl ?_ | refine Sim.condF rfl ?_)
  refine RL.val trivial rfl (y_build (v := .agg #[.slice la l.length lc, .slice (some ⟨tb, to, none⟩) (allM l).1.length pc, .slice none 0 0]) rfl (fun w => by kernel_rfl)) ?_
  refine RL.bx (.refl w5) fun gb w6 he6 hle6 h56 _ hgb => ?_
  have hgb : Box w6 gb _ [.slice la l.length lc, .slice (some ⟨tb, to, none⟩) (allM l).1.length pc, .slice none 0 0] := hgb
  have hb3 := hb3.up h56
  have hu6 := hu.trans h56
  clear ha3 htat hfv hov hhv
  have hgl := hgb.lt
  have hgb3 : gb ≠ b3 := by omega
  repeat (first | refine RL.vv ?_ | refine RL.p ?_ | refine RL.nil ?_ | refine Sim.seq ?_ | refine Sim.region ?_ | refine Sim.block ?_ | refine Sim.skip ?_ | refine Sim.inBlock ?_ | refine Sim.exit rfl ?_ | refine Sim.condT rfl ?_ | refine Sim.condF rfl ?_)
  have h1 : True := trivial
  have hd := Up.drew w6
  have h2 : Up w w6.drew ∧ At w6.drew b3 0 [.string q.type, .string q.key, .slice ka q.picks.length kc] := ⟨hu6.trans hd, (hb3.up hd).at⟩
  refine Sim.cutX (σ := Nat × Value × Value × Bool) (fun st => [(10, .pointer (some ⟨gb, 0, none⟩)), (11, st.2.2.1), (12, .bool st.2.2.2)])
    (fun st w' => Up w w' ∧ Box w' gb 172 [.slice la l.length lc, .slice (some ⟨tb, to, none⟩) (allM l).1.length pc, st.2.1] ∧ Own rqLay 52 w5.heap.size (fun b => gb < b) w' st.2.1 (asksM l (allM l).1 t [q.key] q.picks) ∧ st.2.2.2 = thereM l t q.key ∧ (st.2.2.2 = true → SliceOf (gtLay (m + 2)) (fun b => w6.heap.size ≤ b) w' st.2.2.1 (thingS (semOf l (allM l).1) q.picks q.type q.key))) (fun k' next => ?_) ?_
  · refine Sim.ordD [12] (fun _ => True) (fun wq => Up w wq ∧ At wq b3 0 [.string q.type, .string q.key, .slice ka q.picks.length kc]) ?_ mixed
    refine RD.tm 0 ?_
    refine RD.tm 1 ?_
    refine RD.tm 2 ?_
    refine RD.tm 3 ?_
    refine RD.tm 4 ?_ (hy := fun wq hq => y_loadF rfl hq.2 rfl)
    refine RD.tm 7 ?_
    refine RD.tm 8 ?_ (hy := fun wq hq => y_loadF rfl hq.2 rfl)
    refine RD.tm 10 ?_
    refine RD.tm 11 ?_ (hy := fun wq hq => y_loadF rfl hq.2 rfl)
    refine RD.tm 13 ?_
    refine RD.tm 14 ?_ (hy := fun wq hq => y_loadF rfl hq.2 rfl)
    have hgb := hgb.up hd
    have hb3 := hb3.up hd
    have hl6 : w6.heap.size ≤ w6.drew.heap.size := hd.size
    refine RD.two 5 9 ?_ ?_
    · refine RL.cu (hu6.trans hd) (c_val (PFind_any q.type w6.drew ((hparts.up h56).up hd)) (by rw [hk])) fun wA huA hA => ?_
      have hgb := hgb.up hA
      have hb3 := hb3.up hA
      have h2 : Up w wA ∧ At wA b3 0 [.string q.type, .string q.key, .slice ka q.picks.length kc] := ⟨huA, hb3.at⟩
      refine RL.od h2 h1 ?_
      refine RD.tm 6 ?_
      refine RD.one 9 ?_
      refine RL.bu (el := 9) [.string q.key] huA fun b43 wB he43 _ huB hAB hb43 => ?_
      have hgb := hgb.up hAB
      have hb3 := hb3.up hAB
      have hsB : w6.heap.size ≤ wB.heap.size := Nat.le_trans hl6 (Nat.le_trans hA.size hAB.size)
      have hsA := hA.size
      have h5B := ((h56.trans hd).trans hA).trans hAB
      refine RL.od ⟨huB, hb3.at⟩ h1 ?_
      refine RD.one 12 ?_
      have hk43 : SliceOf strLay (fun b => b = b43) wB (.slice (some ⟨b43, 0, none⟩) 1 1) [q.key] := SliceOf.one hb43 rfl rfl
      refine RL.cx (things_any (m + 1) wB hI h5B hps5 (by rw [htn]; exact hc4) hsm hlv hl8 (by simp) hgb hle6 (asked := []) (Sq := fun b => gb < b) (Own.nil _ _ _ _ _) (fun x hx => by cases hx) (Nat.lt_irrefl _) (fun b hb => by have := hgb.lt; omega) (by simp only [List.length_nil]; omega) hk43 (fun b hb => ⟨by omega, fun hx => by cases hx⟩) (by simp) (by simp)) ?_
      rintro _ w9 ⟨ob, av, rfl, hE, hgb9, hask9, _, _, ents, hm9, hval⟩
      refine ⟨_, rfl, ?_⟩
      have hu9 := hE.up huB fun b hb h => by
        rcases h with h | h
        · omega
        · cases h
      have hb39 := hb3.keep (hE.keepS (S := fun b => b = b3) fun b hb _ h => by
        rcases h with h | h
        · omega
        · cases h) rfl
      refine RL.ox ⟨hu9, hb39.at⟩ ?_
      have h2 : Up w w9 ∧ At w9 b3 0 [.string q.type, .string q.key, .slice ka q.picks.length kc] := ⟨hu9, hb39.at⟩
      have hval := hval q.key (by simp)
      dsimp only at hval
      by_cases ht : thereM l t q.key = true
      rotate_left
      · have ht := Bool.eq_false_iff.2 ht
        rw [ht] at hval
        simp only [Bool.false_eq_true, if_false] at hval
        refine RD.on 15 h2 ?_ (hy := y_lookupOk (k := q.key) (v := .slice none 0 0) (c := false) Try.underlying9 hm9 rfl rfl (by rw [hval]; rfl) (by rw [hval]; rfl))
        refine RD.on 16 h2 ?_
        refine RD.tm 17 ?_
        refine RD.tm 18 ?_
        refine RD.tm 19 ?_
        refine RD.tm 20 ?_
        refine RD.done (RL.nil ?_)
        exact next (ob, av, .slice none 0 0, false) _ _ ⟨hu9, hgb9, hask9, ht.symm, fun h => by cases h⟩ sb
      · rw [ht] at hval
        simp only [if_true] at hval
        obtain ⟨gv, hg1, hg2⟩ := hval
        rw [htn] at hg2
        refine RD.on 15 h2 ?_ (hy := y_lookupOk (k := q.key) (v := gv) (c := true) Try.underlying9 hm9 rfl rfl (by rw [hg1]; rfl) (by rw [hg1]; rfl))
        refine RD.on 16 h2 ?_
        refine RD.tm 17 ?_
        refine RD.tm 18 ?_
        refine RD.tm 19 ?_
        refine RD.tm 20 ?_
        refine RD.done (RL.nil ?_)
        exact next (ob, av, gv, true) _ _ ⟨hu9, hgb9, hask9, ht.symm, fun _ => hg2.mono fun b hb => by omega⟩ sb
    · refine RL.bu (el := 9) [.string q.key] (hu6.trans hd) fun b43 wA he43 _ huA hA hb43 => ?_
      have hgb := hgb.up hA
      have hb3 := hb3.up hA
      refine RL.od ⟨huA, hb3.at⟩ h1 ?_
      refine RD.one 5 ?_
      refine RL.cu huA (c_val (PFind_any q.type wA (((hparts.up h56).up hd).up hA)) (by rw [hk])) fun wB huB hAB => ?_
      have hgb := hgb.up hAB
      have hb3 := hb3.up hAB
      have hb43 := hb43.up hAB
      have h2 : Up w wB ∧ At wB b3 0 [.string q.type, .string q.key, .slice ka q.picks.length kc] := ⟨huB, hb3.at⟩
      have hsB : w6.heap.size ≤ wB.heap.size := Nat.le_trans hl6 (Nat.le_trans hA.size hAB.size)
      have h5B := ((h56.trans hd).trans hA).trans hAB
      refine RL.od h2 h1 ?_
      refine RD.tm 6 ?_
      refine RD.one 12 ?_
      have hk43 : SliceOf strLay (fun b => b = b43) wB (.slice (some ⟨b43, 0, none⟩) 1 1) [q.key] := SliceOf.one hb43 rfl rfl
      refine RL.cx (things_any (m + 1) wB hI h5B hps5 (by rw [htn]; exact hc4) hsm hlv hl8 (by simp) hgb hle6 (asked := []) (Sq := fun b => gb < b) (Own.nil _ _ _ _ _) (fun x hx => by cases hx) (Nat.lt_irrefl _) (fun b hb => by have := hgb.lt; omega) (by simp only [List.length_nil]; omega) hk43 (fun b hb => ⟨by omega, fun hx => by cases hx⟩) (by simp) (by simp)) ?_
      rintro _ w9 ⟨ob, av, rfl, hE, hgb9, hask9, _, _, ents, hm9, hval⟩
      refine ⟨_, rfl, ?_⟩
      have hu9 := hE.up huB fun b hb h => by
        rcases h with h | h
        · omega
        · cases h
      have hb39 := hb3.keep (hE.keepS (S := fun b => b = b3) fun b hb _ h => by
        rcases h with h | h
        · omega
        · cases h) rfl
      refine RL.ox ⟨hu9, hb39.at⟩ ?_
      have h2 : Up w w9 ∧ At w9 b3 0 [.string q.type, .string q.key, .slice ka q.picks.length kc] := ⟨hu9, hb39.at⟩
      have hval := hval q.key (by simp)
      dsimp only at hval
      by_cases ht : thereM l t q.key = true
      rotate_left
      · have ht := Bool.eq_false_iff.2 ht
        rw [ht] at hval
        simp only [Bool.false_eq_true, if_false] at hval
        refine RD.on 15 h2 ?_ (hy := y_lookupOk (k := q.key) (v := .slice none 0 0) (c := false) Try.underlying9 hm9 rfl rfl (by rw [hval]; rfl) (by rw [hval]; rfl))
        refine RD.on 16 h2 ?_
        refine RD.tm 17 ?_
        refine RD.tm 18 ?_
        refine RD.tm 19 ?_
        refine RD.tm 20 ?_
        refine RD.done (RL.nil ?_)
        exact next (ob, av, .slice none 0 0, false) _ _ ⟨hu9, hgb9, hask9, ht.symm, fun h => by cases h⟩ sb
      · rw [ht] at hval
        simp only [if_true] at hval
        obtain ⟨gv, hg1, hg2⟩ := hval
        rw [htn] at hg2
        refine RD.on 15 h2 ?_ (hy := y_lookupOk (k := q.key) (v := gv) (c := true) Try.underlying9 hm9 rfl rfl (by rw [hg1]; rfl) (by rw [hg1]; rfl))
        refine RD.on 16 h2 ?_
        refine RD.tm 17 ?_
        refine RD.tm 18 ?_
        refine RD.tm 19 ?_
        refine RD.tm 20 ?_
        refine RD.done (RL.nil ?_)
        exact next (ob, av, gv, true) _ _ ⟨hu9, hgb9, hask9, ht.symm, fun _ => hg2.mono fun b hb => by omega⟩ sb
  rintro ⟨_, av, gv, c⟩ w9 ⟨hu9, hgb9, hask9, hc', hgv⟩
  simp only at hgb9 hask9 hc' hgv ⊢
  subst hc'
  have ha9 := hgb9.at
  cases ht : thereM l t q.key with
  | false =>
    simp only [Bool.false_eq_true, if_false, if_neg (show ¬ (5 : Int) = 0 by decide)]
    repeat (first | refine RL.vv ?_ | refine RL.p ?_ | refine RL.nil ?_ | refine Sim.seq ?_ | refine Sim.region ?_ | refine Sim.block ?_ | refine Sim.skip ?_ | refine Sim.inBlock ?_ | refine Sim.exit rfl ?_ | refine Sim.condT rfl ?_ | refine Sim.condF rfl ?_)
    exact Sim.ret3 Try.func42 rfl rfl rfl rfl ⟨_, _, rfl, hu9, SliceOf.nil _ _ _, SliceOf.nil _ _ _⟩
  | true =>
    simp only [if_true, hpt]
    have hgv := hgv ht
    repeat (first | refine RL.vv ?_ | refine RL.p ?_ | refine RL.nil ?_ | refine Sim.seq ?_ | refine Sim.region ?_ | refine Sim.block ?_ | refine Sim.skip ?_ | refine Sim.inBlock ?_ | refine Sim.exit rfl ?_ | refine Sim.condT rfl ?_ | refine Sim.condF rfl ?_)
    refine Sim.q ?_
    repeat (first | refine RQ.vv ?_ | refine RQ.p ?_)
    refine RQ.nil fun w10 h910 => ?_
    repeat (first | refine RL.vv ?_ | refine RL.p ?_ | refine RL.nil ?_ | refine Sim.seq ?_ | refine Sim.region ?_ | refine Sim.block ?_ | refine Sim.skip ?_ | refine Sim.inBlock ?_ | refine Sim.exit rfl ?_ | refine Sim.condT rfl ?_ | refine Sim.condF rfl ?_)
    exact Sim.ret3 Try.func42 rfl rfl rfl rfl ⟨_, _, rfl, hu9.trans h910, (hgv.up h910).mono fun b hb => by omega, (hask9.up h910).sl (fun b hb _ _ => by omega) fun g hg => by have := (hask9.lt g hg).1; omega⟩
end Go.Proofs.Ytgckpmcdlciibab
