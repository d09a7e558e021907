/- The reference of chapter 7: which requests things of some keys take. -/
import Derived.Test.YtgckpmcdlciibacYC90
import Derived.Test.YtgckpmcdlciibacZ1
namespace Go.Proofs.Ytgckpmcdlciibac
open Go.RowKit
def RAsksC (m : Nat) : Prop := ∀ {S S2 S3 Sk : Nat → Prop} {pb po d : Nat} {lv pv fv ov hv kv keysv : Value} {l : List Svc} {ps : List Prt} {p : Prt} {picks : List Pck} {keys : List Str} (w : World), (allM l).2.err = 0 → ps = (allM l).1 → RIn S S2 pb po lv pv fv ov hv l ps p w → SliceOf (pckLay m) S3 w kv picks → goesM m ps p.type.name picks = 0 → okSmall m picks → lvl m picks → lvl d picks → SliceOf strLay Sk w keysv keys → keys.length * 20 ^ d ≤ 25600000000 → (asksM l ps p keys picks).length ≤ 1000 →
  Calls Try.prog 42 #[lv, pv, .pointer (some ⟨pb, po, none⟩), keysv, kv] w fun en w' => ∃ v, en = .returned v ∧ Up w w' ∧ Own rqLay 49 w.heap.size (fun b => Sk b ∨ w.heap.size ≤ b) w' v (asksM l ps p keys picks)
theorem any_mem {l : List Str} {y : Str} : (l.any fun x => decide (x = y)) = true ↔ y ∈ l := by
  rw [List.any_eq_true]
  exact ⟨fun ⟨x, h1, h2⟩ => of_decide_eq_true h2 ▸ h1, fun h => ⟨y, h, decide_eq_true rfl⟩⟩
theorem flds_snoc (p : Prt) (h : Ownr) {picks : List Pck} {j : Nat} {q : Pck} (hq : picks[j]? = some q) : fldsFor p h ((picks.take (j + 1)).map Pck.field) = fldsStep p h (fldsFor p h ((picks.take j).map Pck.field)) q.field := by
  obtain ⟨hlt, rfl⟩ := List.getElem?_eq_some_iff.1 hq
  unfold fldsFor
  rw [List.take_succ_eq_append_getElem hlt, List.map_append, List.foldl_append]
  rfl
theorem flds_len (p : Prt) (h : Ownr) (ns : List Str) : (fldsFor p h ns).length ≤ ns.length := by
  have : ∀ (ns : List Str) (acc : List (Str × Str)), (ns.foldl (fldsStep p h) acc).length ≤ acc.length + ns.length := fun ns => by
    induction ns with
    | nil => intro acc; simp
    | cons n ns ih =>
      intro acc
      rw [List.foldl_cons]
      have := ih (fldsStep p h acc n)
      have h2 : (fldsStep p h acc n).length ≤ acc.length + 1 := by
        unfold fldsStep
        split
        · split <;> simp
        · omega
      simp only [List.length_cons]
      omega
  have := this ns []
  simpa [fldsFor] using this
theorem any_snoc {α : Type} {l : List α} {i : Nat} {x : α} {g : α → Bool} (hx : l[i]? = some x) : (l.take (i + 1)).any g = ((l.take i).any g || g x) := by
  obtain ⟨hlt, rfl⟩ := List.getElem?_eq_some_iff.1 hx
  rw [List.take_succ_eq_append_getElem hlt, List.any_append, List.any_cons, List.any_nil, Bool.or_false]
set_option maxHeartbeats 8000000 in
theorem RAsks_gen {m : Nat} (H : ∀ n, m = n + 1 → RAsksC n) : RAsksC m := by
  intro S S2 S3 Sk pb po d lv pv fv ov hv kv keysv l ps p picks keys w hA hE hI hkv hgo hsm hlv hld hks hkl hal
  refine calls_of_sim Try.func42 rfl (Nat.le_of_ble_eq_true rfl) ?_
  obtain ⟨ka, kc, rfl, hknc, hkcm, _⟩ := id hkv
  obtain ⟨la, lc, rfl, hlnc, hlcm, _⟩ := id hI.svcs
  obtain ⟨pa, pc, rfl, hpnc, hpcm, _⟩ := id hI.parts
  obtain ⟨fa, fc, rfl, hfnc, hfcm, _⟩ := id hI.fields
  obtain ⟨oa, oc, rfl, honc, hocm, _⟩ := id hI.owners
  obtain ⟨ha, hc, rfl, hhnc, hhcm, _⟩ := id hI.homes
  obtain ⟨ya, yc, rfl, hync, hycm, _⟩ := id hks
  unfold maxLen at hkcm hlcm hpcm hfcm hocm hhcm hycm
  have hpat := hI.part
  have h60 : picks.length ≤ 60 := by
    cases m with
    | zero => have : picks = [] := hlv; simp [this]
    | succ m => exact hsm.1
  have hal1 : p.homes.length + (askL l ps picks p keys).length ≤ 1000 := by
    have := hal
    unfold asksM homesRq at this
    rw [List.length_append, List.length_map] at this
    exact this
  repeat (first | refine RL.vv ?_ | refine RL.p ?_ | refine RL.nil ?_ | refine Sim.seq ?_ | refine Sim.region ?_ | refine Sim.block ?_ | refine Sim.skip ?_ | refine Sim.inBlock ?_ | refine Sim.exit rfl ?_ | refine Sim.condT rfl ?_ | refine Sim.condF rfl ?_)
  refine Sim.loop (σ := Nat × Value) (fun st => [(0, .slice la l.length lc), (1, .slice pa ps.length pc), (2, .pointer (some ⟨pb, po, none⟩)), (3, .slice ya keys.length yc), (4, .slice ka picks.length kc), (39, .slice ha p.homes.length hc), (40, .int .i64 (p.homes.length : Int)), (41, .int .i64 (st.1 : Int)), (11, st.2)])
    (fun st w' => st.1 ≤ p.homes.length ∧ Up w w' ∧ Own rqLay 49 w.heap.size (fun b => Sk b ∨ w.heap.size ≤ b) w' st.2 ((p.homes.take st.1).map (rqFor p keys picks))) (fun st => p.homes.length - st.1) (0, .slice none 0 0) sb ⟨Nat.zero_le _, .refl _, Own.nil _ _ _ _ _⟩ ?_
  rintro ⟨i, v⟩ w1 ⟨hi, hu, ho⟩ next
  simp only at hi ho next ⊢
  by_cases hlt : i < p.homes.length
  · have hx : p.homes[i]? = some p.homes[i] := List.getElem?_eq_getElem hlt
    obtain ⟨hb, ho', cs, rfl, _, hhat, rfl, _⟩ := hI.homes.at hx
    have hhat : At w hb (ho' + i * 3) _ := hhat
    have hsnoc : (p.homes.take (i + 1)).map (rqFor p keys picks) = (p.homes.take i).map (rqFor p keys picks) ++ [rqFor p keys picks p.homes[i]] := by
      rw [List.take_succ_eq_append_getElem hlt, List.map_append]
      rfl
    have hlen : ((p.homes.take i).map (rqFor p keys picks)).length = i := by rw [List.length_map, List.length_take]; omega
    generalize p.homes[i] = h at *
    repeat (first | refine RL.vv ?_ | refine RL.p ?_ | refine RL.nil ?_ | refine Sim.seq ?_ | refine Sim.region ?_ | refine Sim.block ?_ | refine Sim.skip ?_ | refine Sim.inBlock ?_ | refine Sim.exit rfl ?_ | refine Sim.condT rfl ?_ | refine Sim.condF rfl ?_)
    refine RL.al hu fun b13 w2 he13 hle13 hu2 h12 hb13 => ?_
    refine RL.st hu2 hb13 hle13 fun w3 hu3 hbt hb13 => ?_
    have hb13 : Box w3 b13 _ [.int .i64 h.service, .string h.type, .string h.field] := hb13
    have h13 : Up w1 w3 := Up.but h12 hbt (Nat.le_of_eq he13.symm)
    have ho := ho.up h13
    clear hbt h12 hu2 hu h13 he13
    have ha13 := hb13.at
    have hs3 := hu3.size
    repeat (first | refine RL.vv ?_ | refine RL.p ?_ | refine RL.nil ?_ | refine Sim.seq ?_ | refine Sim.region ?_ | refine Sim.block ?_ | refine Sim.skip ?_ | refine Sim.inBlock ?_ | refine Sim.exit rfl ?_ | refine Sim.condT rfl ?_ | refine Sim.condF rfl ?_)
    refine RL.val trivial rfl (y_build (v := .agg #[.int .i64 h.service, .string h.type, .slice ya keys.length yc, .slice none 0 0]) rfl (fun w => by kernel_rfl)) ?_
    refine RL.al hu3 fun b14 w4 he14 hle14 hu4 h34 hb14 => ?_
    refine RL.st hu4 hb14 hle14 fun w5 hu5 hbt hb14 => ?_
    have hb14 : Box w5 b14 _ [.int .i64 h.service, .string h.type, .slice ya keys.length yc, .slice none 0 0] := hb14
    have h35 : Up w3 w5 := Up.but h34 hbt (Nat.le_of_eq he14.symm)
    have hle14' : w3.heap.size ≤ b14 := Nat.le_of_eq he14.symm
    have hs5 := h35.size
    have hl14 := hb14.lt
    clear hbt h34 hu4 he14
    repeat (first | refine RL.vv ?_ | refine RL.p ?_ | refine RL.nil ?_ | refine Sim.seq ?_ | refine Sim.region ?_ | refine Sim.block ?_ | refine Sim.skip ?_ | refine Sim.inBlock ?_ | refine Sim.exit rfl ?_ | refine Sim.condT rfl ?_ | refine Sim.condF rfl ?_)
    refine Sim.loop (σ := Nat × Value) (fun st => [(0, .slice la l.length lc), (1, .slice pa ps.length pc), (2, .pointer (some ⟨pb, po, none⟩)), (3, .slice ya keys.length yc), (4, .slice ka picks.length kc), (39, .slice (some ⟨hb, ho', none⟩) p.homes.length hc), (40, .int .i64 (p.homes.length : Int)), (41, .int .i64 (i : Int)), (11, v), (13, .pointer (some ⟨b13, 0, none⟩)), (14, .pointer (some ⟨b14, 0, none⟩)), (51, .slice ka picks.length kc), (52, .int .i64 (picks.length : Int)), (53, .int .i64 (st.1 : Int))])
      (fun st w' => st.1 ≤ picks.length ∧ Up w3 w' ∧ w5.heap.size ≤ w'.heap.size ∧ Box w' b14 49 [.int .i64 h.service, .string h.type, .slice ya keys.length yc, st.2] ∧ Own strLay 9 w5.heap.size Nn w' st.2 ((fldsFor p h ((picks.take st.1).map Pck.field)).map (·.1))) (fun st => picks.length - st.1) (0, .slice none 0 0) sb ⟨Nat.zero_le _, h35, Nat.le_refl _, hb14, Own.nil _ _ _ _ _⟩ ?_
    clear hb14 h35
    rintro ⟨j', fsv⟩ w6 ⟨hj', h36, hs6, hb14, hfs⟩ next2
    simp only at hj' hb14 hfs next2 ⊢
    have hu6 := hu3.trans h36
    by_cases hjlt : j' < picks.length
    · have hxq : picks[j']? = some picks[j'] := List.getElem?_eq_getElem hjlt
      cases m with
      | zero =>
        obtain ⟨_, _, _, _, _, _, hh, _⟩ := hkv.at hxq
        exact hh.elim
      | succ m =>
      obtain ⟨kb, ko, cs, rfl, _, hkat, hkis, _⟩ := hkv.at hxq
      have hkat : At w kb (ko + j' * 3) _ := hkat
      obtain ⟨j, f, hj, hf, _, _⟩ := goes_pick hI.ok hI.mem hgo hxq
      have hsn := flds_snoc p h hxq
      have hfl := flds_len p h ((picks.take j').map Pck.field)
      rw [List.length_map, List.length_take] at hfl
      generalize picks[j'] = q at *
      obtain ⟨qv, rfl, hqv⟩ := pckLay_succ hkis
      obtain ⟨qa, qc, rfl, _⟩ := id hqv
      have hjl := (List.getElem?_eq_some_iff.1 hf).1
      obtain ⟨o, hoj⟩ : ∃ o, p.owners[j]? = some o := ⟨_, List.getElem?_eq_getElem (by rw [hI.ok.len p hI.mem]; exact hjl)⟩
      have hjo := (List.getElem?_eq_some_iff.1 hoj).1
      obtain ⟨ob, oo, cs, rfl, _, hoat, rfl, _⟩ := hI.owners.at hoj
      have hoat : At w ob (oo + j * 3) _ := hoat
      have hom : ownerM p q.field = some o := by
        unfold ownerM
        rw [hj, if_neg (by omega), Int.toNat_natCast, hoj]
      have hst : fldsStep p h (fldsFor p h ((picks.take j').map Pck.field)) q.field = if o.service = h.service ∧ o.type = h.type ∧ ¬ o.field ∈ (fldsFor p h ((picks.take j').map Pck.field)).map (·.1) then fldsFor p h ((picks.take j').map Pck.field) ++ [(o.field, q.field)] else fldsFor p h ((picks.take j').map Pck.field) := by
        unfold fldsStep
        rw [hom]
      rw [hst] at hsn
      generalize fldsFor p h ((picks.take j').map Pck.field) = fs0 at *
      clear hst
      have hu := hu6
      repeat (first | refine RL.vv ?_ | refine RL.p ?_ | refine RL.nil ?_ | refine Sim.seq ?_ | refine Sim.region ?_ | refine Sim.block ?_ | refine Sim.skip ?_ | refine Sim.inBlock ?_ | refine Sim.exit rfl ?_ | refine Sim.condT rfl ?_ | refine Sim.condF rfl ?_)
      refine RL.al hu fun b16 w7 he16 hle16 hu7 h67 hb16 => ?_
      refine RL.st hu7 hb16 hle16 fun w8 hu hbt hb16 => ?_
      have hb16 : Box w8 b16 87 [.string q.as, .string q.field, .slice qa q.picks.length qc] := hb16
      have h68 : Up w6 w8 := Up.but h67 hbt (Nat.le_of_eq he16.symm)
      have hb14 := hb14.up h68
      have hfs := hfs.up h68
      have hs8 := h68.size
      have h38 := h36.trans h68
      clear hbt h67 hu7 he16
      obtain ⟨f1, f3, rfl⟩ := hfs.shape
      repeat (first | refine RL.vv ?_ | refine RL.p ?_ | refine RL.nil ?_ | refine Sim.seq ?_ | refine Sim.region ?_ | refine Sim.block ?_ | refine Sim.skip ?_ | refine Sim.inBlock ?_ | refine Sim.exit rfl ?_ | refine Sim.condT rfl ?_ | refine Sim.condF rfl ?_)
      refine Sim.cutX (σ := Nat) (fun b17 => [(0, .slice la l.length lc), (1, .slice pa ps.length pc), (2, .pointer (some ⟨pb, po, none⟩)), (3, .slice ya keys.length yc), (4, .slice (some ⟨kb, ko, none⟩) picks.length kc), (39, .slice (some ⟨hb, ho', none⟩) p.homes.length hc), (40, .int .i64 (p.homes.length : Int)), (41, .int .i64 (i : Int)), (11, v), (13, .pointer (some ⟨b13, 0, none⟩)), (14, .pointer (some ⟨b14, 0, none⟩)), (51, .slice (some ⟨kb, ko, none⟩) picks.length kc), (52, .int .i64 (picks.length : Int)), (53, .int .i64 (j' : Int)), (17, .pointer (some ⟨b17, 0, none⟩))])
        (fun b17 w' => Up w8 w' ∧ Box w' b17 139 [.int .i64 o.service, .string o.type, .string o.field]) (fun k' next => ?_) ?_
      · have hd := Up.drew w8
        have h2 := hu.trans hd
        have h82 := hd
        have hb16 := hb16.up hd
        have hS1 : Up w w8.drew ∧ At w8.drew b16 0 [.string q.as, .string q.field, .slice qa q.picks.length qc] := ⟨h2, hb16.at⟩
        refine Sim.ordD [15] (fun wq => Up w wq ∧ At wq b16 0 [.string q.as, .string q.field, .slice qa q.picks.length qc]) (Up w) ?_ mixed
        refine RD.tk 0 ?_
        refine RD.tk 1 ?_
        refine RD.tk 2 ?_
        refine RD.tk 3 ?_ (hy := fun wq hq => y_loadF rfl (hpat.up hq.1) rfl)
        refine RD.tk 4 ?_
        refine RD.tk 5 ?_
        refine RD.tk 6 ?_
        refine RD.tk 7 ?_
        refine RD.tk 8 ?_ (hy := fun wq hq => y_loadF rfl (hpat.up hq.1) rfl)
        refine RD.tk 9 ?_
        refine RD.tk 10 ?_ (hy := fun wq hq => y_loadF rfl hq.2 rfl)
        clear hS1
        refine RD.two 11 14 ?_ ?_
        · refine RL.cx (RAt_any q.field _ (hI.fields.up h2)) ?_
          rintro _ _ ⟨rfl, hh⟩
          rw [hj]
          refine ⟨_, rfl, ?_⟩
          have h2 := h2.trans hh
          have h82 := h82.trans hh
          have hb16 := hb16.up hh
          try have hb17 := hb17.up hh
          refine RL.od h2 ⟨h2, hb16.at⟩ ?_
          refine RD.tk 12 ?_ (h1 := ⟨h2, hb16.at⟩)
          refine RD.tk 13 ?_ (h1 := ⟨h2, hb16.at⟩) (hy := fun wq hq => y_loadA rfl (hoat.up hq.1) rfl)
          clear hh
          refine RD.one 14 ?_
          refine RL.al h82 fun b17 _ he17 hle17 h82 hh hb17 => ?_
          have h2 := h2.trans hh
          have hb16 := hb16.up hh
          refine RL.od h2 ⟨h2, hb16.at⟩ ?_
          clear hh he17
          refine RD.one 15 ?_
          refine RL.st h82 hb17 hle17 fun w9 h82 hbt hb17 => ?_
          have hb17 : Box w9 b17 _ [.int .i64 o.service, .string o.type, .string o.field] := hb17
          have h2 := hu.trans h82
          refine RL.ox h2 ?_
          refine RD.done (RL.nil ?_)
          exact next b17 _ _ ⟨h82, hb17⟩ sb
        · refine RL.al h82 fun b17 _ he17 hle17 h82 hh hb17 => ?_
          have h2 := h2.trans hh
          have hb16 := hb16.up hh
          refine RL.od h2 ⟨h2, hb16.at⟩ ?_
          clear hh he17
          refine RD.one 11 ?_
          refine RL.cx (RAt_any q.field _ (hI.fields.up h2)) ?_
          rintro _ _ ⟨rfl, hh⟩
          rw [hj]
          refine ⟨_, rfl, ?_⟩
          have h2 := h2.trans hh
          have h82 := h82.trans hh
          have hb16 := hb16.up hh
          try have hb17 := hb17.up hh
          refine RL.od h2 ⟨h2, hb16.at⟩ ?_
          refine RD.tk 12 ?_ (h1 := ⟨h2, hb16.at⟩)
          refine RD.tk 13 ?_ (h1 := ⟨h2, hb16.at⟩) (hy := fun wq hq => y_loadA rfl (hoat.up hq.1) rfl)
          clear hh
          refine RD.one 15 ?_
          refine RL.st h82 hb17 hle17 fun w9 h82 hbt hb17 => ?_
          have hb17 : Box w9 b17 _ [.int .i64 o.service, .string o.type, .string o.field] := hb17
          have h2 := hu.trans h82
          refine RL.ox h2 ?_
          refine RD.done (RL.nil ?_)
          exact next b17 _ _ ⟨h82, hb17⟩ sb
      rintro b17 w9 ⟨h89, hb17⟩
      have hu := hu.trans h89
      have hb14 := hb14.up h89
      have hfs := hfs.up h89
      have h39 := h38.trans h89
      have hs9 := h89.size
      have ha17 := hb17.at
      have ha13 := ha13.up h39
      have hfsl := hfs.sl (S' := fun _ => True) (fun _ _ _ _ => trivial) fun _ _ => trivial
      obtain ⟨_, _, _, hfn, hfm, _⟩ := id hfsl
      cases ‹_ = _›
      unfold maxLen at hfm
      have hl0 : fs0.length = (fs0.map (·.1)).length := (List.length_map ..).symm
      repeat (first | refine RL.vv ?_ | refine RL.p ?_ | refine RL.nil ?_ | refine Sim.seq ?_ | refine Sim.region ?_ | refine Sim.block ?_ | refine Sim.skip ?_ | refine Sim.inBlock ?_ | refine Sim.exit rfl ?_ | refine Sim.condT rfl ?_ | refine Sim.condF rfl ?_)
      refine Sim.loop (σ := Nat × Bool) (fun st => [(0, .slice la l.length lc), (1, .slice pa ps.length pc), (2, .pointer (some ⟨pb, po, none⟩)), (3, .slice ya keys.length yc), (4, .slice (some ⟨kb, ko, none⟩) picks.length kc), (39, .slice (some ⟨hb, ho', none⟩) p.homes.length hc), (40, .int .i64 (p.homes.length : Int)), (41, .int .i64 (i : Int)), (11, v), (13, .pointer (some ⟨b13, 0, none⟩)), (14, .pointer (some ⟨b14, 0, none⟩)), (51, .slice (some ⟨kb, ko, none⟩) picks.length kc), (52, .int .i64 (picks.length : Int)), (53, .int .i64 (j' : Int)), (17, .pointer (some ⟨b17, 0, none⟩)), (72, .slice f1 (fs0.map (·.1)).length f3), (73, .int .i64 ((fs0.map (·.1)).length : Int)), (74, .int .i64 (st.1 : Int)), (18, .bool st.2)])
        (fun st w' => st.1 ≤ (fs0.map (·.1)).length ∧ w' = w9 ∧ st.2 = ((fs0.map (·.1)).take st.1).any fun x => decide (x = o.field)) (fun st => (fs0.map (·.1)).length - st.1) (0, false) sb ⟨Nat.zero_le _, rfl, rfl⟩ ?_
      rintro ⟨k, had⟩ w10 ⟨hk, rfl, hhad⟩ next3
      simp only at hk hhad next3 ⊢
      by_cases hklt : k < (fs0.map (·.1)).length
      · have hxk : (fs0.map (·.1))[k]? = some (fs0.map (·.1))[k] := List.getElem?_eq_getElem hklt
        obtain ⟨yb, yo, cs, he, _, hyat, rfl, _⟩ := hfsl.at hxk
        subst he
        have hyat : At w10 yb (yo + k * 1) _ := hyat
        have hany := any_snoc (g := fun x => decide (x = o.field)) hxk
        rw [← hhad] at hany
        generalize (fs0.map (·.1))[k] = y at *
        cases had with
        | true =>
          repeat (first | refine RL.vv ?_ | refine RL.p ?_ | refine RL.nil ?_ | refine Sim.seq ?_ | refine Sim.region ?_ | refine Sim.block ?_ | refine Sim.skip ?_ | refine Sim.inBlock ?_ | refine Sim.exit rfl ?_ | refine Sim.condT rfl ?_ | refine Sim.condF rfl ?_)
          exact next3 (k + 1, true) _ _ ⟨by first | omega | (simp only; omega), rfl, by simp only; rw [hany]; rfl⟩ (by first | omega | (simp only; omega)) sb
        | false =>
          by_cases hyo : y = o.field
          · repeat (first | refine RL.vv ?_ | refine RL.p ?_ | refine RL.nil ?_ | refine Sim.seq ?_ | refine Sim.region ?_ | refine Sim.block ?_ | refine Sim.skip ?_ | refine Sim.inBlock ?_ | refine Sim.exit rfl ?_ | refine Sim.condT rfl ?_ | refine Sim.condF rfl ?_)
            exact next3 (k + 1, true) _ _ ⟨by first | omega | (simp only; omega), rfl, by simp only; rw [hany, decide_eq_true hyo]; rfl⟩ (by first | omega | (simp only; omega)) sb
          · repeat (first | refine RL.vv ?_ | refine RL.p ?_ | refine RL.nil ?_ | refine Sim.seq ?_ | refine Sim.region ?_ | refine Sim.block ?_ | refine Sim.skip ?_ | refine Sim.inBlock ?_ | refine Sim.exit rfl ?_ | refine Sim.condT rfl ?_ | refine Sim.condF rfl ?_)
            exact next3 (k + 1, false) _ _ ⟨by first | omega | (simp only; omega), rfl, by simp only; rw [hany, decide_eq_false hyo]; rfl⟩ (by first | omega | (simp only; omega)) sb
      have hkn : k = (fs0.map (·.1)).length := by omega
      subst hkn
      rw [List.take_length] at hhad
      clear next3 hfsl
      have hstay : (¬ (o.service = h.service ∧ o.type = h.type ∧ ¬ o.field ∈ fs0.map (·.1))) → fldsFor p h ((picks.take (j' + 1)).map Pck.field) = fs0 := fun hh => by rw [hsn, if_neg hh]
      cases had with
      | true =>
        have hin := any_mem.1 hhad.symm
        have hsn := hstay fun hh => hh.2.2 hin
        repeat (first | refine RL.vv ?_ | refine RL.p ?_ | refine RL.nil ?_ | refine Sim.seq ?_ | refine Sim.region ?_ | refine Sim.block ?_ | refine Sim.skip ?_ | refine Sim.inBlock ?_ | refine Sim.exit rfl ?_ | refine Sim.condT rfl ?_ | refine Sim.condF rfl ?_)
        exact next2 (j' + 1, _) _ _ ⟨by first | omega | (simp only; omega), h39, by first | omega | (simp only; omega), hb14, by simp only; rw [hsn]; exact hfs⟩ (by first | omega | (simp only; omega)) sb
      | false =>
      have hin : ¬ o.field ∈ fs0.map (·.1) := fun hh => by
        rw [any_mem.2 hh] at hhad
        cases hhad
      by_cases hsv : o.service = h.service
      rotate_left
      · have hsn := hstay fun hh => hsv hh.1
        repeat (first | refine RL.vv ?_ | refine RL.p ?_ | refine RL.nil ?_ | refine Sim.seq ?_ | refine Sim.region ?_ | refine Sim.block ?_ | refine Sim.skip ?_ | refine Sim.inBlock ?_ | refine Sim.exit rfl ?_ | refine Sim.condT rfl ?_ | refine Sim.condF rfl ?_)
        exact next2 (j' + 1, _) _ _ ⟨by first | omega | (simp only; omega), h39, by first | omega | (simp only; omega), hb14, by simp only; rw [hsn]; exact hfs⟩ (by first | omega | (simp only; omega)) sb
      by_cases hty : o.type = h.type
      rotate_left
      · have hsn := hstay fun hh => hty hh.2.1
        repeat (first | refine RL.vv ?_ | refine RL.p ?_ | refine RL.nil ?_ | refine Sim.seq ?_ | refine Sim.region ?_ | refine Sim.block ?_ | refine Sim.skip ?_ | refine Sim.inBlock ?_ | refine Sim.exit rfl ?_ | refine Sim.condT rfl ?_ | refine Sim.condF rfl ?_)
        exact next2 (j' + 1, _) _ _ ⟨by first | omega | (simp only; omega), h39, by first | omega | (simp only; omega), hb14, by simp only; rw [hsn]; exact hfs⟩ (by first | omega | (simp only; omega)) sb
      rw [if_pos ⟨hsv, hty, hin⟩] at hsn
      have ha14 := hb14.at
      repeat (first | refine RL.vv ?_ | refine RL.p ?_ | refine RL.nil ?_ | refine Sim.seq ?_ | refine Sim.region ?_ | refine Sim.block ?_ | refine Sim.skip ?_ | refine Sim.inBlock ?_ | refine Sim.exit rfl ?_ | refine Sim.condT rfl ?_ | refine Sim.condF rfl ?_)
      refine RL.bu (el := 9) [.string o.field] h39 fun b106 w11 he106 hle106 h311 h1011 hb106 => ?_
      have hb14 := hb14.up h1011
      have hs11 := h1011.size
      refine RL.app (L := strLay) (el := 9) (S := fun _ => True) (B := w5.heap.size) (ys := [o.field]) h311 ((hfs.up h1011).no (S' := fun _ => True)) (SliceOf.one hb106 ⟨trivial, hfs.ne (Nat.le_of_eq he106.symm)⟩ rfl) (by simp only [List.length_cons, List.length_nil]; omega) hs5 (by omega) fun fv' w12 h312 hfs2 hg hv => ?_
      have hb14 := hb14.grown hg (hfs.ne' hl14)
      have hfs2 := hfs2.no (S' := Nn)
      obtain ⟨g1, g2, g3, rfl⟩ := hfs2.sh
      repeat (first | refine RL.vv ?_ | refine RL.p ?_ | refine RL.nil ?_ | refine Sim.seq ?_ | refine Sim.region ?_ | refine Sim.block ?_ | refine Sim.skip ?_ | refine Sim.inBlock ?_ | refine Sim.exit rfl ?_ | refine Sim.condT rfl ?_ | refine Sim.condF rfl ?_)
      refine RL.st h312 hb14 hle14' fun w13 h313 hbt hb14 => ?_
      have hfs3 := hfs2.but hbt (fun _ h => h.elim) (fun g hg => by have := (hfs2.lt g hg).1; omega)
      repeat (first | refine RL.vv ?_ | refine RL.p ?_ | refine RL.nil ?_ | refine Sim.seq ?_ | refine Sim.region ?_ | refine Sim.block ?_ | refine Sim.skip ?_ | refine Sim.inBlock ?_ | refine Sim.exit rfl ?_ | refine Sim.condT rfl ?_ | refine Sim.condF rfl ?_)
      exact next2 (j' + 1, .slice g1 g2 g3) _ _ ⟨by first | omega | (simp only; omega), h313, by have := hbt.size; have := hg.size; first | omega | (simp only; omega), hb14, by simp only; rw [hsn, List.map_append]; exact hfs3⟩ (by first | omega | (simp only; omega)) sb
    have hjn : j' = picks.length := by omega
    subst hjn
    rw [List.take_length] at hfs
    obtain ⟨f1, f3, rfl⟩ := hfs.shape
    have ha14 := hb14.at
    repeat (first | refine RL.vv ?_ | refine RL.p ?_ | refine RL.nil ?_ | refine Sim.seq ?_ | refine Sim.region ?_ | refine Sim.block ?_ | refine Sim.skip ?_ | refine Sim.inBlock ?_ | refine Sim.exit rfl ?_ | refine Sim.condT rfl ?_ | refine Sim.condF rfl ?_)
    refine RL.bu (el := 49) [.int .i64 h.service, .string h.type, .slice ya keys.length yc, .slice f1 ((fldsFor p h (picks.map Pck.field)).map (·.1)).length f3] hu6 fun b112 w7 he112 hle112 hu7 h67 hb112 => ?_
    have hs7 := h67.size
    refine RL.app (L := rqLay) (el := 49) (S := fun b => Sk b ∨ w.heap.size ≤ b) (B := w.heap.size) (ys := [rqFor p keys picks h]) hu7 (ho.up (h36.trans h67)) (SliceOf.one hb112 ⟨.inr (by omega), ho.ne (by have := h36.size; omega)⟩ ⟨_, _, rfl, (hks.old.up hu7).mono fun b hb => ⟨.inl hb.1, ho.ne' hb.2⟩, (hfs.up h67).sl (fun _ h _ _ => h.elim) fun g hg => ⟨.inr (by have := (hfs.lt g hg).1; omega), ho.ne (by have := (hfs.lt g hg).1; omega)⟩⟩) (by simp only [List.length_cons, List.length_nil, hlen]; omega) (Nat.le_refl _) (by omega) fun v' w8 hu8 ho2 hg hv => ?_
    repeat (first | refine RL.vv ?_ | refine RL.p ?_ | refine RL.nil ?_ | refine Sim.seq ?_ | refine Sim.region ?_ | refine Sim.block ?_ | refine Sim.skip ?_ | refine Sim.inBlock ?_ | refine Sim.exit rfl ?_ | refine Sim.condT rfl ?_ | refine Sim.condF rfl ?_)
    exact next (i + 1, v') _ _ ⟨by first | omega | (simp only; omega), hu8, by simp only; rw [hsnoc]; exact ho2⟩ (by first | omega | (simp only; omega)) sb
  have hin : i = p.homes.length := by omega
  subst hin
  rw [List.take_length] at ho
  have ho : Own rqLay 49 w.heap.size (fun b => Sk b ∨ w.heap.size ≤ b) w1 v (homesRq p keys picks) := ho
  clear next
  repeat (first | refine RL.vv ?_ | refine RL.p ?_ | refine RL.nil ?_ | refine Sim.seq ?_ | refine Sim.region ?_ | refine Sim.block ?_ | refine Sim.skip ?_ | refine Sim.inBlock ?_ | refine Sim.exit rfl ?_ | refine Sim.condT rfl ?_ | refine Sim.condF rfl ?_)
  refine Sim.loop (σ := Nat × Value) (fun st => [(0, .slice la l.length lc), (1, .slice pa ps.length pc), (2, .pointer (some ⟨pb, po, none⟩)), (3, .slice ya keys.length yc), (4, .slice ka picks.length kc), (115, .slice ka picks.length kc), (116, .int .i64 (picks.length : Int)), (117, .int .i64 (st.1 : Int)), (11, st.2)])
    (fun st w' => st.1 ≤ picks.length ∧ Up w w' ∧ Own rqLay 49 w.heap.size (fun b => Sk b ∨ w.heap.size ≤ b) w' st.2 (homesRq p keys picks ++ askL l ps (picks.take st.1) p keys)) (fun st => picks.length - st.1) (0, v) sb ⟨Nat.zero_le _, hu, by simp only [List.take_zero, askL, List.append_nil]; exact ho⟩ ?_
  clear ho hu hi hlt
  rintro ⟨i, v⟩ w1 ⟨hi, hu, ho⟩ next
  simp only at hi ho next ⊢
  by_cases hlt : i < picks.length
  rotate_left
  · have : i = picks.length := by omega
    subst this
    rw [List.take_length] at ho
    repeat (first | refine RL.vv ?_ | refine RL.p ?_ | refine RL.nil ?_ | refine Sim.seq ?_ | refine Sim.region ?_ | refine Sim.block ?_ | refine Sim.skip ?_ | refine Sim.inBlock ?_ | refine Sim.exit rfl ?_ | refine Sim.condT rfl ?_ | refine Sim.condF rfl ?_)
    exact Sim.ret1 Try.func42 rfl rfl ⟨_, rfl, hu, ho⟩
  have hx : picks[i]? = some picks[i] := List.getElem?_eq_getElem hlt
  cases m with
  | zero =>
    obtain ⟨_, _, _, _, _, _, hh, _⟩ := hkv.at hx
    exact hh.elim
  | succ m =>
  cases d with
  | zero =>
    have h0 : picks = [] := hld
    subst h0
    simp at hlt
  | succ d =>
  obtain ⟨kb, ko, cs, rfl, _, hkat, hkis, _⟩ := hkv.at hx
  have hkat : At w kb (ko + i * 3) _ := hkat
  obtain ⟨j, f, hj, hf, hkind, hsub⟩ := goes_pick hI.ok hI.mem hgo hx
  have hmemq := List.mem_of_getElem? hx
  have hsm2 := hsm.2 picks[i] hmemq
  have hlv2 := hlv picks[i] hmemq
  have hld2 := hld picks[i] hmemq
  have hsnoc : askL l ps (picks.take (i + 1)) p keys = askL l ps (picks.take i) p keys ++ askP l ps picks[i] p keys := by
    rw [List.take_succ_eq_append_getElem hlt, askL_app]
    simp [askL]
  have hle := askL_len l ps p keys picks (i + 1)
  rw [hsnoc, List.length_append] at hle
  have hapq := askP_eq l ps picks[i] p keys
  generalize picks[i] = q at *
  rw [fldM_at hj hf] at hapq
  simp only at hapq
  have hfl20 := flat_leads hA (by rw [← hE]; exact hI.mem) hj hf
  obtain ⟨qv, rfl, hqv⟩ := pckLay_succ hkis
  obtain ⟨qa, qc, rfl, _⟩ := id hqv
  obtain ⟨k0, hk0⟩ := List.getElem?_of_mem hI.mem
  obtain ⟨tb, to, _, he, _⟩ := hI.parts.at hk0
  subst he
  obtain ⟨fb, fo, cs, rfl, _, hfat, rfl, _⟩ := hI.fields.at hf
  have hfat : At w fb (fo + j * 3) _ := hfat
  have hjl := (List.getElem?_eq_some_iff.1 hf).1
  obtain ⟨o, hoj⟩ : ∃ o, p.owners[j]? = some o := ⟨_, List.getElem?_eq_getElem (by rw [hI.ok.len p hI.mem]; exact hjl)⟩
  have hjo := (List.getElem?_eq_some_iff.1 hoj).1
  obtain ⟨ob, oo, cs, rfl, _, hoat, rfl, _⟩ := hI.owners.at hoj
  have hoat : At w ob (oo + j * 3) _ := hoat
  obtain ⟨ho0, ⟨s, hos⟩, hval⟩ := hI.ok.owner p hI.mem j f o hf hoj
  have hfw := fun key => findW_at (o := o) (k := key) hos
  have hom : ownerM p q.field = some o := by
    unfold ownerM
    rw [hj, if_neg (by omega), Int.toNat_natCast, hoj]
  have hlead : ∀ key, leadsOf l p q.field key = match findW l o key with
      | some x => (x.vals.filter fun u => decide (u.field = o.field)).flatMap (·.keys)
      | none => [] := fun key => by
    unfold leadsOf
    rw [valOf_owner hom]
    cases hw : findW l o key with
    | none => rfl
    | some x =>
      obtain ⟨v0, h1, _⟩ := hval key x hw
      simp only
      rw [← List.head?_filter, h1]
      simp
  obtain ⟨n, hn⟩ := Int.eq_ofNat_of_zero_le ho0
  rw [hn, Int.toNat_natCast] at hos
  rw [hn] at hoat
  obtain ⟨vb, vo, cs, rfl, _, hvat, ⟨v1, v2, v3, rfl, _, _, hxs⟩, _⟩ := hI.svcs.at hos
  have hvat : At w vb (vo + n * 3) _ := hvat
  have hnl := (List.getElem?_eq_some_iff.1 hos).1
  obtain ⟨hk1, hk3, hkt⟩ := hI.ok.kind p hI.mem j f hf
  clear hkis hkv hgo hsm hlv hld
  repeat (first | refine RL.vv ?_ | refine RL.p ?_ | refine RL.nil ?_ | refine Sim.seq ?_ | refine Sim.region ?_ | refine Sim.block ?_ | refine Sim.skip ?_ | refine Sim.inBlock ?_ | refine Sim.exit rfl ?_ | refine Sim.condT rfl ?_ | refine Sim.condF rfl ?_)
  refine RL.al hu fun b22 w2 he22 hle22 hu2 h12 hb22 => ?_
  refine RL.st hu2 hb22 hle22 fun w3 hu hbt hb22 => ?_
  have hb22 : Box w3 b22 87 [.string q.as, .string q.field, .slice qa q.picks.length qc] := hb22
  have h13 : Up w1 w3 := Up.but h12 hbt (Nat.le_of_eq he22.symm)
  have hle22' : w1.heap.size ≤ b22 := Nat.le_of_eq he22.symm
  clear hbt h12 hu2 he22
  repeat (first | refine RL.vv ?_ | refine RL.p ?_ | refine RL.nil ?_ | refine Sim.seq ?_ | refine Sim.region ?_ | refine Sim.block ?_ | refine Sim.skip ?_ | refine Sim.inBlock ?_ | refine Sim.exit rfl ?_ | refine Sim.condT rfl ?_ | refine Sim.condF rfl ?_)
  refine Sim.q ?_
  repeat (first | refine RQ.vv ?_ | refine RQ.p ?_)
  refine RQ.cu (fun wq hq => q_call (c_val (RAt_any q.field wq (hI.fields.up (hu.trans hq))) (by rw [hj])) hq) ?_
  repeat (first | refine RQ.vv ?_ | refine RQ.p ?_)
  refine RQ.nil fun w4 h34 => ?_
  have hu := hu.trans h34
  have hb22 := hb22.up h34
  have h14 := h13.trans h34
  clear h34 h13
  by_cases hkind1 : f.kind = 1
  · rw [if_pos hkind1] at hapq
    repeat (first | refine RL.vv ?_ | refine RL.p ?_ | refine RL.nil ?_ | refine Sim.seq ?_ | refine Sim.region ?_ | refine Sim.block ?_ | refine Sim.skip ?_ | refine Sim.inBlock ?_ | refine Sim.exit rfl ?_ | refine Sim.condT rfl ?_ | refine Sim.condF rfl ?_)
    exact next (i + 1, v) _ _ ⟨by first | omega | (simp only; omega), hu, by simp only; rw [hsnoc, hapq, List.append_nil]; exact ho.up h14⟩ (by first | omega | (simp only; omega)) sb
  rw [if_neg hkind1] at hapq
  repeat (first | refine RL.vv ?_ | refine RL.p ?_ | refine RL.nil ?_ | refine Sim.seq ?_ | refine Sim.region ?_ | refine Sim.block ?_ | refine Sim.skip ?_ | refine Sim.inBlock ?_ | refine Sim.exit rfl ?_ | refine Sim.condT rfl ?_ | refine Sim.condF rfl ?_)
  refine RL.al hu fun b24 w5 he24 hle24 hu5 h45 hb24 => ?_
  refine RL.st hu5 hb24 hle24 fun w6 hu hbt hb24 => ?_
  have hb24 : Box w6 b24 139 [.int .i64 (n : Int), .string o.type, .string o.field] := hb24
  have h46 : Up w4 w6 := Up.but h45 hbt (Nat.le_of_eq he24.symm)
  have hb22 := hb22.up h46
  have h16 := h14.trans h46
  have ha24 := hb24.at
  have ha22 := hb22.at
  have hs16 := h16.size
  have hsw := hu.size
  clear hbt h45 hu5 he24 h46 h14 hoat
  repeat (first | refine RL.vv ?_ | refine RL.p ?_ | refine RL.nil ?_ | refine Sim.seq ?_ | refine Sim.region ?_ | refine Sim.block ?_ | refine Sim.skip ?_ | refine Sim.inBlock ?_ | refine Sim.exit rfl ?_ | refine Sim.condT rfl ?_ | refine Sim.condF rfl ?_)
  refine Sim.loop (σ := Nat × Value) (fun st => [(0, .slice (some ⟨vb, vo, none⟩) l.length lc), (1, .slice (some ⟨tb, to, none⟩) ps.length pc), (2, .pointer (some ⟨pb, po, none⟩)), (3, .slice ya keys.length yc), (4, .slice (some ⟨kb, ko, none⟩) picks.length kc), (115, .slice (some ⟨kb, ko, none⟩) picks.length kc), (116, .int .i64 (picks.length : Int)), (117, .int .i64 (i : Int)), (11, v), (22, .pointer (some ⟨b22, 0, none⟩)), (23, .int .i64 (j : Int)), (24, .pointer (some ⟨b24, 0, none⟩)), (146, .slice ya keys.length yc), (147, .int .i64 (keys.length : Int)), (148, .int .i64 (st.1 : Int)), (25, st.2)])
    (fun st w' => st.1 ≤ keys.length ∧ Up w6 w' ∧ Own strLay 9 w6.heap.size Nn w' st.2 (dedup ((keys.take st.1).flatMap (leadsOf l p q.field)))) (fun st => keys.length - st.1) (0, .slice none 0 0) sb ⟨Nat.zero_le _, .refl _, Own.nil _ _ _ _ _⟩ ?_
  have hu06 := hu
  clear hu
  rintro ⟨a, nv⟩ w7 ⟨ha, h67, hnv⟩ next2
  simp only at ha hnv next2 ⊢
  have hu := hu06.trans h67
  by_cases halt : a < keys.length
  · have hka : keys[a]? = some keys[a] := List.getElem?_eq_getElem halt
    obtain ⟨yb, yo, cs, rfl, _, hyat, rfl, _⟩ := hks.at hka
    have hyat : At w yb (yo + a * 1) _ := hyat
    have hfm : (keys.take (a + 1)).flatMap (leadsOf l p q.field) = (keys.take a).flatMap (leadsOf l p q.field) ++ leadsOf l p q.field keys[a] := by
      rw [List.take_succ_eq_append_getElem halt, List.flatMap_append]
      simp
    have h20 := hfl20 (keys.take a)
    rw [List.length_take] at h20
    generalize keys[a] = key at *
    have hld := hlead key
    have ha24 := ha24.up h67
    generalize hprev : (keys.take a).flatMap (leadsOf l p q.field) = prev at *
    repeat (first | refine RL.vv ?_ | refine RL.p ?_ | refine RL.nil ?_ | refine Sim.seq ?_ | refine Sim.region ?_ | refine Sim.block ?_ | refine Sim.skip ?_ | refine Sim.inBlock ?_ | refine Sim.exit rfl ?_ | refine Sim.condT rfl ?_ | refine Sim.condF rfl ?_)
    by_cases hk : thingAt s.things o.type key < 0
    · have e : thingAt s.things o.type key = -1 := thingAt_neg' hk
      rw [hfw, thingM_no hk] at hld
      simp only at hld
      refine Sim.q ?_
      repeat (first | refine RQ.vv ?_ | refine RQ.p ?_)
      refine RQ.cu (fun wq hq => q_same (c_val (RThing_any o.type key wq (hxs.up (hu.trans hq))) (by rw [e, ptrAt_neg])) hq) ?_
      repeat (first | refine RQ.vv ?_ | refine RQ.p ?_)
      refine RQ.nil fun w8 h78 => ?_
      repeat (first | refine RL.vv ?_ | refine RL.p ?_ | refine RL.nil ?_ | refine Sim.seq ?_ | refine Sim.region ?_ | refine Sim.block ?_ | refine Sim.skip ?_ | refine Sim.inBlock ?_ | refine Sim.exit rfl ?_ | refine Sim.condT rfl ?_ | refine Sim.condF rfl ?_)
      exact next2 (a + 1, nv) _ _ ⟨by first | omega | (simp only; omega), h67.trans h78, by simp only; rw [hfm, hld, List.append_nil]; exact hnv.up h78⟩ (by first | omega | (simp only; omega)) sb
    obtain ⟨jx, x, hjx, hxj⟩ := thingAt_get hk
    obtain ⟨xa, xc, rfl, _⟩ := id hxs
    obtain ⟨xb, xo, cs, he, _, hxat, ⟨vv, rfl, hvv⟩, _⟩ := hxs.at hxj
    subst he
    have hxat : At w xb (xo + jx * 3) _ := hxat
    have hfw' : findW l o key = some x := by rw [hfw, thingM_some hjx hxj]
    rw [hfw'] at hld
    simp only at hld
    obtain ⟨v0, hv1, hv2, hv3, hvf⟩ := hval key x hfw'
    have hv20 := hvf.keys
    obtain ⟨va, vc, rfl, hvnc, hvcm, _⟩ := id hvv
    unfold maxLen at hvcm
    refine Sim.q ?_
    repeat (first | refine RQ.vv ?_ | refine RQ.p ?_)
    refine RQ.cu (fun wq hq => q_same (c_val (RThing_any o.type key wq (hxs.up (hu.trans hq))) (by rw [hjx, ptrAt_nat])) hq) ?_
    repeat (first | refine RQ.vv ?_ | refine RQ.p ?_)
    refine RQ.nil fun w8 h78 => ?_
    have hu := hu.trans h78
    have h68 := h67.trans h78
    have hnv := hnv.up h78
    have ha24 := ha24.up h78
    clear h78 hk
    repeat (first | refine RL.vv ?_ | refine RL.p ?_ | refine RL.nil ?_ | refine Sim.seq ?_ | refine Sim.region ?_ | refine Sim.block ?_ | refine Sim.skip ?_ | refine Sim.inBlock ?_ | refine Sim.exit rfl ?_ | refine Sim.condT rfl ?_ | refine Sim.condF rfl ?_)
    refine Sim.loop (σ := Nat × Value) (fun st => [(0, .slice (some ⟨vb, vo, none⟩) l.length lc), (1, .slice (some ⟨tb, to, none⟩) ps.length pc), (2, .pointer (some ⟨pb, po, none⟩)), (3, .slice (some ⟨yb, yo, none⟩) keys.length yc), (4, .slice (some ⟨kb, ko, none⟩) picks.length kc), (115, .slice (some ⟨kb, ko, none⟩) picks.length kc), (116, .int .i64 (picks.length : Int)), (117, .int .i64 (i : Int)), (11, v), (22, .pointer (some ⟨b22, 0, none⟩)), (23, .int .i64 (j : Int)), (24, .pointer (some ⟨b24, 0, none⟩)), (146, .slice (some ⟨yb, yo, none⟩) keys.length yc), (147, .int .i64 (keys.length : Int)), (148, .int .i64 (a : Int)), (167, .slice va x.vals.length vc), (168, .int .i64 (x.vals.length : Int)), (169, .int .i64 (st.1 : Int)), (25, st.2)])
      (fun st w' => st.1 ≤ x.vals.length ∧ Up w6 w' ∧ Own strLay 9 w6.heap.size Nn w' st.2 (dedup (prev ++ ((x.vals.take st.1).filter fun u => decide (u.field = o.field)).flatMap (·.keys)))) (fun st => x.vals.length - st.1) (0, nv) sb ⟨Nat.zero_le _, h68, by simp only [List.take_zero, List.filter_nil, List.flatMap_nil, List.append_nil]; exact hnv⟩ ?_
    have ha24 := hb24.at
    clear hnv hu
    rintro ⟨b, nv⟩ w9 ⟨hb, h69, hnv⟩ next3
    simp only at hb hnv next3 ⊢
    have hu := hu06.trans h69
    by_cases hblt : b < x.vals.length
    rotate_left
    · have : b = x.vals.length := by omega
      subst this
      rw [List.take_length, ← hld] at hnv
      repeat (first | refine RL.vv ?_ | refine RL.p ?_ | refine RL.nil ?_ | refine Sim.seq ?_ | refine Sim.region ?_ | refine Sim.block ?_ | refine Sim.skip ?_ | refine Sim.inBlock ?_ | refine Sim.exit rfl ?_ | refine Sim.condT rfl ?_ | refine Sim.condF rfl ?_)
      exact next2 (a + 1, nv) _ _ ⟨by first | omega | (simp only; omega), h69, by simp only; rw [hfm]; exact hnv⟩ (by first | omega | (simp only; omega)) sb
    have hxb : x.vals[b]? = some x.vals[b] := List.getElem?_eq_getElem hblt
    obtain ⟨ub, uo, cs, rfl, _, huat, ⟨uk, rfl, huk⟩, _⟩ := hvv.at hxb
    have huat : At w ub (uo + b * 3) _ := huat
    have hsn := filter_snoc (g := fun u : VVal => decide (u.field = o.field)) hxb
    have hone := one_hit hv1 hxb
    generalize x.vals[b] = u at *
    obtain ⟨ka2, kc2, rfl, hkn2, hkm2, _⟩ := id huk
    unfold maxLen at hkm2
    generalize hF : (x.vals.take b).filter (fun u : VVal => decide (u.field = o.field)) = F at *
    have hE2 : ((x.vals.take (b + 1)).filter fun u => decide (u.field = o.field)).flatMap (·.keys) = F.flatMap (·.keys) ++ (if u.field = o.field then u.keys else []) := by
      rw [hsn, List.flatMap_append]
      by_cases hm : u.field = o.field
      · rw [decide_eq_true hm, if_pos rfl, if_pos hm]; simp
      · rw [decide_eq_false hm, if_neg (by decide), if_neg hm]; simp
    repeat (first | refine RL.vv ?_ | refine RL.p ?_ | refine RL.nil ?_ | refine Sim.seq ?_ | refine Sim.region ?_ | refine Sim.block ?_ | refine Sim.skip ?_ | refine Sim.inBlock ?_ | refine Sim.exit rfl ?_ | refine Sim.condT rfl ?_ | refine Sim.condF rfl ?_)
    refine RL.al hu fun b30 w10 he30 hle30 hu10 h910 hb30 => ?_
    refine RL.st hu10 hb30 hle30 fun w11 hu hbt hb30 => ?_
    have hb30 : Box w11 b30 73 [.string u.field, .string u.text, .slice ka2 u.keys.length kc2] := hb30
    have h911 := Up.but h910 hbt (Nat.le_of_eq he30.symm)
    have ha30 := hb30.at
    have hn30 : ∀ g, nv.ownBlock = some g → g ≠ b30 := fun g hg => by have := (hnv.lt g hg).2; omega
    have hnv := hnv.up h911
    have h611 := h69.trans h911
    clear hbt h910 hu10 he30
    repeat (first | refine RL.vv ?_ | refine RL.p ?_ | refine RL.nil ?_ | refine Sim.seq ?_ | refine Sim.region ?_ | refine Sim.block ?_ | refine Sim.skip ?_ | refine Sim.inBlock ?_ | refine Sim.exit rfl ?_ | refine Sim.condT rfl ?_ | refine Sim.condF rfl ?_)
    refine Sim.loop (σ := Nat × Value) (fun st => [(0, .slice (some ⟨vb, vo, none⟩) l.length lc), (1, .slice (some ⟨tb, to, none⟩) ps.length pc), (2, .pointer (some ⟨pb, po, none⟩)), (3, .slice (some ⟨yb, yo, none⟩) keys.length yc), (4, .slice (some ⟨kb, ko, none⟩) picks.length kc), (115, .slice (some ⟨kb, ko, none⟩) picks.length kc), (116, .int .i64 (picks.length : Int)), (117, .int .i64 (i : Int)), (11, v), (22, .pointer (some ⟨b22, 0, none⟩)), (23, .int .i64 (j : Int)), (24, .pointer (some ⟨b24, 0, none⟩)), (146, .slice (some ⟨yb, yo, none⟩) keys.length yc), (147, .int .i64 (keys.length : Int)), (148, .int .i64 (a : Int)), (167, .slice (some ⟨ub, uo, none⟩) x.vals.length vc), (168, .int .i64 (x.vals.length : Int)), (169, .int .i64 (b : Int)), (30, .pointer (some ⟨b30, 0, none⟩)), (174, .slice ka2 u.keys.length kc2), (175, .int .i64 (u.keys.length : Int)), (176, .int .i64 (st.1 : Int)), (25, st.2)])
      (fun st w' => st.1 ≤ u.keys.length ∧ Up w6 w' ∧ Box w' b30 73 [.string u.field, .string u.text, .slice ka2 u.keys.length kc2] ∧ (∀ g, st.2.ownBlock = some g → g ≠ b30) ∧ Own strLay 9 w6.heap.size Nn w' st.2 (dedup (prev ++ F.flatMap (·.keys) ++ if u.field = o.field then u.keys.take st.1 else []))) (fun st => u.keys.length - st.1) (0, nv) sb ⟨Nat.zero_le _, h611, hb30, hn30, by simp only [List.take_zero, ite_self, List.append_nil]; exact hnv⟩ ?_
    clear hnv hu hb30 hn30 ha30
    rintro ⟨c, nv⟩ w12 ⟨hc, h612, hb30, hn30, hnv⟩ next4
    simp only at hc hn30 hnv next4 ⊢
    have hu := hu06.trans h612
    by_cases hclt : c < u.keys.length
    rotate_left
    · have : c = u.keys.length := by omega
      subst this
      rw [List.take_length] at hnv
      repeat (first | refine RL.vv ?_ | refine RL.p ?_ | refine RL.nil ?_ | refine Sim.seq ?_ | refine Sim.region ?_ | refine Sim.block ?_ | refine Sim.skip ?_ | refine Sim.inBlock ?_ | refine Sim.exit rfl ?_ | refine Sim.condT rfl ?_ | refine Sim.condF rfl ?_)
      exact next3 (b + 1, nv) _ _ ⟨by first | omega | (simp only; omega), h612, by simp only; rw [hE2, ← List.append_assoc]; exact hnv⟩ (by first | omega | (simp only; omega)) sb
    have hyc : u.keys[c]? = some u.keys[c] := List.getElem?_eq_getElem hclt
    obtain ⟨zb, zo, cs, rfl, _, hzat, rfl, _⟩ := huk.at hyc
    have hzat : At w zb (zo + c * 1) _ := hzat
    have hstep : dedup (prev ++ F.flatMap (·.keys) ++ if u.field = o.field then u.keys.take (c + 1) else []) = if u.field = o.field then addNew (dedup (prev ++ F.flatMap (·.keys) ++ if u.field = o.field then u.keys.take c else [])) u.keys[c] else dedup (prev ++ F.flatMap (·.keys) ++ if u.field = o.field then u.keys.take c else []) := by
      by_cases hm : u.field = o.field
      · simp only [if_pos hm]
        rw [List.take_succ_eq_append_getElem hclt, ← List.append_assoc, dedup_snoc]
      · simp only [if_neg hm]
    have hLl : u.field = o.field → (dedup (prev ++ F.flatMap (·.keys) ++ if u.field = o.field then u.keys.take c else [])).length ≤ 20 * keys.length + 20 := fun hm => by
      obtain ⟨hF0, rfl⟩ := hone (decide_eq_true hm)
      refine Nat.le_trans (dedup_len _) ?_
      rw [if_pos hm, hF0]
      simp only [List.flatMap_nil, List.append_nil, List.length_append, List.length_take]
      omega
    generalize u.keys[c] = y at *
    generalize dedup (prev ++ F.flatMap (·.keys) ++ if u.field = o.field then u.keys.take c else []) = L at *
    obtain ⟨n1, n3, rfl⟩ := hnv.shape
    have hnsl := hnv.sl (S' := fun _ => True) (fun _ _ _ _ => trivial) fun _ _ => trivial
    obtain ⟨_, _, hnsh, hnn, hnm, _⟩ := id hnsl
    cases hnsh
    unfold maxLen at hnm
    have ha30 := hb30.at
    have ha24 := ha24.up h612
    repeat (first | refine RL.vv ?_ | refine RL.p ?_ | refine RL.nil ?_ | refine Sim.seq ?_ | refine Sim.region ?_ | refine Sim.block ?_ | refine Sim.skip ?_ | refine Sim.inBlock ?_ | refine Sim.exit rfl ?_ | refine Sim.condT rfl ?_ | refine Sim.condF rfl ?_)
    refine Sim.loop (σ := Nat × Bool) (fun st => [(0, .slice (some ⟨vb, vo, none⟩) l.length lc), (1, .slice (some ⟨tb, to, none⟩) ps.length pc), (2, .pointer (some ⟨pb, po, none⟩)), (3, .slice (some ⟨yb, yo, none⟩) keys.length yc), (4, .slice (some ⟨kb, ko, none⟩) picks.length kc), (115, .slice (some ⟨kb, ko, none⟩) picks.length kc), (116, .int .i64 (picks.length : Int)), (117, .int .i64 (i : Int)), (11, v), (22, .pointer (some ⟨b22, 0, none⟩)), (23, .int .i64 (j : Int)), (24, .pointer (some ⟨b24, 0, none⟩)), (146, .slice (some ⟨yb, yo, none⟩) keys.length yc), (147, .int .i64 (keys.length : Int)), (148, .int .i64 (a : Int)), (167, .slice (some ⟨ub, uo, none⟩) x.vals.length vc), (168, .int .i64 (x.vals.length : Int)), (169, .int .i64 (b : Int)), (30, .pointer (some ⟨b30, 0, none⟩)), (174, .slice (some ⟨zb, zo, none⟩) u.keys.length kc2), (175, .int .i64 (u.keys.length : Int)), (176, .int .i64 (c : Int)), (25, .slice n1 L.length n3), (32, .string y), (185, .slice n1 L.length n3), (186, .int .i64 (L.length : Int)), (187, .int .i64 (st.1 : Int)), (33, .bool st.2)])
      (fun st w' => st.1 ≤ L.length ∧ w' = w12 ∧ st.2 = (decide (¬ u.field = o.field) || (L.take st.1).any fun z => decide (z = y))) (fun st => L.length - st.1) (0, decide (¬ u.field = o.field)) sb ⟨Nat.zero_le _, rfl, by simp⟩ ?_
    rintro ⟨d', had⟩ w13 ⟨hd', rfl, hhad⟩ next5
    simp only at hd' hhad next5 ⊢
    by_cases hdlt : d' < L.length
    · have hxk : L[d']? = some L[d'] := List.getElem?_eq_getElem hdlt
      obtain ⟨eb, eo, cs, he, _, heat, rfl, _⟩ := hnsl.at hxk
      subst he
      have heat : At w13 eb (eo + d' * 1) _ := heat
      have hany := any_snoc (g := fun z => decide (z = y)) hxk
      have hany2 : (decide (¬ u.field = o.field) || (L.take (d' + 1)).any fun z => decide (z = y)) = (had || decide (L[d'] = y)) := by rw [hany, hhad, Bool.or_assoc]
      generalize L[d'] = z at *
      clear hany hhad
      cases had with
      | true =>
        repeat (first | refine RL.vv ?_ | refine RL.p ?_ | refine RL.nil ?_ | refine Sim.seq ?_ | refine Sim.region ?_ | refine Sim.block ?_ | refine Sim.skip ?_ | refine Sim.inBlock ?_ | refine Sim.exit rfl ?_ | refine Sim.condT rfl ?_ | refine Sim.condF rfl ?_)
        exact next5 (d' + 1, true) _ _ ⟨by first | omega | (simp only; omega), rfl, by simp only; rw [hany2]; rfl⟩ (by first | omega | (simp only; omega)) sb
      | false =>
        by_cases hyo : z = y
        · repeat (first | refine RL.vv ?_ | refine RL.p ?_ | refine RL.nil ?_ | refine Sim.seq ?_ | refine Sim.region ?_ | refine Sim.block ?_ | refine Sim.skip ?_ | refine Sim.inBlock ?_ | refine Sim.exit rfl ?_ | refine Sim.condT rfl ?_ | refine Sim.condF rfl ?_)
          exact next5 (d' + 1, true) _ _ ⟨by first | omega | (simp only; omega), rfl, by simp only; rw [hany2, decide_eq_true hyo]; rfl⟩ (by first | omega | (simp only; omega)) sb
        · repeat (first | refine RL.vv ?_ | refine RL.p ?_ | refine RL.nil ?_ | refine Sim.seq ?_ | refine Sim.region ?_ | refine Sim.block ?_ | refine Sim.skip ?_ | refine Sim.inBlock ?_ | refine Sim.exit rfl ?_ | refine Sim.condT rfl ?_ | refine Sim.condF rfl ?_)
          exact next5 (d' + 1, false) _ _ ⟨by first | omega | (simp only; omega), rfl, by simp only; rw [hany2, decide_eq_false hyo]; rfl⟩ (by first | omega | (simp only; omega)) sb
    have hdn : d' = L.length := by omega
    subst hdn
    rw [List.take_length] at hhad
    clear next5 hnsl
    cases had with
    | true =>
      have hsame : (if u.field = o.field then addNew L y else L) = L := by
        by_cases hm : u.field = o.field
        · rw [if_pos hm]
          have hin : y ∈ L := by
            rw [decide_eq_false (fun h => h hm), Bool.false_or] at hhad
            exact any_mem.1 hhad.symm
          exact if_pos hin
        · exact if_neg hm
      rw [hsame] at hstep
      repeat (first | refine RL.vv ?_ | refine RL.p ?_ | refine RL.nil ?_ | refine Sim.seq ?_ | refine Sim.region ?_ | refine Sim.block ?_ | refine Sim.skip ?_ | refine Sim.inBlock ?_ | refine Sim.exit rfl ?_ | refine Sim.condT rfl ?_ | refine Sim.condF rfl ?_)
      exact next4 (c + 1, _) _ _ ⟨by first | omega | (simp only; omega), h612, hb30, hn30, by simp only; rw [hstep]; exact hnv⟩ (by first | omega | (simp only; omega)) sb
    | false =>
      have hm : u.field = o.field := Classical.byContradiction fun h => by
        rw [decide_eq_true h] at hhad
        cases hhad
      have hni : ¬ y ∈ L := fun h => by
        rw [any_mem.2 h, Bool.or_true] at hhad
        cases hhad
      have hLl := hLl hm
      rw [show (if u.field = o.field then addNew L y else L) = L ++ [y] from by rw [if_pos hm]; exact if_neg hni] at hstep
      have hkl2 : keys.length ≤ 25600000000 := Nat.le_trans (Nat.le_mul_of_pos_right _ (Nat.pow_pos (by decide))) hkl
      repeat (first | refine RL.vv ?_ | refine RL.p ?_ | refine RL.nil ?_ | refine Sim.seq ?_ | refine Sim.region ?_ | refine Sim.block ?_ | refine Sim.skip ?_ | refine Sim.inBlock ?_ | refine Sim.exit rfl ?_ | refine Sim.condT rfl ?_ | refine Sim.condF rfl ?_)
      refine RL.bu (el := 9) [.string y] h612 fun b202 w14 he202 hle202 h614 h1314 hb202 => ?_
      have hs14 := h614.size
      have hb30' := hb30.up h1314
      refine RL.app (L := strLay) (el := 9) (S := fun _ => True) (B := w6.heap.size) (ys := [y]) h614 ((hnv.up h1314).no (S' := fun _ => True)) (SliceOf.one hb202 ⟨trivial, hnv.ne (Nat.le_of_eq he202.symm)⟩ rfl) (by simp only [List.length_cons, List.length_nil]; omega) (Nat.le_refl _) (by omega) fun nv' w15 h615 hnv2 hg hvn => ?_
      have hb30'' := hb30'.grown hg (fun e => hn30 _ e.symm rfl)
      have hlt30 := hb30'.lt
      repeat (first | refine RL.vv ?_ | refine RL.p ?_ | refine RL.nil ?_ | refine Sim.seq ?_ | refine Sim.region ?_ | refine Sim.block ?_ | refine Sim.skip ?_ | refine Sim.inBlock ?_ | refine Sim.exit rfl ?_ | refine Sim.condT rfl ?_ | refine Sim.condF rfl ?_)
      exact next4 (c + 1, nv') _ _ ⟨by first | omega | (simp only; omega), h615, hb30'', fun g hg' => by
        rcases hvn g hg' with h | h
        · exact hn30 g h
        · omega, by simp only; rw [hstep]; exact hnv2.no (S' := Nn)⟩ (by first | omega | (simp only; omega)) sb
  have han : a = keys.length := by omega
  subst han
  rw [List.take_length] at hnv
  have hnv : Own strLay 9 w6.heap.size Nn w7 nv (nextM l p q.field keys) := hnv
  have hxl : (nextM l p q.field keys).length ≤ 20 * keys.length := Nat.le_trans (dedup_len _) (hfl20 keys)
  obtain ⟨n1, n3, rfl⟩ := hnv.shape
  have h17 := h16.trans h67
  clear next2
  by_cases hne : nextM l p q.field keys = []
  · rw [if_pos hne] at hapq
    have hn0 : (((nextM l p q.field keys).length : Nat) : Int) = 0 := by rw [hne]; rfl
    repeat (first | refine RL.vv ?_ | refine RL.p ?_ | refine RL.nil ?_ | refine Sim.seq ?_ | refine Sim.region ?_ | refine Sim.block ?_ | refine Sim.skip ?_ | refine Sim.inBlock ?_ | refine Sim.exit rfl ?_ | refine Sim.condT rfl ?_ | refine Sim.condF rfl ?_)
    exact next (i + 1, v) _ _ ⟨by first | omega | (simp only; omega), hu, by simp only; rw [hsnoc, hapq, List.append_nil]; exact ho.up h17⟩ (by first | omega | (simp only; omega)) sb
  rw [if_neg hne] at hapq
  have hn0 : (0 : Int) < ((nextM l p q.field keys).length : Int) := by
    have := List.length_pos_iff.2 hne
    omega
  obtain ⟨k, t, hkf, htk, htn⟩ := partM_name (hkt hkind1)
  have hkl' := (List.getElem?_eq_some_iff.1 htk).1
  have hgo := hsub fun h => hkind1 (hkind.2 h)
  rw [← htn] at hgo
  rw [← htn, partM_at hI.ok htk] at hapq
  simp only at hapq
  have hapq : askP l ps q p keys = asksM l ps t (nextM l p q.field keys) q.picks := hapq
  obtain ⟨fv2, ov2, hv2', hT⟩ := hI.to htk
  have hal2 : (asksM l ps t (nextM l p q.field keys) q.picks).length ≤ 1000 := by rw [← hapq]; omega
  have hpow : (nextM l p q.field keys).length * 20 ^ d ≤ 25600000000 := by
    have e2 := Nat.mul_le_mul_right (20 ^ d) hxl
    rw [Nat.pow_succ] at hkl
    rw [Nat.mul_comm (20 ^ d) 20, ← Nat.mul_assoc, Nat.mul_comm keys.length 20] at hkl
    exact Nat.le_trans e2 hkl
  have hnx : SliceOf strLay (fun b => w.heap.size ≤ b ∧ some b ≠ v.ownBlock) w7 (.slice n1 (nextM l p q.field keys).length n3) (nextM l p q.field keys) := hnv.sl (fun _ h _ _ => h.elim) fun g hg => ⟨by have := (hnv.lt g hg).1; omega, ho.ne (by have := (hnv.lt g hg).1; omega)⟩
  have hb22 := hb22.up h67
  repeat (first | refine RL.vv ?_ | refine RL.p ?_ | refine RL.nil ?_ | refine Sim.seq ?_ | refine Sim.region ?_ | refine Sim.block ?_ | refine Sim.skip ?_ | refine Sim.inBlock ?_ | refine Sim.exit rfl ?_ | refine Sim.condT rfl ?_ | refine Sim.condF rfl ?_)
  have hd := Up.drew w7
  have h2 := hu.trans hd
  have hb22 := hb22.up hd
  have hS1 : Up w w7.drew ∧ At w7.drew b22 0 [.string q.as, .string q.field, .slice qa q.picks.length qc] := ⟨h2, hb22.at⟩
  refine Sim.ordD [19] (fun wq => Up w wq ∧ At wq b22 0 [.string q.as, .string q.field, .slice qa q.picks.length qc]) (Up w) ?_ mixed
  refine RD.tk 0 ?_
  refine RD.tk 1 ?_
  refine RD.tk 2 ?_
  refine RD.tk 3 ?_
  refine RD.tk 4 ?_
  refine RD.tk 5 ?_
  refine RD.tk 6 ?_
  refine RD.tk 7 ?_
  refine RD.tk 8 ?_ (hy := fun wq hq => y_loadF rfl (hpat.up hq.1) rfl)
  refine RD.tk 9 ?_
  refine RD.tk 10 ?_
  refine RD.tk 11 ?_
  refine RD.tk 12 ?_ (hy := fun wq hq => y_loadF rfl (hfat.up hq.1) rfl)
  refine RD.tk 14 ?_
  refine RD.tk 15 ?_
  refine RD.tk 16 ?_ (hy := fun wq hq => y_loadF rfl hq.2 rfl)
  refine RD.one 13 ?_
  refine RL.cs (v := .pointer (some ⟨tb, to + k * 4, none⟩)) (by have := RPart_any f.type w7.drew (hI.parts.up h2); rw [hkf, ptrAt_nat] at this; exact this) ?_
  refine RL.od h2 hS1 ?_
  refine RD.one 17 ?_
  refine RL.cx (H m rfl w7.drew hA hE (hT.up h2) (hqv.up h2) hgo hsm2 hlv2 hld2 (hnx.up hd) hpow hal2) ?_
  rintro _ w8 ⟨rv, rfl, h8, hr⟩
  refine ⟨_, rfl, ?_⟩
  have h28 := h2.trans h8
  have hb22 := hb22.up h8
  refine RL.od h28 ⟨h28, hb22.at⟩ ?_
  refine RD.one 18 ?_
  have h18 := (h17.trans hd).trans h8
  have hs17 := h17.size
  have hs8 := h18.size
  have hsu := hu.size
  have hs28 := h28.size
  have hbnd : p.homes.length + (askL l ps (picks.take i) p keys).length + (askP l ps q p keys).length ≤ 1000 := by omega
  rw [← hapq] at hr
  refine RL.app (L := rqLay) (el := 49) (S := fun b => Sk b ∨ w.heap.size ≤ b) (B := w.heap.size) (ys := askP l ps q p keys) h28 (ho.up h18) (hr.sl (fun b hb hlt _ => by
      rcases hb with hb | hb
      · exact ⟨.inr hb.1, hb.2⟩
      · have hb : w7.heap.size ≤ b := hb
        exact ⟨.inr (by omega), ho.ne (by omega)⟩) fun g hg => by
      have := (hr.lt g hg).1
      have : w7.heap.size ≤ g := this
      exact ⟨.inr (by omega), ho.ne (by omega)⟩) (by
      have e1 : (homesRq p keys picks ++ askL l ps (picks.take i) p keys).length = p.homes.length + (askL l ps (picks.take i) p keys).length := by rw [List.length_append]; unfold homesRq; rw [List.length_map]
      rw [e1]
      generalize p.homes.length + (askL l ps (picks.take i) p keys).length = N1 at *
      generalize (askP l ps q p keys).length = N2 at *
      omega) (Nat.le_refl _) hs28 fun v' w9 hu9 ho2 hg hv => ?_
  have hb22 := hb22.grown hg (ho.ne hle22')
  refine RL.od hu9 ⟨hu9, hb22.at⟩ ?_
  refine RD.on 19 hu9 ?_
  refine RD.done (RL.nil ?_)
  repeat (first | refine RL.vv ?_ | refine RL.p ?_ | refine RL.nil ?_ | refine Sim.seq ?_ | refine Sim.region ?_ | refine Sim.block ?_ | refine Sim.skip ?_ | refine Sim.inBlock ?_ | refine Sim.exit rfl ?_ | refine Sim.condT rfl ?_ | refine Sim.condF rfl ?_)
  exact next (i + 1, v') _ _ ⟨by first | omega | (simp only; omega), hu9, by simp only; rw [hsnoc, ← List.append_assoc]; exact ho2⟩ (by first | omega | (simp only; omega)) sb
theorem RAsks_any : ∀ m, RAsksC m
  | 0 => RAsks_gen fun n h => by cases h
  | m + 1 => RAsks_gen fun n h => by cases h; exact RAsks_any m
end Go.Proofs.Ytgckpmcdlciibac
