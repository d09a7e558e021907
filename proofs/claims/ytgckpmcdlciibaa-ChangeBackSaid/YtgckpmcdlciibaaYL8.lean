/- The walk of ChangeParts. -/
import Derived.Test.YtgckpmcdlciibaaZJ
import Derived.Test.YtgckpmcdlciibaaZB
import Derived.Test.YtgckpmcdlciibaaZK
namespace Go.Proofs.Ytgckpmcdlciibaa
open Go.RowKit
set_option maxHeartbeats 4000000 in
theorem ChangeParts_walk {S S2 : Nat → Prop} {lv cv : Value} {l : List Typ} {cs : List Chg} (at_ : Int) (w : World) (hl : SliceOf typLay S w lv l) (hcs : SliceOf chgLay S2 w cv cs) :
    Calls Try.prog 12 #[lv, cv, .int .i64 at_] w fun en w' => en = .returned (.bool true) ∧ Up w w' := by
  refine calls_of_sim Try.func12 rfl (Nat.le_of_ble_eq_true rfl) ?_
  obtain ⟨la, lc, rfl, hlnc, hlcm, _⟩ := id hl
  obtain ⟨ca, cc, rfl, hcnc, hccm, _⟩ := id hcs
  unfold maxLen at hlcm hccm
  repeat (first | refine RL.vv ?_ | refine RL.p ?_ | refine RL.nil ?_ | refine Sim.seq ?_ | refine Sim.region ?_ | refine Sim.block ?_ | refine Sim.skip ?_ | refine Sim.inBlock ?_ | refine Sim.exit rfl ?_ | refine Sim.condT rfl ?_ | refine Sim.condF rfl ?_)
  refine RL.cu (.refl w) (alive2_any w) fun w1 hu _ => ?_
  by_cases h0 : at_ < 0
  · repeat (first | refine RL.vv ?_ | refine RL.p ?_ | refine RL.nil ?_ | refine Sim.seq ?_ | refine Sim.region ?_ | refine Sim.block ?_ | refine Sim.skip ?_ | refine Sim.inBlock ?_ | refine Sim.exit rfl ?_ | refine Sim.condT rfl ?_ | refine Sim.condF rfl ?_)
    exact Sim.ret1 Try.func12 rfl rfl ⟨rfl, hu⟩
  obtain ⟨n, rfl⟩ := Int.eq_ofNat_of_zero_le (Int.not_lt.1 h0)
  by_cases h1 : (cs.length : Int) < n
  · repeat (first | refine RL.vv ?_ | refine RL.p ?_ | refine RL.nil ?_ | refine Sim.seq ?_ | refine Sim.region ?_ | refine Sim.block ?_ | refine Sim.skip ?_ | refine Sim.inBlock ?_ | refine Sim.exit rfl ?_ | refine Sim.condT rfl ?_ | refine Sim.condF rfl ?_)
    exact Sim.ret1 Try.func12 rfl rfl ⟨rfl, hu⟩
  by_cases h2 : (12 : Int) < cs.length
  · repeat (first | refine RL.vv ?_ | refine RL.p ?_ | refine RL.nil ?_ | refine Sim.seq ?_ | refine Sim.region ?_ | refine Sim.block ?_ | refine Sim.skip ?_ | refine Sim.inBlock ?_ | refine Sim.exit rfl ?_ | refine Sim.condT rfl ?_ | refine Sim.condF rfl ?_)
    exact Sim.ret1 Try.func12 rfl rfl ⟨rfl, hu⟩
  have hn : n ≤ cs.length := by omega
  obtain ⟨hp1, hp2⟩ := see_parts (l := l) hn (by omega)
  repeat (first | refine RL.vv ?_ | refine RL.p ?_ | refine RL.nil ?_ | refine Sim.seq ?_ | refine Sim.region ?_ | refine Sim.block ?_ | refine Sim.skip ?_ | refine Sim.inBlock ?_ | refine Sim.exit rfl ?_ | refine Sim.condT rfl ?_ | refine Sim.condF rfl ?_)
  refine RL.cx (See_any w1 (hl.up hu) (hcs.up hu)) ?_
  rintro _ w2 ⟨v1, rfl, h12, hds1, lab1, hv1⟩
  refine ⟨_, rfl, ?_⟩
  have hu := hu.trans h12
  unfold fltV
  have hs1 := hv1.seen.mono (S' := fun b => b < w2.heap.size) fun _ h => h.2
  obtain ⟨xa1, xc1, rfl, _⟩ := id hs1
  repeat (first | refine RL.vv ?_ | refine RL.p ?_ | refine RL.nil ?_ | refine Sim.seq ?_ | refine Sim.region ?_ | refine Sim.block ?_ | refine Sim.skip ?_ | refine Sim.inBlock ?_ | refine Sim.exit rfl ?_ | refine Sim.condT rfl ?_ | refine Sim.condF rfl ?_)
  refine RL.al (.refl w2) fun b8 w3 he8 hle8 h23 _ hb8 => ?_
  repeat (first | refine RL.vv ?_ | refine RL.p ?_ | refine RL.nil ?_ | refine Sim.seq ?_ | refine Sim.region ?_ | refine Sim.block ?_ | refine Sim.skip ?_ | refine Sim.inBlock ?_ | refine Sim.exit rfl ?_ | refine Sim.condT rfl ?_ | refine Sim.condF rfl ?_)
  refine RL.st h23 hb8 hle8 fun w4 h24 _ hb8 => ?_
  have hb8 : Box w4 b8 _ [.int .i64 (seeM l cs).2.err, .int .i64 (seeM l cs).2.at_] := hb8
  have hu := hu.trans h24
  have hs1 := hs1.up h24
  clear h12 h23 h24 hv1
  repeat (first | refine RL.vv ?_ | refine RL.p ?_ | refine RL.nil ?_ | refine Sim.seq ?_ | refine Sim.region ?_ | refine Sim.block ?_ | refine Sim.skip ?_ | refine Sim.inBlock ?_ | refine Sim.exit rfl ?_ | refine Sim.condT rfl ?_ | refine Sim.condF rfl ?_)
  have hct := hcs.take hn
  refine RL.cx (See_any w4 (hl.up hu) (hct.up hu)) ?_
  rintro _ w5 ⟨v2, rfl, h45, hds2, lab2, hv2⟩
  refine ⟨_, rfl, ?_⟩
  have hu := hu.trans h45
  have hs1 := hs1.up h45
  have hb8 := hb8.up h45
  have hsa := hv2.seen.mono (S' := fun _ => True) fun _ _ => trivial
  obtain ⟨xa2, xc2, rfl, _⟩ := id hsa
  unfold fltV
  clear h45 hv2
  repeat (first | refine RL.vv ?_ | refine RL.p ?_ | refine RL.nil ?_ | refine Sim.seq ?_ | refine Sim.region ?_ | refine Sim.block ?_ | refine Sim.skip ?_ | refine Sim.inBlock ?_ | refine Sim.exit rfl ?_ | refine Sim.condT rfl ?_ | refine Sim.condF rfl ?_)
  refine RL.al (.refl w5) fun b10 w6 he10 hle10 h56 _ hb10 => ?_
  repeat (first | refine RL.vv ?_ | refine RL.p ?_ | refine RL.nil ?_ | refine Sim.seq ?_ | refine Sim.region ?_ | refine Sim.block ?_ | refine Sim.skip ?_ | refine Sim.inBlock ?_ | refine Sim.exit rfl ?_ | refine Sim.condT rfl ?_ | refine Sim.condF rfl ?_)
  refine RL.st h56 hb10 hle10 fun w7 h57 _ hb10 => ?_
  have hb10 : Box w7 b10 _ [.int .i64 (seeM l (cs.take n)).2.err, .int .i64 (seeM l (cs.take n)).2.at_] := hb10
  have hu := hu.trans h57
  have hs1 := hs1.up h57
  have hb8 := hb8.up h57
  have hsa := hsa.up h57
  have ha8 := hb8.at
  have ha10 := hb10.at
  clear h56 h57 he10 he8
  by_cases hg : (seeM l (cs.take n)).2.err = 0
  rotate_left
  · have hfg := hp1 hg
    repeat (first | refine RL.vv ?_ | refine RL.p ?_ | refine RL.nil ?_ | refine Sim.seq ?_ | refine Sim.region ?_ | refine Sim.block ?_ | refine Sim.skip ?_ | refine Sim.inBlock ?_ | refine Sim.exit rfl ?_ | refine Sim.condT rfl ?_ | refine Sim.condF rfl ?_)
    refine RL.vv ?_ (hy := y_eqlA (b := true) rfl rfl guard_fault (fun w => by rw [eq_fault, hfg]; simp))
    repeat (first | refine RL.vv ?_ | refine RL.p ?_ | refine RL.nil ?_ | refine Sim.seq ?_ | refine Sim.region ?_ | refine Sim.block ?_ | refine Sim.skip ?_ | refine Sim.inBlock ?_ | refine Sim.exit rfl ?_ | refine Sim.condT rfl ?_ | refine Sim.condF rfl ?_)
    exact Sim.ret1 Try.func12 rfl rfl ⟨rfl, hu⟩
  obtain ⟨e1, e2, e3⟩ := hp2 hg
  have h8 := (seeM_right hg).1.len
  rw [List.length_map] at h8
  obtain ⟨hat0, hat1⟩ := seeM_at (cs := cs) (seeM_cases hg).1 (by omega)
  have hf8 : (seeM l cs).2.err = 0 → (seeM l cs).1.length ≤ 8 := fun h => by have := (seeM_right h).1.len; rwa [List.length_map] at this
  generalize (seeM l (cs.take n)).1 = sa at *
  have hcd : SliceOf chgLay S2 w (dropV ca cs.length cc n 4) (cs.drop n) := hcs.drop hn
  obtain ⟨da, dc, hdv⟩ : ∃ da dc, dropV ca cs.length cc n 4 = .slice da (cs.length - n) dc := ⟨_, _, rfl⟩
  repeat (first | refine RL.vv ?_ | refine RL.p ?_ | refine RL.nil ?_ | refine Sim.seq ?_ | refine Sim.region ?_ | refine Sim.block ?_ | refine Sim.skip ?_ | refine Sim.inBlock ?_ | refine Sim.exit rfl ?_ | refine Sim.condT rfl ?_ | refine Sim.condF rfl ?_)
  refine Sim.cutX (σ := Nat × Option Addr × Nat) (fun st => [(7, .slice xa1 (seeM l cs).1.length xc1), (8, .pointer (some ⟨b8, 0, none⟩)), (2, .int .i64 (n : Int)), (11, .slice st.2.1 (seeM (sa.map (·.type)) (cs.drop n)).1.length st.2.2), (12, .pointer (some ⟨st.1, 0, none⟩))])
    (fun st w' => Up w7 w' ∧ Box w' st.1 51 [.int .i64 (seeM (sa.map (·.type)) (cs.drop n)).2.err, .int .i64 (seeM (sa.map (·.type)) (cs.drop n)).2.at_] ∧ SliceOf snLay (fun _ => True) w' (.slice st.2.1 (seeM (sa.map (·.type)) (cs.drop n)).1.length st.2.2) (seeM (sa.map (·.type)) (cs.drop n)).1) (fun k' next => ?_) ?_
  · have h0 := Up.drew w7
    have hcd := hcd.up hu
    refine Sim.ord (Up w7) ?_
    refine RO.tk 0 ?_
    refine RO.tk 2 ?_
    refine RO.tk 3 ?_
    refine RO.tk 4 ?_ (hy := fun wq hq => y_sliceLo (i := n) (k := 4) rfl rfl hn hcnc)
    rw [hdv] at hcd ⊢
    refine RO.two 1 9 ?_ ?_
    · refine RL.cx (Types_any _ (hsa.up h0) (by omega)) ?_
      rintro _ _ ⟨tv, rfl, h, ht⟩
      refine ⟨_, rfl, ?_⟩
      have h0 := h0.trans h
      obtain ⟨ta, tc, rfl, _⟩ := id ht
      try have hb12 := hb12.up h
      refine RL.ord h0 ?_
      clear h
      refine RO.two 5 9 ?_ ?_
      · try have hl12 := hb12.lt
        refine RL.cx (See_any _ ht (hcd.up h0)) ?_
        rintro _ _ ⟨v3, rfl, h, hds3, lab3, hv3⟩
        refine ⟨_, rfl, ?_⟩
        have h0 := h0.trans h
        unfold fltV
        try have hb12 := hb12.up h
        have hsb := hv3.seen
        obtain ⟨xa, xc, rfl, _⟩ := id hsb
        refine RL.ord h0 ?_
        clear h hv3
        refine RO.tk 6 ?_
        refine RO.tk 7 ?_
        refine RO.tk 8 ?_
        refine RO.one 9 ?_
        refine RL.al h0 fun b12 _ he12 hle12 h0 h hb12 => ?_
        try have ht := ht.up h
        try have hsb := hsb.up h
        refine RL.ord h0 ?_
        clear h
        refine RO.tk 10 ?_
        refine RO.one 11 ?_
        refine RL.st h0 hb12 hle12 fun _ h0 hbt hb12 => ?_
        have hsb := (hsb.bt hbt (fun k hk => by have := hk.1; have := hk.2; omega)).mono (S' := fun _ => True) fun _ _ => trivial
        refine RL.ord h0 ?_
        refine RO.done (RL.nil ?_)
        exact next (b12, xa, xc) _ _ ⟨h0, hb12, hsb⟩ sb
      · refine RL.al h0 fun b12 _ he12 hle12 h0 h hb12 => ?_
        try have ht := ht.up h
        try have hsb := hsb.up h
        refine RL.ord h0 ?_
        clear h
        refine RO.one 5 ?_
        try have hl12 := hb12.lt
        refine RL.cx (See_any _ ht (hcd.up h0)) ?_
        rintro _ _ ⟨v3, rfl, h, hds3, lab3, hv3⟩
        refine ⟨_, rfl, ?_⟩
        have h0 := h0.trans h
        unfold fltV
        try have hb12 := hb12.up h
        have hsb := hv3.seen
        obtain ⟨xa, xc, rfl, _⟩ := id hsb
        refine RL.ord h0 ?_
        clear h hv3
        refine RO.tk 6 ?_
        refine RO.tk 7 ?_
        refine RO.tk 8 ?_
        refine RO.tk 10 ?_
        refine RO.one 11 ?_
        refine RL.st h0 hb12 hle12 fun _ h0 hbt hb12 => ?_
        have hsb := (hsb.bt hbt (fun k hk => by have := hk.1; have := hk.2; omega)).mono (S' := fun _ => True) fun _ _ => trivial
        refine RL.ord h0 ?_
        refine RO.done (RL.nil ?_)
        exact next (b12, xa, xc) _ _ ⟨h0, hb12, hsb⟩ sb
    · refine RL.al h0 fun b12 _ he12 hle12 h0 h hb12 => ?_
      try have ht := ht.up h
      try have hsb := hsb.up h
      refine RL.ord h0 ?_
      clear h
      refine RO.one 1 ?_
      refine RL.cx (Types_any _ (hsa.up h0) (by omega)) ?_
      rintro _ _ ⟨tv, rfl, h, ht⟩
      refine ⟨_, rfl, ?_⟩
      have h0 := h0.trans h
      obtain ⟨ta, tc, rfl, _⟩ := id ht
      try have hb12 := hb12.up h
      refine RL.ord h0 ?_
      clear h
      refine RO.one 5 ?_
      try have hl12 := hb12.lt
      refine RL.cx (See_any _ ht (hcd.up h0)) ?_
      rintro _ _ ⟨v3, rfl, h, hds3, lab3, hv3⟩
      refine ⟨_, rfl, ?_⟩
      have h0 := h0.trans h
      unfold fltV
      try have hb12 := hb12.up h
      have hsb := hv3.seen
      obtain ⟨xa, xc, rfl, _⟩ := id hsb
      refine RL.ord h0 ?_
      clear h hv3
      refine RO.tk 6 ?_
      refine RO.tk 7 ?_
      refine RO.tk 8 ?_
      refine RO.tk 10 ?_
      refine RO.one 11 ?_
      refine RL.st h0 hb12 hle12 fun _ h0 hbt hb12 => ?_
      have hsb := (hsb.bt hbt (fun k hk => by have := hk.1; have := hk.2; omega)).mono (S' := fun _ => True) fun _ _ => trivial
      refine RL.ord h0 ?_
      refine RO.done (RL.nil ?_)
      exact next (b12, xa, xc) _ _ ⟨h0, hb12, hsb⟩ sb
  rintro ⟨b12, xa, xc⟩ w8 ⟨h78, hb12, hsb⟩
  simp only at hb12 hsb ⊢
  have hu := hu.trans h78
  have hb8 := hb8.up h78
  have hs1 := hs1.up h78
  have ha8 := hb8.at
  have ha12 := hb12.at
  have hb8len : (seeM (sa.map (·.type)) (cs.drop n)).1.length = (seeM l cs).1.length := by
    have := congrArg List.length e3
    simpa using this.symm
  generalize seeM l cs = fa at *
  generalize seeM (sa.map (·.type)) (cs.drop n) = ha at *
  clear hb10 ha10 hp1 hp2 h78
  by_cases hf : fa.2.err = 0
  rotate_left
  · have hh : ¬ ha.2.err = 0 := fun h => hf (e1.trans h)
    have hat := e2 hf
    repeat (first | refine RL.vv ?_ | refine RL.p ?_ | refine RL.nil ?_ | refine Sim.seq ?_ | refine Sim.region ?_ | refine Sim.block ?_ | refine Sim.skip ?_ | refine Sim.inBlock ?_ | refine Sim.exit rfl ?_ | refine Sim.condT rfl ?_ | refine Sim.condF rfl ?_)
    refine RL.vv ?_ (hy := y_add (d := fa.2.at_) rfl rfl (by omega) (by omega) (by omega))
    repeat (first | refine RL.vv ?_ | refine RL.p ?_ | refine RL.nil ?_ | refine Sim.seq ?_ | refine Sim.region ?_ | refine Sim.block ?_ | refine Sim.skip ?_ | refine Sim.inBlock ?_ | refine Sim.exit rfl ?_ | refine Sim.condT rfl ?_ | refine Sim.condF rfl ?_)
    exact Sim.ret1 Try.func12 rfl rfl ⟨rfl, hu⟩
  have hh : ha.2.err = 0 := e1.symm.trans hf
  have hl8 := hf8 hf
  repeat (first | refine RL.vv ?_ | refine RL.p ?_ | refine RL.nil ?_ | refine Sim.seq ?_ | refine Sim.region ?_ | refine Sim.block ?_ | refine Sim.skip ?_ | refine Sim.inBlock ?_ | refine Sim.exit rfl ?_ | refine Sim.condT rfl ?_ | refine Sim.condF rfl ?_)
  refine RL.cx (Types_any w8 hs1 (by omega)) ?_
  rintro _ w9 ⟨tv1, rfl, h89, ht1⟩
  refine ⟨_, rfl, ?_⟩
  repeat (first | refine RL.vv ?_ | refine RL.p ?_ | refine RL.nil ?_ | refine Sim.seq ?_ | refine Sim.region ?_ | refine Sim.block ?_ | refine Sim.skip ?_ | refine Sim.inBlock ?_ | refine Sim.exit rfl ?_ | refine Sim.condT rfl ?_ | refine Sim.condF rfl ?_)
  refine RL.cx (Types_any w9 (hsb.up h89) (by omega)) ?_
  rintro _ w10 ⟨tv2, rfl, h910, ht2⟩
  refine ⟨_, rfl, ?_⟩
  rw [← e3] at ht2
  refine RL.cu ((hu.trans h89).trans h910) (SameTypes_eq w10 (ht1.up h910) ht2) fun w11 hu _ => ?_
  repeat (first | refine RL.vv ?_ | refine RL.p ?_ | refine RL.nil ?_ | refine Sim.seq ?_ | refine Sim.region ?_ | refine Sim.block ?_ | refine Sim.skip ?_ | refine Sim.inBlock ?_ | refine Sim.exit rfl ?_ | refine Sim.condT rfl ?_ | refine Sim.condF rfl ?_)
  exact Sim.ret1 Try.func12 rfl rfl ⟨rfl, hu⟩
end Go.Proofs.Ytgckpmcdlciibaa
