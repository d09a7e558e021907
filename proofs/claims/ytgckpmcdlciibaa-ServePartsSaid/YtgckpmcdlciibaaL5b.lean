/- The walk of ServeParts. -/
import Derived.Test.YtgckpmcdlciibaaL5a
import Derived.Test.YtgckpmcdlciibaaL5
namespace Go.Proofs.Ytgckpmcdlciibaa
open Go.RowKit
set_option maxHeartbeats 4000000 in
theorem ServeParts_walk {S S2 S3 : Nat → Prop} {lv kv fv : Value} {l : List Svc} (q : Rq) (at_ : Int) (w : World) (hl : SliceOf svcLay S w lv l) (hk : SliceOf strLay S2 w kv q.keys) (hf : SliceOf strLay S3 w fv q.fields) (hok : ∀ s ∈ l, okSvc s) (hqk : q.keys.length * 16 ≤ 140737488351232) :
    Calls Try.prog 4 #[lv, .agg #[.int .i64 q.service, .string q.type, kv, fv], .int .i64 at_] w fun en w' => en = .returned (.bool true) ∧ Up w w' := by
  refine calls_of_sim Try.func4 rfl (Nat.le_of_ble_eq_true rfl) ?_
  obtain ⟨la, lc, rfl, _⟩ := id hl
  obtain ⟨ka, kc, rfl, hknc, _⟩ := id hk
  obtain ⟨fa, fc, rfl, _⟩ := id hf
  repeat (first | refine RL.vv ?_ | refine RL.p ?_ | refine RL.nil ?_ | refine Sim.seq ?_ | refine Sim.region ?_ | refine Sim.block ?_ | refine Sim.skip ?_ | refine Sim.inBlock ?_ | refine Sim.exit rfl ?_ | refine Sim.condT rfl ?_ | refine Sim.condF rfl ?_)
  refine RL.bx (.refl w) fun b4 w1 _ _ hu _ hb4 => ?_
  have hb4 : Box w1 b4 _ [.int .i64 q.service, .string q.type, .slice ka q.keys.length kc, .slice fa q.fields.length fc] := hb4
  repeat (first | refine RL.vv ?_ | refine RL.p ?_ | refine RL.nil ?_ | refine Sim.seq ?_ | refine Sim.region ?_ | refine Sim.block ?_ | refine Sim.skip ?_ | refine Sim.inBlock ?_ | refine Sim.exit rfl ?_ | refine Sim.condT rfl ?_ | refine Sim.condF rfl ?_)
  refine RL.cu hu (alive5_any w1) fun w2 hu h12 => ?_
  have hb4 := hb4.up h12
  have ha4 := hb4.at
  repeat (first | refine RL.vv ?_ | refine RL.p ?_ | refine RL.nil ?_ | refine Sim.seq ?_ | refine Sim.region ?_ | refine Sim.block ?_ | refine Sim.skip ?_ | refine Sim.inBlock ?_ | refine Sim.exit rfl ?_ | refine Sim.condT rfl ?_ | refine Sim.condF rfl ?_)
  refine RL.cx (SAnswer_any q w2 (hl.up hu) (hk.up hu) (hf.up hu) hok hqk) ?_
  rintro _ w3 ⟨va, vb, rfl, h23, hr⟩
  refine ⟨_, rfl, ?_⟩
  have hu := hu.trans h23
  have hb4 := hb4.up h23
  clear ha4 h12 h23
  by_cases he : (answerM l q).2 = 0
  rotate_left
  · rw [answerM_err he] at hr
    obtain ⟨aa, ac, rfl⟩ := hr.1.shape
    obtain ⟨ba, bc, rfl⟩ := hr.2.1.shape
    repeat (first | refine RL.vv ?_ | refine RL.p ?_ | refine RL.nil ?_ | refine Sim.seq ?_ | refine Sim.region ?_ | refine Sim.block ?_ | refine Sim.skip ?_ | refine Sim.inBlock ?_ | refine Sim.exit rfl ?_ | refine Sim.condT rfl ?_ | refine Sim.condF rfl ?_)
    refine RL.al hu fun b7 w4 _ hle7 hu h34 hb7 => ?_
    repeat (first | refine RL.vv ?_ | refine RL.p ?_ | refine RL.nil ?_ | refine Sim.seq ?_ | refine Sim.region ?_ | refine Sim.block ?_ | refine Sim.skip ?_ | refine Sim.inBlock ?_ | refine Sim.exit rfl ?_ | refine Sim.condT rfl ?_ | refine Sim.condF rfl ?_)
    refine RL.st hu hb7 hle7 fun w5 hu hbt hb7 => ?_
    have ha7 := hb7.at
    repeat (first | refine RL.vv ?_ | refine RL.p ?_ | refine RL.nil ?_ | refine Sim.seq ?_ | refine Sim.region ?_ | refine Sim.block ?_ | refine Sim.skip ?_ | refine Sim.inBlock ?_ | refine Sim.exit rfl ?_ | refine Sim.condT rfl ?_ | refine Sim.condF rfl ?_)
    refine RL.vv ?_ (hy := y_add (d := 0) rfl rfl rfl (by decide) (by decide))
    repeat (first | refine RL.vv ?_ | refine RL.p ?_ | refine RL.nil ?_ | refine Sim.seq ?_ | refine Sim.region ?_ | refine Sim.block ?_ | refine Sim.skip ?_ | refine Sim.inBlock ?_ | refine Sim.exit rfl ?_ | refine Sim.condT rfl ?_ | refine Sim.condF rfl ?_)
    exact Sim.ret1 Try.func4 rfl rfl ⟨rfl, hu⟩
  have hall1 := hr.1.no (S' := No) |>.sl (S' := fun k => k < w3.heap.size) (fun _ h _ _ => h.elim) (fun g hg => (hr.1.lt g hg).2)
  have hall2 := hr.2.1.sl (S' := fun k => k < w3.heap.size) (fun k _ h _ => h) (fun g hg => (hr.2.1.lt g hg).2)
  obtain ⟨aa, an, ac, rfl⟩ := hr.1.sh
  obtain ⟨ba, bn, bc, rfl⟩ := hr.2.1.sh
  clear hr
  rw [he]
  repeat (first | refine RL.vv ?_ | refine RL.p ?_ | refine RL.nil ?_ | refine Sim.seq ?_ | refine Sim.region ?_ | refine Sim.block ?_ | refine Sim.skip ?_ | refine Sim.inBlock ?_ | refine Sim.exit rfl ?_ | refine Sim.condT rfl ?_ | refine Sim.condF rfl ?_)
  refine RL.al (.refl w3) fun b7 w4 he7 hle7 h34 _ hb7 => ?_
  repeat (first | refine RL.vv ?_ | refine RL.p ?_ | refine RL.nil ?_ | refine Sim.seq ?_ | refine Sim.region ?_ | refine Sim.block ?_ | refine Sim.skip ?_ | refine Sim.inBlock ?_ | refine Sim.exit rfl ?_ | refine Sim.condT rfl ?_ | refine Sim.condF rfl ?_)
  refine RL.st h34 hb7 hle7 fun w5 h35 _ hb7 => ?_
  have hu := hu.trans h35
  have hb4 := hb4.up h35
  have hall1 := hall1.up h35
  have hall2 := hall2.up h35
  have hs35 := h35.size
  have hlt7 := hb7.lt
  clear he7 hle7 h34 h35
  have ha4 := hb4.at
  by_cases h0 : at_ < 0
  · repeat (first | refine RL.vv ?_ | refine RL.p ?_ | refine RL.nil ?_ | refine Sim.seq ?_ | refine Sim.region ?_ | refine Sim.block ?_ | refine Sim.skip ?_ | refine Sim.inBlock ?_ | refine Sim.exit rfl ?_ | refine Sim.condT rfl ?_ | refine Sim.condF rfl ?_)
    exact Sim.ret1 Try.func4 rfl rfl ⟨rfl, hu⟩
  obtain ⟨n, rfl⟩ := Int.eq_ofNat_of_zero_le (Int.not_lt.1 h0)
  by_cases h1 : (q.keys.length : Int) < n
  · repeat (first | refine RL.vv ?_ | refine RL.p ?_ | refine RL.nil ?_ | refine Sim.seq ?_ | refine Sim.region ?_ | refine Sim.block ?_ | refine Sim.skip ?_ | refine Sim.inBlock ?_ | refine Sim.exit rfl ?_ | refine Sim.condT rfl ?_ | refine Sim.condF rfl ?_)
    exact Sim.ret1 Try.func4 rfl rfl ⟨rfl, hu⟩
  have hn : n ≤ q.keys.length := by omega
  have hnc : n ≤ kc := by omega
  repeat (first | refine RL.vv ?_ | refine RL.p ?_ | refine RL.nil ?_ | refine Sim.seq ?_ | refine Sim.region ?_ | refine Sim.block ?_ | refine Sim.skip ?_ | refine Sim.inBlock ?_ | refine Sim.exit rfl ?_ | refine Sim.condT rfl ?_ | refine Sim.condF rfl ?_)
  refine Sim.cutX (σ := Nat × Nat) (fun st => [(0, .slice la l.length lc), (2, .int .i64 (n : Int)), (4, .pointer (some ⟨b4, 0, none⟩)), (7, .pointer (some ⟨b7, 0, none⟩)), (9, .pointer (some ⟨st.1, 0, none⟩)), (10, .pointer (some ⟨st.2, 0, none⟩))])
    (fun st w' => st.1 ≠ st.2 ∧ w5.heap.size ≤ st.1 ∧ w5.heap.size ≤ st.2 ∧ Up w5 w' ∧ Box w' st.1 25 [.int .i64 q.service, .string q.type, .slice ka q.keys.length kc, .slice fa q.fields.length fc] ∧ Box w' st.2 25 [.int .i64 q.service, .string q.type, .slice ka q.keys.length kc, .slice fa q.fields.length fc]) (fun k' next => ?_) ?_
  · have h0 := Up.drew w5
    refine Sim.ord (Up w5) ?_
    refine RO.tk 0 ?_
    refine RO.tk 1 ?_
    refine RO.two 2 3 ?_ ?_
    · refine RL.al h0 fun b9 w6 _ h9 h0 _ hb9 => ?_
      refine RL.ord h0 ?_
      refine RO.one 3 ?_
      refine RL.al h0 fun b10 w7 he h10 h0 h hb10 => ?_
      have h910 : b9 ≠ b10 := by have := hb9.lt; omega
      have hb9 := hb9.up h
      refine RL.ord h0 ?_
      refine RO.one 4 ?_
      refine RL.st h0 hb9 h9 fun w9 h0 hbt hb9 => ?_
      have hb10 := hb10.but hbt (Ne.symm h910)
      refine RL.ord h0 ?_
      refine RO.one 5 ?_
      refine RL.st h0 hb10 h10 fun w10 h0 hbt2 hb10 => ?_
      have hb9 := hb9.but hbt2 h910
      refine RL.ord h0 ?_
      refine RO.done (RL.nil ?_)
      exact next (b9, b10) _ _ ⟨h910, h9, h10, h0, hb9, hb10⟩ sb
    · refine RL.al h0 fun b10 w6 _ h10 h0 _ hb10 => ?_
      refine RL.ord h0 ?_
      refine RO.one 2 ?_
      refine RL.al h0 fun b9 w7 he h9 h0 h hb9 => ?_
      have h910 : b9 ≠ b10 := by have := hb10.lt; omega
      have hb10 := hb10.up h
      refine RL.ord h0 ?_
      refine RO.one 4 ?_
      refine RL.st h0 hb9 h9 fun w9 h0 hbt hb9 => ?_
      have hb10 := hb10.but hbt (Ne.symm h910)
      refine RL.ord h0 ?_
      refine RO.one 5 ?_
      refine RL.st h0 hb10 h10 fun w10 h0 hbt2 hb10 => ?_
      have hb9 := hb9.but hbt2 h910
      refine RL.ord h0 ?_
      refine RO.done (RL.nil ?_)
      exact next (b9, b10) _ _ ⟨h910, h9, h10, h0, hb9, hb10⟩ sb
  rintro ⟨b9, b10⟩ w6 ⟨h910, h9, h10, h56, hb9, hb10⟩
  simp only at h910 h9 h10 hb9 hb10 ⊢
  have hu0 := hu
  have hu := hu.trans h56
  have hb4 := hb4.up h56
  have hb7 := hb7.up h56
  have hall1 := hall1.up h56
  have hall2 := hall2.up h56
  have hs56 := h56.size
  have hu := hu0.trans h56
  have hl4 : b4 < w5.heap.size := ha4.lt
  clear ha4 hu
  have hS0 : Up w w6.drew ∧ At w6.drew b4 0 [.int .i64 q.service, .string q.type, .slice ka q.keys.length kc, .slice fa q.fields.length fc] := ⟨hu.trans (Up.drew _), (hb4.up (Up.drew _)).at⟩
  repeat (first | refine RL.vv ?_ | refine RL.p ?_ | refine RL.nil ?_ | refine Sim.seq ?_ | refine Sim.region ?_ | refine Sim.block ?_ | refine Sim.skip ?_ | refine Sim.inBlock ?_ | refine Sim.exit rfl ?_ | refine Sim.condT rfl ?_ | refine Sim.condF rfl ?_)
  refine Sim.ord (fun wq => Up w wq ∧ At wq b4 0 [.int .i64 q.service, .string q.type, .slice ka q.keys.length kc, .slice fa q.fields.length fc]) ?_
  refine RO.tk 0 ?_
  refine RO.tk 1 ?_ (hy := fun wq hq => y_loadF rfl hq.2 rfl)
  refine RO.tk 2 ?_
  refine RO.tk 3 ?_
  refine RO.tk 4 ?_
  refine RO.tk 5 ?_ (hy := fun wq hq => y_loadF rfl hq.2 rfl)
  refine RO.tk 6 ?_
  refine RO.tk 7 ?_ (hy := fun wq hq => y_sliceLo (i := n) rfl rfl hn hknc)
  refine RO.tk 8 ?_
  obtain ⟨da, dc, hdv⟩ : ∃ da dc, dropV ka q.keys.length kc n 1 = .slice da (q.keys.length - n) dc := ⟨_, _, rfl⟩
  have hkd := hk.drop hn
  have hkt := hk.take hn
  have hkd : SliceOf strLay S2 w (dropV ka q.keys.length kc n 1) (q.keys.drop n) := hkd
  rw [hdv] at hkd ⊢
  have hb4 := hb4.up (Up.drew _)
  have hb7 := hb7.up (Up.drew _)
  have hall1 := hall1.up (Up.drew _)
  have hall2 := hall2.up (Up.drew _)
  have hb9 := hb9.up (Up.drew _)
  have hb10 := hb10.up (Up.drew _)
  have h56 := h56.trans (Up.drew _)
  have hl7 : b7 < w5.heap.size := hlt7
  refine RO.one 9 ?_
  refine RL.st h56 hb9 h9 fun w7 h57 hbt hb9 => ?_
  have hb9 : Box w7 b9 _ [.int .i64 q.service, .string q.type, .slice ka n kc, .slice fa q.fields.length fc] := hb9
  have hb4 := hb4.but hbt (by omega)
  have hb7 := hb7.but hbt (by omega)
  have hb10 := hb10.but hbt (Ne.symm h910)
  have hall1 := hall1.bt hbt (fun k hk => by omega)
  have hall2 := hall2.bt hbt (fun k hk => by omega)
  have hu7 := hu0.trans h57
  refine RL.ord ⟨hu7, hb4.at⟩ ?_
  have hS1 : Up w w7 ∧ At w7 b4 0 [.int .i64 q.service, .string q.type, .slice ka q.keys.length kc, .slice fa q.fields.length fc] := ⟨hu7, hb4.at⟩
  refine RO.tk 10 ?_
  refine RO.one 11 ?_
  refine RL.st h57 hb10 h10 fun w8 h58 hbt hb10 => ?_
  have hb10 : Box w8 b10 _ [.int .i64 q.service, .string q.type, .slice da (q.keys.length - n) dc, .slice fa q.fields.length fc] := hb10
  have hb4 := hb4.but hbt (by omega)
  have hb7 := hb7.but hbt (by omega)
  have hb9 := hb9.but hbt h910
  have hall1 := hall1.bt hbt (fun k hk => by omega)
  have hall2 := hall2.bt hbt (fun k hk => by omega)
  have hu := hu0.trans h58
  refine RL.ord ⟨hu, hb4.at⟩ ?_
  refine RO.done (RL.nil ?_)
  clear hS0 hS1 hu7 hbt hb4 h57
  obtain ⟨e1, e2, e3, _⟩ := answerM_parts (answerM_ok he) n
  generalize hra : (answerM l ⟨q.service, q.type, q.keys.take n, q.fields⟩).1 = ra at e3
  generalize hrb : (answerM l ⟨q.service, q.type, q.keys.drop n, q.fields⟩).1 = rb at e3
  have hlen := answerM_len l q
  have hs58 := h58.size
  have ha9 := hb9.at
  have hkl : (q.keys.take n).length = n := by simp; omega
  have hdl : (q.keys.drop n).length = q.keys.length - n := by simp
  have hbnd : ra.found.length + rb.found.length = q.keys.length ∧ ra.vals.length + rb.vals.length = q.keys.length := by
    have hc := answerM_count he
    rw [e3] at hc
    simpa using hc
  repeat (first | refine RL.vv ?_ | refine RL.p ?_ | refine RL.nil ?_ | refine Sim.seq ?_ | refine Sim.region ?_ | refine Sim.block ?_ | refine Sim.skip ?_ | refine Sim.inBlock ?_ | refine Sim.exit rfl ?_ | refine Sim.condT rfl ?_ | refine Sim.condF rfl ?_)
  refine RL.cx (SAnswer_any ⟨q.service, q.type, q.keys.take n, q.fields⟩ w8 (hl.up hu) (hkt.up hu) (hf.up hu) hok (by simp only; omega)) ?_
  rintro _ w9 ⟨xa, xb, rfl, h89, hx⟩
  refine ⟨_, rfl, ?_⟩
  rw [hra] at hx
  rw [e1]
  have hall1 := hall1.up h89
  have hall2 := hall2.up h89
  have hb7 := hb7.up h89
  have hb10 := hb10.up h89
  have hu := hu.trans h89
  have hs89 := h89.size
  obtain ⟨xaa, xan, xac, rfl⟩ := hx.1.sh
  obtain ⟨xba, xbn, xbc, rfl⟩ := hx.2.1.sh
  clear ha9 hb9
  repeat (first | refine RL.vv ?_ | refine RL.p ?_ | refine RL.nil ?_ | refine Sim.seq ?_ | refine Sim.region ?_ | refine Sim.block ?_ | refine Sim.skip ?_ | refine Sim.inBlock ?_ | refine Sim.exit rfl ?_ | refine Sim.condT rfl ?_ | refine Sim.condF rfl ?_)
  refine RL.al (.refl w9) fun b11 w10 he11 hle11 h910' _ hb11 => ?_
  have hn11 := hx.1.ne hle11
  have hn11' := hx.2.1.ne hle11
  repeat (first | refine RL.vv ?_ | refine RL.p ?_ | refine RL.nil ?_ | refine Sim.seq ?_ | refine Sim.region ?_ | refine Sim.block ?_ | refine Sim.skip ?_ | refine Sim.inBlock ?_ | refine Sim.exit rfl ?_ | refine Sim.condT rfl ?_ | refine Sim.condF rfl ?_)
  refine RL.st h910' hb11 hle11 fun w11 h911 _ hb11 => ?_
  have hb11 : Box w11 b11 _ [.slice xaa xan xac, .slice xba xbn xbc] := hb11
  have hall1 := hall1.up h911
  have hall2 := hall2.up h911
  have hb7 := hb7.up h911
  have hb10 := hb10.up h911
  have hu := hu.trans h911
  have hx := hx.up h911
  have hs911 := h911.size
  have hl11 := hb11.lt
  clear h910' h911 he11
  have ha10 := hb10.at
  repeat (first | refine RL.vv ?_ | refine RL.p ?_ | refine RL.nil ?_ | refine Sim.seq ?_ | refine Sim.region ?_ | refine Sim.block ?_ | refine Sim.skip ?_ | refine Sim.inBlock ?_ | refine Sim.exit rfl ?_ | refine Sim.condT rfl ?_ | refine Sim.condF rfl ?_)
  refine RL.cx (SAnswer_any ⟨q.service, q.type, q.keys.drop n, q.fields⟩ w11 (hl.up hu) (by simp only [hdl]; exact hkd.up hu) (hf.up hu) hok (by simp only; omega)) ?_
  rintro _ w12 ⟨ya, yb, rfl, h1112, hy⟩
  refine ⟨_, rfl, ?_⟩
  rw [hrb] at hy
  rw [e2]
  have hxl1 := hx.1.lt
  have hxl2 := hx.2.1.lt
  have hall1 := hall1.up h1112
  have hall2 := hall2.up h1112
  have hb7 := hb7.up h1112
  have hb11 := hb11.up h1112
  have hx := hx.up h1112
  have hu := hu.trans h1112
  have hs1112 := h1112.size
  have hy1 := (hy.1.no (S' := No)).sl (S' := fun k => w11.heap.size ≤ k) (fun _ h _ _ => h.elim) (fun g hg => (hy.1.lt g hg).1)
  have hy2 := hy.2.1.sl (S' := fun k => w11.heap.size ≤ k) (fun k hk _ _ => by omega) (fun g hg => (hy.2.1.lt g hg).1)
  obtain ⟨yaa, yan, yac, rfl⟩ := hy.1.sh
  obtain ⟨yba, ybn, ybc, rfl⟩ := hy.2.1.sh
  clear ha10 hb10 hy
  repeat (first | refine RL.vv ?_ | refine RL.p ?_ | refine RL.nil ?_ | refine Sim.seq ?_ | refine Sim.region ?_ | refine Sim.block ?_ | refine Sim.skip ?_ | refine Sim.inBlock ?_ | refine Sim.exit rfl ?_ | refine Sim.condT rfl ?_ | refine Sim.condF rfl ?_)
  refine RL.al (.refl w12) fun b12 w13 he12 hle12 h1213 _ hb12 => ?_
  repeat (first | refine RL.vv ?_ | refine RL.p ?_ | refine RL.nil ?_ | refine Sim.seq ?_ | refine Sim.region ?_ | refine Sim.block ?_ | refine Sim.skip ?_ | refine Sim.inBlock ?_ | refine Sim.exit rfl ?_ | refine Sim.condT rfl ?_ | refine Sim.condF rfl ?_)
  refine RL.st h1213 hb12 hle12 fun w14 h1214 _ hb12 => ?_
  have hb12 : Box w14 b12 _ [.slice yaa yan yac, .slice yba ybn ybc] := hb12
  have hall1 := hall1.up h1214
  have hall2 := hall2.up h1214
  have hb7 := hb7.up h1214
  have hb11 := hb11.up h1214
  have hu := hu.trans h1214
  have hx := hx.up h1214
  have hy1 := hy1.up h1214
  have hy2 := hy2.up h1214
  have hs1214 := h1214.size
  clear h1213 h1214 he12
  repeat (first | refine RL.vv ?_ | refine RL.p ?_ | refine RL.nil ?_ | refine Sim.seq ?_ | refine Sim.region ?_ | refine Sim.block ?_ | refine Sim.skip ?_ | refine Sim.inBlock ?_ | refine Sim.exit rfl ?_ | refine Sim.condT rfl ?_ | refine Sim.condF rfl ?_)
  have hall1 := hall1.up (Up.drew w14)
  have hall2 := hall2.up (Up.drew w14)
  have hb7 := hb7.up (Up.drew w14)
  have hb11 := hb11.up (Up.drew w14)
  have hb12 := hb12.up (Up.drew w14)
  have hu := hu.trans (Up.drew w14)
  have hx := hx.up (Up.drew w14)
  have hy1 := hy1.up (Up.drew w14)
  have hy2 := hy2.up (Up.drew w14)
  have hS2 : Up w w14.drew ∧ At w14.drew b7 0 [.slice aa an ac, .slice ba bn bc] ∧ At w14.drew b11 0 [.slice xaa xan xac, .slice xba xbn xbc] ∧ At w14.drew b12 0 [.slice yaa yan yac, .slice yba ybn ybc] := ⟨hu, hb7.at, hb11.at, hb12.at⟩
  refine Sim.ord (fun wq => Up w wq ∧ At wq b7 0 [.slice aa an ac, .slice ba bn bc] ∧ At wq b11 0 [.slice xaa xan xac, .slice xba xbn xbc] ∧ At wq b12 0 [.slice yaa yan yac, .slice yba ybn ybc]) ?_
  refine RO.tk 0 ?_
  refine RO.tk 1 ?_
  refine RO.tk 2 ?_
  refine RO.tk 3 ?_
  refine RO.tk 4 ?_
  refine RO.tk 5 ?_
  refine RO.tk 6 ?_
  refine RO.tk 7 ?_ (hy := fun wq hq => y_loadA rfl hq.2.1 rfl)
  refine RO.tk 8 ?_
  refine RO.tk 9 ?_ (hy := fun wq hq => y_loadF rfl hq.2.2.1 rfl)
  refine RO.tk 10 ?_
  refine RO.tk 11 ?_ (hy := fun wq hq => y_loadF rfl hq.2.2.2 rfl)
  refine RO.tk 13 ?_
  refine RO.tk 14 ?_ (hy := fun wq hq => y_loadF rfl hq.2.2.1 rfl)
  refine RO.tk 15 ?_
  refine RO.tk 16 ?_ (hy := fun wq hq => y_loadF rfl hq.2.2.2 rfl)
  have hsd := (Up.drew w14).size
  have hw8 := hu0.size
  have hy2 := hy2.old
  refine RO.one 12 ?_
  refine RL.app (L := boolLay) (el := 4) (S := All) (B := w8.heap.size) (ys := rb.found) hu hx.1.no (hy1.mono fun k hk => ⟨trivial, fun h => by have := hxl1 k h.symm; omega⟩) (by omega) (by have := h58.size; omega) (by omega) fun xa' w15 hu15 ho hg hv => ?_
  have hnw := new_ne hv
  have hb7 := hb7.grown hg fun h => by have := hxl1 b7 h.symm; omega
  have hb11 := hb11.grown hg hn11
  have hb12 := hb12.grown hg fun h => by have := hxl1 b12 h.symm; omega
  have hall1 := hall1.grown hg fun k hk h => by have := hxl1 k h.symm; omega
  have hall2 := hall2.grown hg fun k hk h => by have := hxl1 k h.symm; omega
  have hy2 := hy2.grown hg fun k hk h => by have := hxl1 k h.symm; omega
  have hx := hx.found hg ho.no hv
  have hs15 := hg.size
  obtain ⟨za, zn, zc, rfl⟩ := ho.sh
  refine RL.ord ⟨hu15, hb7.at, hb11.at, hb12.at⟩ ?_
  refine RO.one 17 ?_
  refine RL.app (L := valLay.slice) (el := 101) (S := fun k => (k < 0 ∨ w8.heap.size ≤ k) ∧ some k ≠ Value.ownBlock (.slice za zn zc)) (B := w8.heap.size) (ys := rb.vals) hu15 hx.2.1 (hy2.mono fun k hk => ⟨⟨.inr (by omega), hnw k hk.2 fun h => by have := hxl1 k h.symm; omega⟩, fun h => by have := hxl2 k h.symm; omega⟩) (by simp only; omega) (by have := h58.size; omega) (by omega) fun xb' w16 hu16 ho2 hg2 hv2 => ?_
  have hb7 := hb7.grown hg2 fun h => by have := hxl2 b7 h.symm; omega
  have hb11 := hb11.grown hg2 hn11'
  have hb12 := hb12.grown hg2 fun h => by have := hxl2 b12 h.symm; omega
  have hall1 := hall1.grown hg2 fun k hk h => by have := hxl2 k h.symm; omega
  have hall2 := hall2.grown hg2 fun k hk h => by have := hxl2 k h.symm; omega
  have hx := hx.vals hg2 ho2 hv2
  obtain ⟨ya', yn', yc', rfl⟩ := ho2.sh
  have hS3 : Up w w16 ∧ At w16 b7 0 [.slice aa an ac, .slice ba bn bc] ∧ At w16 b11 0 [.slice xaa xan xac, .slice xba xbn xbc] ∧ At w16 b12 0 [.slice yaa yan yac, .slice yba ybn ybc] := ⟨hu16, hb7.at, hb11.at, hb12.at⟩
  refine RL.ord hS3 ?_
  refine RO.tk 18 ?_ (hy := fun wq hq => y_build (v := .agg #[.slice za zn zc, .slice ya' yn' yc']) rfl (fun w => by kernel_rfl))
  refine RO.one 19 ?_
  refine RL.cu hu16 (SameReply_eq (answerM l q).1 w16 hall1 hall2 (by rw [e3]; exact (hx.1.no (S' := No)).sl (S' := All) (fun _ h _ _ => h.elim) (fun _ _ => trivial)) (by rw [e3]; exact hx.2.1.sl (S' := All) (fun _ _ _ _ => trivial) (fun _ _ => trivial)) hlen) fun w17 hu17 h1617 => ?_
  have hS4 : Up w w17 ∧ At w17 b7 0 [.slice aa an ac, .slice ba bn bc] ∧ At w17 b11 0 [.slice xaa xan xac, .slice xba xbn xbc] ∧ At w17 b12 0 [.slice yaa yan yac, .slice yba ybn ybc] := ⟨hu17, (hb7.up h1617).at, (hb11.up h1617).at, (hb12.up h1617).at⟩
  refine RL.ord hS4 ?_
  refine RO.tk 20 ?_
  refine RO.tk 21 ?_
  refine RO.done (RL.nil ?_)
  repeat (first | refine RL.vv ?_ | refine RL.p ?_ | refine RL.nil ?_ | refine Sim.seq ?_ | refine Sim.region ?_ | refine Sim.block ?_ | refine Sim.skip ?_ | refine Sim.inBlock ?_ | refine Sim.exit rfl ?_ | refine Sim.condT rfl ?_ | refine Sim.condF rfl ?_)
  exact Sim.ret1 Try.func4 rfl rfl ⟨rfl, hu17⟩
end Go.Proofs.Ytgckpmcdlciibaa
