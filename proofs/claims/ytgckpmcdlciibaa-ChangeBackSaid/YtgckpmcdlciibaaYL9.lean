/- The walk of ChangeBack. -/
import Derived.Test.YtgckpmcdlciibaaYL8
import Derived.Test.YtgckpmcdlciibaaZJ
namespace Go.Proofs.Ytgckpmcdlciibaa
open Go.RowKit
section
variable {P : Program} {e : Env} {w : World} {ty : TypeId} {v : Value}
theorem isAgg_arr {t el : TypeId} {n : Nat} (ht : P.underlying t = some (.array n el)) (w : World) : (Go.isAgg t).run P w = .ok true w := by
  unfold Go.isAgg
  rw [Sem.run_bind, run_underlying ht]
  simp
theorem y_loadArr {t el : TypeId} {n : Nat} (ht : P.underlying t = some (.array n el)) {x : Operand} {b o : Nat} {cs : List Value} {k : Nat} [Siz P t k] (hx : e.ev x = some (.pointer (some ⟨b, o, none⟩))) (hc : At w b o cs) (hk : cs.length = k) :
    Yld P (.load t x) ty e w (.agg cs.toArray) := Yld.mk fun ρ hρ => by
  have h1 := isAgg_arr ht w
  have h2 := Siz.run P t (k := k) w
  have h3 := run_loadCellsFrom (P := P) (w := w) (b := b) (o := o) cs 0 #[] (by simpa [At] using hc)
  subst hk
  simp [xop, execOp, hρ x _ hx, Instr.loadAt, Instr.sureAddr, loadVar, h1, h2, loadCells, h3]
/-- an element of an array behind a pointer -/
theorem y_indexArr {t el : TypeId} {n : Nat} (ht : P.underlying t = some (.array n el)) {x y : Operand} {b o i k : Nat} [Siz P el k] (hx : e.ev x = some (.pointer (some ⟨b, o, none⟩))) (hy : e.ev y = some (.int .i64 (i : Int))) (hi : i < n) :
    Yld P (.indexAddr t x y) ty e w (.pointer (some ⟨b, o + i * k, none⟩)) := Yld.mk fun ρ hρ => by
  have h1 := run_underlying ht w
  have h2 := Siz.run P el (k := k) w
  simp [xop, execOp, hρ x _ hx, hρ y _ hy, Instr.indexAt, asIntOf, h1, h2, hi, addr_add, Instr.sureAddr]
end
def pairOk (a b : Chg) : Prop := ∀ ts, Right ts → (doT ts a).1 = 0 → (doT (doT ts a).2 b).1 = 0 ∧ (doT (doT ts a).2 b).2 = ts
def chgCells (c : Chg) : List Value := [.int .i64 c.kind, .string c.type, .string c.field, .string c.to]
theorem newer {w : World} {v v' : Value} (hv : ∀ g, v'.ownBlock = some g → v.ownBlock = some g ∨ g = w.heap.size) (k : Nat) (h1 : k < w.heap.size) (h2 : some k ≠ v.ownBlock) : some k ≠ v'.ownBlock := fun h3 => by
  rcases hv k h3.symm with h4 | h4
  · exact h2 h4.symm
  · omega
theorem At.split {w : World} {b o : Nat} {xs ys : List Value} (h : At w b o (xs ++ ys)) : At w b o xs ∧ At w b (o + xs.length) ys := by
  refine ⟨fun j v hj => h j v ?_, fun j v hj => ?_⟩
  · rw [List.getElem?_append_left (List.getElem?_eq_some_iff.1 hj).1]
    exact hj
  · have := h (xs.length + j) v (by rw [List.getElem?_append_right (by omega), Nat.add_sub_cancel_left]; exact hj)
    rwa [← Nat.add_assoc] at this
set_option maxHeartbeats 8000000 in
theorem ChangeBack_walk {S S2 : Nat → Prop} {lv cv : Value} {l : List Typ} {cs : List Chg} (name field to : Str) (w : World) (hl : SliceOf typLay S w lv l) (hcs : SliceOf chgLay S2 w cv cs) :
    Calls Try.prog 13 #[lv, cv, .string name, .string field, .string to] w fun en w' => en = .returned (.bool true) ∧ Up w w' := by
  refine calls_of_sim Try.func13 rfl (Nat.le_of_ble_eq_true rfl) ?_
  obtain ⟨la, lc, rfl, hlnc, hlcm, _⟩ := id hl
  obtain ⟨ca, cc, rfl, hcnc, hccm, _⟩ := id hcs
  unfold maxLen at hlcm hccm
  repeat (first | refine RL.vv ?_ | refine RL.p ?_ | refine RL.nil ?_ | refine Sim.seq ?_ | refine Sim.region ?_ | refine Sim.block ?_ | refine Sim.skip ?_ | refine Sim.inBlock ?_ | refine Sim.exit rfl ?_ | refine Sim.condT rfl ?_ | refine Sim.condF rfl ?_)
  refine RL.cu (.refl w) (alive2_any w) fun w1 hu _ => ?_
  repeat (first | refine RL.vv ?_ | refine RL.p ?_ | refine RL.nil ?_ | refine Sim.seq ?_ | refine Sim.region ?_ | refine Sim.block ?_ | refine Sim.skip ?_ | refine Sim.inBlock ?_ | refine Sim.exit rfl ?_ | refine Sim.condT rfl ?_ | refine Sim.condF rfl ?_)
  refine RL.cx (See_any w1 (hl.up hu) (hcs.up hu)) ?_
  rintro _ w2 ⟨v1, rfl, h12, hds1, lab1, hv1⟩
  refine ⟨_, rfl, ?_⟩
  have hu := hu.trans h12
  unfold fltV
  have hs1 := hv1.seen.mono (S' := fun b => b < w2.heap.size) fun _ h => h.2
  obtain ⟨xa1, xc1, rfl, _⟩ := id hs1
  repeat (first | refine RL.vv ?_ | refine RL.p ?_ | refine RL.nil ?_ | refine Sim.seq ?_ | refine Sim.region ?_ | refine Sim.block ?_ | refine Sim.skip ?_ | refine Sim.inBlock ?_ | refine Sim.exit rfl ?_ | refine Sim.condT rfl ?_ | refine Sim.condF rfl ?_)
  refine RL.al (.refl w2) fun b8 w3 he8 hle8 h23 _ hb8 => ?_
  repeat (first | refine RL.vv ?_ | refine RL.p ?_ | refine RL.nil ?_ | refine Sim.seq ?_ | refine Sim.region ?_ | refine Sim.block ?_ | refine Sim.skip ?_ | refine Sim.inBlock ?_ | refine Sim.exit rfl ?_ | refine Sim.condT rfl ?_ | refine Sim.condF rfl ?_)
  refine RL.st h23 hb8 hle8 fun w4 h24 _ hb8 => ?_
  have hb8 : Box w4 b8 _ [.int .i64 (seeM l cs).2.err, .int .i64 (seeM l cs).2.at_] := hb8
  have hu := hu.trans h24
  have hs1 := hs1.up h24
  have ha8 := hb8.at
  clear h12 h23 h24 hv1 he8
  by_cases hf : (seeM l cs).2.err = 0
  rotate_left
  · repeat (first | refine RL.vv ?_ | refine RL.p ?_ | refine RL.nil ?_ | refine Sim.seq ?_ | refine Sim.region ?_ | refine Sim.block ?_ | refine Sim.skip ?_ | refine Sim.inBlock ?_ | refine Sim.exit rfl ?_ | refine Sim.condT rfl ?_ | refine Sim.condF rfl ?_)
    exact Sim.ret1 Try.func13 rfl rfl ⟨rfl, hu⟩
  repeat (first | refine RL.vv ?_ | refine RL.p ?_ | refine RL.nil ?_ | refine Sim.seq ?_ | refine Sim.region ?_ | refine Sim.block ?_ | refine Sim.skip ?_ | refine Sim.inBlock ?_ | refine Sim.exit rfl ?_ | refine Sim.condT rfl ?_ | refine Sim.condF rfl ?_)
  refine RL.vv ?_ (hy := y_add (d := (cs.length : Int) + 2) rfl rfl rfl (by omega) (by have := (seeM_cases hf).2.1; omega))
  by_cases h10 : (12 : Int) < (cs.length : Int) + 2
  · repeat (first | refine RL.vv ?_ | refine RL.p ?_ | refine RL.nil ?_ | refine Sim.seq ?_ | refine Sim.region ?_ | refine Sim.block ?_ | refine Sim.skip ?_ | refine Sim.inBlock ?_ | refine Sim.exit rfl ?_ | refine Sim.condT rfl ?_ | refine Sim.condF rfl ?_)
    exact Sim.ret1 Try.func13 rfl rfl ⟨rfl, hu⟩
  have h8 := (seeM_right hf).1.len
  rw [List.length_map] at h8
  repeat (first | refine RL.vv ?_ | refine RL.p ?_ | refine RL.nil ?_ | refine Sim.seq ?_ | refine Sim.region ?_ | refine Sim.block ?_ | refine Sim.skip ?_ | refine Sim.inBlock ?_ | refine Sim.exit rfl ?_ | refine Sim.condT rfl ?_ | refine Sim.condF rfl ?_)
  refine RL.val trivial rfl (y_build (v := .agg (chgCells ⟨1, name, ⟨#[]⟩, to⟩).toArray) rfl (fun w => by kernel_rfl)) ?_
  repeat (first | refine RL.vv ?_ | refine RL.p ?_ | refine RL.nil ?_ | refine Sim.seq ?_ | refine Sim.region ?_ | refine Sim.block ?_ | refine Sim.skip ?_ | refine Sim.inBlock ?_ | refine Sim.exit rfl ?_ | refine Sim.condT rfl ?_ | refine Sim.condF rfl ?_)
  refine RL.val trivial rfl (y_build (v := .agg (chgCells ⟨1, to, ⟨#[]⟩, name⟩).toArray) rfl (fun w => by kernel_rfl)) ?_
  refine RL.val trivial rfl (y_build (v := .agg (chgCells ⟨1, name, ⟨#[]⟩, to⟩ ++ chgCells ⟨1, to, ⟨#[]⟩, name⟩).toArray) rfl (fun w => by kernel_rfl)) ?_
  repeat (first | refine RL.vv ?_ | refine RL.p ?_ | refine RL.nil ?_ | refine Sim.seq ?_ | refine Sim.region ?_ | refine Sim.block ?_ | refine Sim.skip ?_ | refine Sim.inBlock ?_ | refine Sim.exit rfl ?_ | refine Sim.condT rfl ?_ | refine Sim.condF rfl ?_)
  refine RL.val trivial rfl (y_build (v := .agg (chgCells ⟨2, name, field, to⟩).toArray) rfl (fun w => by kernel_rfl)) ?_
  repeat (first | refine RL.vv ?_ | refine RL.p ?_ | refine RL.nil ?_ | refine Sim.seq ?_ | refine Sim.region ?_ | refine Sim.block ?_ | refine Sim.skip ?_ | refine Sim.inBlock ?_ | refine Sim.exit rfl ?_ | refine Sim.condT rfl ?_ | refine Sim.condF rfl ?_)
  refine RL.val trivial rfl (y_build (v := .agg (chgCells ⟨2, name, to, field⟩).toArray) rfl (fun w => by kernel_rfl)) ?_
  refine RL.val trivial rfl (y_build (v := .agg (chgCells ⟨2, name, field, to⟩ ++ chgCells ⟨2, name, to, field⟩).toArray) rfl (fun w => by kernel_rfl)) ?_
  refine RL.bu (el := 83) ((chgCells ⟨1, name, ⟨#[]⟩, to⟩ ++ chgCells ⟨1, to, ⟨#[]⟩, name⟩) ++ (chgCells ⟨2, name, field, to⟩ ++ chgCells ⟨2, name, to, field⟩)) (.refl w4) fun b9 w5 _ _ h45 _ hb9 => ?_
  have hu := hu.trans h45
  have hs1 := hs1.up h45
  have hpair : ∀ i, i < 2 → ∃ a b : Chg, At w5 b9 (0 + i * 8) (chgCells a ++ chgCells b) ∧ pairOk a b := fun i hi => by
    obtain ⟨h1, h2⟩ := At.split hb9.at
    match i, hi with
    | 0, _ => exact ⟨_, _, h1, fun ts hr h => doT_back1 hr h⟩
    | 1, _ => exact ⟨_, _, h2, fun ts hr h => doT_back2 hr h⟩
  clear hb9 h45 hb8 ha8
  have hu5 := hu
  repeat (first | refine RL.vv ?_ | refine RL.p ?_ | refine RL.nil ?_ | refine Sim.seq ?_ | refine Sim.region ?_ | refine Sim.block ?_ | refine Sim.skip ?_ | refine Sim.inBlock ?_ | refine Sim.exit rfl ?_ | refine Sim.condT rfl ?_ | refine Sim.condF rfl ?_)
  refine Sim.loop (σ := Nat) (fun i => [(0, .slice la l.length lc), (1, .slice ca cs.length cc), (11, .slice xa1 (seeM l cs).1.length xc1), (52, .slice (some ⟨b9, 0, none⟩) 2 2), (53, .int .i64 ((2 : Nat) : Int)), (54, .int .i64 (i : Int))]) (fun i w' => i ≤ 2 ∧ Up w5 w') (fun i => 2 - i) 0 sb ⟨Nat.zero_le _, .refl _⟩ ?_
  clear hu
  rintro i w6 ⟨hi, h56⟩ next
  have hu := hu5.trans h56
  by_cases hlt : i < 2
  rotate_left
  · repeat (first | refine RL.vv ?_ | refine RL.p ?_ | refine RL.nil ?_ | refine Sim.seq ?_ | refine Sim.region ?_ | refine Sim.block ?_ | refine Sim.skip ?_ | refine Sim.inBlock ?_ | refine Sim.exit rfl ?_ | refine Sim.condT rfl ?_ | refine Sim.condF rfl ?_)
    exact Sim.ret1 Try.func13 rfl rfl ⟨rfl, hu⟩
  obtain ⟨a, b, hat, hpok⟩ := hpair i hlt
  have hat := hat.up h56
  have hs1 := hs1.up h56
  repeat (first | refine RL.vv ?_ | refine RL.p ?_ | refine RL.nil ?_ | refine Sim.seq ?_ | refine Sim.region ?_ | refine Sim.block ?_ | refine Sim.skip ?_ | refine Sim.inBlock ?_ | refine Sim.exit rfl ?_ | refine Sim.condT rfl ?_ | refine Sim.condF rfl ?_)
  refine RL.vv ?_ (hy := y_loadArr Try.underlying83 rfl hat rfl)
  refine RL.al (.refl w6) fun b14 w7' _ hle14 h67 _ hb14 => ?_
  repeat (first | refine RL.vv ?_ | refine RL.p ?_ | refine RL.nil ?_ | refine Sim.seq ?_ | refine Sim.region ?_ | refine Sim.block ?_ | refine Sim.skip ?_ | refine Sim.inBlock ?_ | refine Sim.exit rfl ?_ | refine Sim.condT rfl ?_ | refine Sim.condF rfl ?_)
  refine RL.st (news := chgCells a ++ chgCells b) h67 hb14 hle14 (h1 := by
    intro c hc
    simp only [chgCells, List.mem_append, List.mem_cons, List.not_mem_nil, or_false] at hc
    rcases hc with (rfl | rfl | rfl | rfl) | (rfl | rfl | rfl | rfl) <;> rfl) fun w7 h67 _ hb14 => ?_
  have hu := hu.trans h67
  have hs1 := hs1.up h67
  obtain ⟨hata, hatb⟩ : At w7 b14 (0 + 0 * 4) (chgCells a) ∧ At w7 b14 (0 + 1 * 4) (chgCells b) := At.split (xs := chgCells a) (ys := chgCells b) hb14.at
  clear hat hb14 hle14
  repeat (first | refine RL.vv ?_ | refine RL.p ?_ | refine RL.nil ?_ | refine Sim.seq ?_ | refine Sim.region ?_ | refine Sim.block ?_ | refine Sim.skip ?_ | refine Sim.inBlock ?_ | refine Sim.exit rfl ?_ | refine Sim.condT rfl ?_ | refine Sim.condF rfl ?_)
  refine Sim.cutX (σ := Nat × Option Addr × Nat) (fun st => [(0, .slice la l.length lc), (1, .slice ca cs.length cc), (11, .slice xa1 (seeM l cs).1.length xc1), (52, .slice (some ⟨b9, 0, none⟩) 2 2), (53, .int .i64 ((2 : Nat) : Int)), (54, .int .i64 (i : Int)), (14, .pointer (some ⟨b14, 0, none⟩)), (16, .pointer (some ⟨st.1, 0, none⟩))])
    (fun st w' => Up w7 w' ∧ Box w' st.1 51 [.int .i64 (seeM l (cs ++ [a])).2.err, .int .i64 (seeM l (cs ++ [a])).2.at_] ∧ SliceOf snLay (fun _ => True) w' (.slice st.2.1 (seeM l (cs ++ [a])).1.length st.2.2) (seeM l (cs ++ [a])).1) (fun k' next2 => ?_) ?_
  · have h0 := Up.drew w7
    refine Sim.ord (Up w7) ?_
    refine RO.tk 0 ?_
    refine RO.tk 2 ?_
    refine RO.tk 4 ?_ (hy := fun wq hq => y_indexArr (i := 0) (k := 4) Try.underlying83 rfl rfl (by decide))
    refine RO.tk 5 ?_ (hy := fun wq hq => y_loadA rfl (hata.up hq) rfl)
    refine RO.three 1 6 12 ?_ ?_ ?_
    · refine RL.bu (el := 82) [] h0 fun b1 _ he1 hle1 h0 h hb1 => ?_
      try have hne2 : some b2 ≠ Value.ownBlock (.slice (some ⟨b1, 0, none⟩) 0 0) := fun h => by simp [Value.ownBlock] at h; have := hb2.lt; omega
      try have hne12 : some b12 ≠ Value.ownBlock (.slice (some ⟨b1, 0, none⟩) 0 0) := fun h => by simp [Value.ownBlock] at h; have := hb12.lt; omega
      try have hb2 := hb2.up h
      try have hb12 := hb12.up h
      have ho := Own.empty (S := fun _ => True) (B := w7.heap.size) chgLay hb1 hle1
      refine RL.ord h0 ?_
      clear h
      refine RO.three 3 6 12 ?_ ?_ ?_
      · refine RL.app (L := chgLay) (el := 82) (S := fun _ => True) (B := w7.heap.size) (ys := cs) h0 ho ((hcs.old.up (hu.trans h0)).mono fun k hk => ⟨trivial, ho.ne' (by have := hu.size; omega)⟩) (by simp; omega) (Nat.le_refl _) h0.size fun v1 _ h0 ho1 hg hv => ?_
        rw [List.nil_append] at ho1
        try have hne2n := newer hv b2 hb2.lt hne2
        try have hne12n := newer hv b12 hb12.lt hne12
        try have hb2 := hb2.grown hg hne2
        try have hb12 := hb12.grown hg hne12
        try have hne2 := hne2n
        try have hne12 := hne12n
        have ho := ho1
        refine RL.ord h0 ?_
        clear hg hv ho1
        refine RO.two 6 12 ?_ ?_
        · refine RL.bu (el := 82) (chgCells a) h0 fun b2 _ he2 hle2 h0 h hb2 => ?_
          try have hne2 := ho.ne (Nat.le_of_eq he2.symm)
          try have ho := ho.up h
          try have hb12 := hb12.up h
          refine RL.ord h0 ?_
          clear h
          refine RO.two 7 12 ?_ ?_
          · refine RL.app (L := chgLay) (el := 82) (S := fun _ => True) (B := w7.heap.size) (ys := [a]) h0 ho (SliceOf.one hb2 ⟨trivial, hne2⟩ rfl) (by simp; omega) (Nat.le_refl _) h0.size fun v2 _ h0 ho1 hg hv => ?_
            try have hne12n := newer hv b12 hb12.lt hne12
            try have hb12 := hb12.grown hg hne12
            try have hne12 := hne12n
            have ho := ho1
            refine RL.ord h0 ?_
            clear hg hv ho1
            refine RO.two 8 12 ?_ ?_
            · try have hl12 := hb12.lt
              refine RL.cx (See_any _ (hl.up (hu.trans h0)) (ho.slice (fun _ => True) (fun _ _ => trivial) fun _ _ => trivial)) ?_
              rintro _ _ ⟨v3, rfl, h, hds3, lab3, hv3⟩
              refine ⟨_, rfl, ?_⟩
              have h0 := h0.trans h
              unfold fltV
              try have hb12 := hb12.up h
              have hsb := hv3.seen
              obtain ⟨xa, xc, rfl, _⟩ := id hsb
              clear ho
              refine RL.ord h0 ?_
              clear h hv3
              refine RO.tk 9 ?_
              refine RO.tk 10 ?_
              refine RO.tk 11 ?_
              refine RO.one 12 ?_
              refine RL.al h0 fun b12 _ he12 hle12 h0 h hb12 => ?_
              try have hne12 := ho.ne (Nat.le_of_eq he12.symm)
              try have ho := ho.up h
              try have hb2 := hb2.up h
              try have hsb := hsb.up h
              refine RL.ord h0 ?_
              clear h
              refine RO.tk 13 ?_
              refine RO.one 14 ?_
              refine RL.st h0 hb12 hle12 fun _ h0 hbt hb12 => ?_
              have hsb := (hsb.bt hbt (fun k hk => by have := hk.1; have := hk.2; omega)).mono (S' := fun _ => True) fun _ _ => trivial
              refine RL.ord h0 ?_
              refine RO.done (RL.nil ?_)
              exact next2 (b12, xa, xc) _ _ ⟨h0, hb12, hsb⟩ sb
            · refine RL.al h0 fun b12 _ he12 hle12 h0 h hb12 => ?_
              try have hne12 := ho.ne (Nat.le_of_eq he12.symm)
              try have ho := ho.up h
              try have hb2 := hb2.up h
              try have hsb := hsb.up h
              refine RL.ord h0 ?_
              clear h
              refine RO.one 8 ?_
              try have hl12 := hb12.lt
              refine RL.cx (See_any _ (hl.up (hu.trans h0)) (ho.slice (fun _ => True) (fun _ _ => trivial) fun _ _ => trivial)) ?_
              rintro _ _ ⟨v3, rfl, h, hds3, lab3, hv3⟩
              refine ⟨_, rfl, ?_⟩
              have h0 := h0.trans h
              unfold fltV
              try have hb12 := hb12.up h
              have hsb := hv3.seen
              obtain ⟨xa, xc, rfl, _⟩ := id hsb
              clear ho
              refine RL.ord h0 ?_
              clear h hv3
              refine RO.tk 9 ?_
              refine RO.tk 10 ?_
              refine RO.tk 11 ?_
              refine RO.tk 13 ?_
              refine RO.one 14 ?_
              refine RL.st h0 hb12 hle12 fun _ h0 hbt hb12 => ?_
              have hsb := (hsb.bt hbt (fun k hk => by have := hk.1; have := hk.2; omega)).mono (S' := fun _ => True) fun _ _ => trivial
              refine RL.ord h0 ?_
              refine RO.done (RL.nil ?_)
              exact next2 (b12, xa, xc) _ _ ⟨h0, hb12, hsb⟩ sb
          · refine RL.al h0 fun b12 _ he12 hle12 h0 h hb12 => ?_
            try have hne12 := ho.ne (Nat.le_of_eq he12.symm)
            try have ho := ho.up h
            try have hb2 := hb2.up h
            try have hsb := hsb.up h
            refine RL.ord h0 ?_
            clear h
            refine RO.one 7 ?_
            refine RL.app (L := chgLay) (el := 82) (S := fun _ => True) (B := w7.heap.size) (ys := [a]) h0 ho (SliceOf.one hb2 ⟨trivial, hne2⟩ rfl) (by simp; omega) (Nat.le_refl _) h0.size fun v2 _ h0 ho1 hg hv => ?_
            try have hne12n := newer hv b12 hb12.lt hne12
            try have hb12 := hb12.grown hg hne12
            try have hne12 := hne12n
            have ho := ho1
            refine RL.ord h0 ?_
            clear hg hv ho1
            refine RO.one 8 ?_
            try have hl12 := hb12.lt
            refine RL.cx (See_any _ (hl.up (hu.trans h0)) (ho.slice (fun _ => True) (fun _ _ => trivial) fun _ _ => trivial)) ?_
            rintro _ _ ⟨v3, rfl, h, hds3, lab3, hv3⟩
            refine ⟨_, rfl, ?_⟩
            have h0 := h0.trans h
            unfold fltV
            try have hb12 := hb12.up h
            have hsb := hv3.seen
            obtain ⟨xa, xc, rfl, _⟩ := id hsb
            clear ho
            refine RL.ord h0 ?_
            clear h hv3
            refine RO.tk 9 ?_
            refine RO.tk 10 ?_
            refine RO.tk 11 ?_
            refine RO.tk 13 ?_
            refine RO.one 14 ?_
            refine RL.st h0 hb12 hle12 fun _ h0 hbt hb12 => ?_
            have hsb := (hsb.bt hbt (fun k hk => by have := hk.1; have := hk.2; omega)).mono (S' := fun _ => True) fun _ _ => trivial
            refine RL.ord h0 ?_
            refine RO.done (RL.nil ?_)
            exact next2 (b12, xa, xc) _ _ ⟨h0, hb12, hsb⟩ sb
        · refine RL.al h0 fun b12 _ he12 hle12 h0 h hb12 => ?_
          try have hne12 := ho.ne (Nat.le_of_eq he12.symm)
          try have ho := ho.up h
          try have hb2 := hb2.up h
          try have hsb := hsb.up h
          refine RL.ord h0 ?_
          clear h
          refine RO.one 6 ?_
          refine RL.bu (el := 82) (chgCells a) h0 fun b2 _ he2 hle2 h0 h hb2 => ?_
          try have hne2 := ho.ne (Nat.le_of_eq he2.symm)
          try have ho := ho.up h
          try have hb12 := hb12.up h
          refine RL.ord h0 ?_
          clear h
          refine RO.one 7 ?_
          refine RL.app (L := chgLay) (el := 82) (S := fun _ => True) (B := w7.heap.size) (ys := [a]) h0 ho (SliceOf.one hb2 ⟨trivial, hne2⟩ rfl) (by simp; omega) (Nat.le_refl _) h0.size fun v2 _ h0 ho1 hg hv => ?_
          try have hne12n := newer hv b12 hb12.lt hne12
          try have hb12 := hb12.grown hg hne12
          try have hne12 := hne12n
          have ho := ho1
          refine RL.ord h0 ?_
          clear hg hv ho1
          refine RO.one 8 ?_
          try have hl12 := hb12.lt
          refine RL.cx (See_any _ (hl.up (hu.trans h0)) (ho.slice (fun _ => True) (fun _ _ => trivial) fun _ _ => trivial)) ?_
          rintro _ _ ⟨v3, rfl, h, hds3, lab3, hv3⟩
          refine ⟨_, rfl, ?_⟩
          have h0 := h0.trans h
          unfold fltV
          try have hb12 := hb12.up h
          have hsb := hv3.seen
          obtain ⟨xa, xc, rfl, _⟩ := id hsb
          clear ho
          refine RL.ord h0 ?_
          clear h hv3
          refine RO.tk 9 ?_
          refine RO.tk 10 ?_
          refine RO.tk 11 ?_
          refine RO.tk 13 ?_
          refine RO.one 14 ?_
          refine RL.st h0 hb12 hle12 fun _ h0 hbt hb12 => ?_
          have hsb := (hsb.bt hbt (fun k hk => by have := hk.1; have := hk.2; omega)).mono (S' := fun _ => True) fun _ _ => trivial
          refine RL.ord h0 ?_
          refine RO.done (RL.nil ?_)
          exact next2 (b12, xa, xc) _ _ ⟨h0, hb12, hsb⟩ sb
      · refine RL.bu (el := 82) (chgCells a) h0 fun b2 _ he2 hle2 h0 h hb2 => ?_
        try have hne2 := ho.ne (Nat.le_of_eq he2.symm)
        try have ho := ho.up h
        try have hb12 := hb12.up h
        refine RL.ord h0 ?_
        clear h
        refine RO.two 3 12 ?_ ?_
        · refine RL.app (L := chgLay) (el := 82) (S := fun _ => True) (B := w7.heap.size) (ys := cs) h0 ho ((hcs.old.up (hu.trans h0)).mono fun k hk => ⟨trivial, ho.ne' (by have := hu.size; omega)⟩) (by simp; omega) (Nat.le_refl _) h0.size fun v1 _ h0 ho1 hg hv => ?_
          rw [List.nil_append] at ho1
          try have hne2n := newer hv b2 hb2.lt hne2
          try have hne12n := newer hv b12 hb12.lt hne12
          try have hb2 := hb2.grown hg hne2
          try have hb12 := hb12.grown hg hne12
          try have hne2 := hne2n
          try have hne12 := hne12n
          have ho := ho1
          refine RL.ord h0 ?_
          clear hg hv ho1
          refine RO.two 7 12 ?_ ?_
          · refine RL.app (L := chgLay) (el := 82) (S := fun _ => True) (B := w7.heap.size) (ys := [a]) h0 ho (SliceOf.one hb2 ⟨trivial, hne2⟩ rfl) (by simp; omega) (Nat.le_refl _) h0.size fun v2 _ h0 ho1 hg hv => ?_
            try have hne12n := newer hv b12 hb12.lt hne12
            try have hb12 := hb12.grown hg hne12
            try have hne12 := hne12n
            have ho := ho1
            refine RL.ord h0 ?_
            clear hg hv ho1
            refine RO.two 8 12 ?_ ?_
            · try have hl12 := hb12.lt
              refine RL.cx (See_any _ (hl.up (hu.trans h0)) (ho.slice (fun _ => True) (fun _ _ => trivial) fun _ _ => trivial)) ?_
              rintro _ _ ⟨v3, rfl, h, hds3, lab3, hv3⟩
              refine ⟨_, rfl, ?_⟩
              have h0 := h0.trans h
              unfold fltV
              try have hb12 := hb12.up h
              have hsb := hv3.seen
              obtain ⟨xa, xc, rfl, _⟩ := id hsb
              clear ho
              refine RL.ord h0 ?_
              clear h hv3
              refine RO.tk 9 ?_
              refine RO.tk 10 ?_
              refine RO.tk 11 ?_
              refine RO.one 12 ?_
              refine RL.al h0 fun b12 _ he12 hle12 h0 h hb12 => ?_
              try have hne12 := ho.ne (Nat.le_of_eq he12.symm)
              try have ho := ho.up h
              try have hb2 := hb2.up h
              try have hsb := hsb.up h
              refine RL.ord h0 ?_
              clear h
              refine RO.tk 13 ?_
              refine RO.one 14 ?_
              refine RL.st h0 hb12 hle12 fun _ h0 hbt hb12 => ?_
              have hsb := (hsb.bt hbt (fun k hk => by have := hk.1; have := hk.2; omega)).mono (S' := fun _ => True) fun _ _ => trivial
              refine RL.ord h0 ?_
              refine RO.done (RL.nil ?_)
              exact next2 (b12, xa, xc) _ _ ⟨h0, hb12, hsb⟩ sb
            · refine RL.al h0 fun b12 _ he12 hle12 h0 h hb12 => ?_
              try have hne12 := ho.ne (Nat.le_of_eq he12.symm)
              try have ho := ho.up h
              try have hb2 := hb2.up h
              try have hsb := hsb.up h
              refine RL.ord h0 ?_
              clear h
              refine RO.one 8 ?_
              try have hl12 := hb12.lt
              refine RL.cx (See_any _ (hl.up (hu.trans h0)) (ho.slice (fun _ => True) (fun _ _ => trivial) fun _ _ => trivial)) ?_
              rintro _ _ ⟨v3, rfl, h, hds3, lab3, hv3⟩
              refine ⟨_, rfl, ?_⟩
              have h0 := h0.trans h
              unfold fltV
              try have hb12 := hb12.up h
              have hsb := hv3.seen
              obtain ⟨xa, xc, rfl, _⟩ := id hsb
              clear ho
              refine RL.ord h0 ?_
              clear h hv3
              refine RO.tk 9 ?_
              refine RO.tk 10 ?_
              refine RO.tk 11 ?_
              refine RO.tk 13 ?_
              refine RO.one 14 ?_
              refine RL.st h0 hb12 hle12 fun _ h0 hbt hb12 => ?_
              have hsb := (hsb.bt hbt (fun k hk => by have := hk.1; have := hk.2; omega)).mono (S' := fun _ => True) fun _ _ => trivial
              refine RL.ord h0 ?_
              refine RO.done (RL.nil ?_)
              exact next2 (b12, xa, xc) _ _ ⟨h0, hb12, hsb⟩ sb
          · refine RL.al h0 fun b12 _ he12 hle12 h0 h hb12 => ?_
            try have hne12 := ho.ne (Nat.le_of_eq he12.symm)
            try have ho := ho.up h
            try have hb2 := hb2.up h
            try have hsb := hsb.up h
            refine RL.ord h0 ?_
            clear h
            refine RO.one 7 ?_
            refine RL.app (L := chgLay) (el := 82) (S := fun _ => True) (B := w7.heap.size) (ys := [a]) h0 ho (SliceOf.one hb2 ⟨trivial, hne2⟩ rfl) (by simp; omega) (Nat.le_refl _) h0.size fun v2 _ h0 ho1 hg hv => ?_
            try have hne12n := newer hv b12 hb12.lt hne12
            try have hb12 := hb12.grown hg hne12
            try have hne12 := hne12n
            have ho := ho1
            refine RL.ord h0 ?_
            clear hg hv ho1
            refine RO.one 8 ?_
            try have hl12 := hb12.lt
            refine RL.cx (See_any _ (hl.up (hu.trans h0)) (ho.slice (fun _ => True) (fun _ _ => trivial) fun _ _ => trivial)) ?_
            rintro _ _ ⟨v3, rfl, h, hds3, lab3, hv3⟩
            refine ⟨_, rfl, ?_⟩
            have h0 := h0.trans h
            unfold fltV
            try have hb12 := hb12.up h
            have hsb := hv3.seen
            obtain ⟨xa, xc, rfl, _⟩ := id hsb
            clear ho
            refine RL.ord h0 ?_
            clear h hv3
            refine RO.tk 9 ?_
            refine RO.tk 10 ?_
            refine RO.tk 11 ?_
            refine RO.tk 13 ?_
            refine RO.one 14 ?_
            refine RL.st h0 hb12 hle12 fun _ h0 hbt hb12 => ?_
            have hsb := (hsb.bt hbt (fun k hk => by have := hk.1; have := hk.2; omega)).mono (S' := fun _ => True) fun _ _ => trivial
            refine RL.ord h0 ?_
            refine RO.done (RL.nil ?_)
            exact next2 (b12, xa, xc) _ _ ⟨h0, hb12, hsb⟩ sb
        · refine RL.al h0 fun b12 _ he12 hle12 h0 h hb12 => ?_
          try have hne12 := ho.ne (Nat.le_of_eq he12.symm)
          try have ho := ho.up h
          try have hb2 := hb2.up h
          try have hsb := hsb.up h
          refine RL.ord h0 ?_
          clear h
          refine RO.one 3 ?_
          refine RL.app (L := chgLay) (el := 82) (S := fun _ => True) (B := w7.heap.size) (ys := cs) h0 ho ((hcs.old.up (hu.trans h0)).mono fun k hk => ⟨trivial, ho.ne' (by have := hu.size; omega)⟩) (by simp; omega) (Nat.le_refl _) h0.size fun v1 _ h0 ho1 hg hv => ?_
          rw [List.nil_append] at ho1
          try have hne2n := newer hv b2 hb2.lt hne2
          try have hne12n := newer hv b12 hb12.lt hne12
          try have hb2 := hb2.grown hg hne2
          try have hb12 := hb12.grown hg hne12
          try have hne2 := hne2n
          try have hne12 := hne12n
          have ho := ho1
          refine RL.ord h0 ?_
          clear hg hv ho1
          refine RO.one 7 ?_
          refine RL.app (L := chgLay) (el := 82) (S := fun _ => True) (B := w7.heap.size) (ys := [a]) h0 ho (SliceOf.one hb2 ⟨trivial, hne2⟩ rfl) (by simp; omega) (Nat.le_refl _) h0.size fun v2 _ h0 ho1 hg hv => ?_
          try have hne12n := newer hv b12 hb12.lt hne12
          try have hb12 := hb12.grown hg hne12
          try have hne12 := hne12n
          have ho := ho1
          refine RL.ord h0 ?_
          clear hg hv ho1
          refine RO.one 8 ?_
          try have hl12 := hb12.lt
          refine RL.cx (See_any _ (hl.up (hu.trans h0)) (ho.slice (fun _ => True) (fun _ _ => trivial) fun _ _ => trivial)) ?_
          rintro _ _ ⟨v3, rfl, h, hds3, lab3, hv3⟩
          refine ⟨_, rfl, ?_⟩
          have h0 := h0.trans h
          unfold fltV
          try have hb12 := hb12.up h
          have hsb := hv3.seen
          obtain ⟨xa, xc, rfl, _⟩ := id hsb
          clear ho
          refine RL.ord h0 ?_
          clear h hv3
          refine RO.tk 9 ?_
          refine RO.tk 10 ?_
          refine RO.tk 11 ?_
          refine RO.tk 13 ?_
          refine RO.one 14 ?_
          refine RL.st h0 hb12 hle12 fun _ h0 hbt hb12 => ?_
          have hsb := (hsb.bt hbt (fun k hk => by have := hk.1; have := hk.2; omega)).mono (S' := fun _ => True) fun _ _ => trivial
          refine RL.ord h0 ?_
          refine RO.done (RL.nil ?_)
          exact next2 (b12, xa, xc) _ _ ⟨h0, hb12, hsb⟩ sb
      · refine RL.al h0 fun b12 _ he12 hle12 h0 h hb12 => ?_
        try have hne12 := ho.ne (Nat.le_of_eq he12.symm)
        try have ho := ho.up h
        try have hb2 := hb2.up h
        try have hsb := hsb.up h
        refine RL.ord h0 ?_
        clear h
        refine RO.two 3 6 ?_ ?_
        · refine RL.app (L := chgLay) (el := 82) (S := fun _ => True) (B := w7.heap.size) (ys := cs) h0 ho ((hcs.old.up (hu.trans h0)).mono fun k hk => ⟨trivial, ho.ne' (by have := hu.size; omega)⟩) (by simp; omega) (Nat.le_refl _) h0.size fun v1 _ h0 ho1 hg hv => ?_
          rw [List.nil_append] at ho1
          try have hne2n := newer hv b2 hb2.lt hne2
          try have hne12n := newer hv b12 hb12.lt hne12
          try have hb2 := hb2.grown hg hne2
          try have hb12 := hb12.grown hg hne12
          try have hne2 := hne2n
          try have hne12 := hne12n
          have ho := ho1
          refine RL.ord h0 ?_
          clear hg hv ho1
          refine RO.one 6 ?_
          refine RL.bu (el := 82) (chgCells a) h0 fun b2 _ he2 hle2 h0 h hb2 => ?_
          try have hne2 := ho.ne (Nat.le_of_eq he2.symm)
          try have ho := ho.up h
          try have hb12 := hb12.up h
          refine RL.ord h0 ?_
          clear h
          refine RO.one 7 ?_
          refine RL.app (L := chgLay) (el := 82) (S := fun _ => True) (B := w7.heap.size) (ys := [a]) h0 ho (SliceOf.one hb2 ⟨trivial, hne2⟩ rfl) (by simp; omega) (Nat.le_refl _) h0.size fun v2 _ h0 ho1 hg hv => ?_
          try have hne12n := newer hv b12 hb12.lt hne12
          try have hb12 := hb12.grown hg hne12
          try have hne12 := hne12n
          have ho := ho1
          refine RL.ord h0 ?_
          clear hg hv ho1
          refine RO.one 8 ?_
          try have hl12 := hb12.lt
          refine RL.cx (See_any _ (hl.up (hu.trans h0)) (ho.slice (fun _ => True) (fun _ _ => trivial) fun _ _ => trivial)) ?_
          rintro _ _ ⟨v3, rfl, h, hds3, lab3, hv3⟩
          refine ⟨_, rfl, ?_⟩
          have h0 := h0.trans h
          unfold fltV
          try have hb12 := hb12.up h
          have hsb := hv3.seen
          obtain ⟨xa, xc, rfl, _⟩ := id hsb
          clear ho
          refine RL.ord h0 ?_
          clear h hv3
          refine RO.tk 9 ?_
          refine RO.tk 10 ?_
          refine RO.tk 11 ?_
          refine RO.tk 13 ?_
          refine RO.one 14 ?_
          refine RL.st h0 hb12 hle12 fun _ h0 hbt hb12 => ?_
          have hsb := (hsb.bt hbt (fun k hk => by have := hk.1; have := hk.2; omega)).mono (S' := fun _ => True) fun _ _ => trivial
          refine RL.ord h0 ?_
          refine RO.done (RL.nil ?_)
          exact next2 (b12, xa, xc) _ _ ⟨h0, hb12, hsb⟩ sb
        · refine RL.bu (el := 82) (chgCells a) h0 fun b2 _ he2 hle2 h0 h hb2 => ?_
          try have hne2 := ho.ne (Nat.le_of_eq he2.symm)
          try have ho := ho.up h
          try have hb12 := hb12.up h
          refine RL.ord h0 ?_
          clear h
          refine RO.one 3 ?_
          refine RL.app (L := chgLay) (el := 82) (S := fun _ => True) (B := w7.heap.size) (ys := cs) h0 ho ((hcs.old.up (hu.trans h0)).mono fun k hk => ⟨trivial, ho.ne' (by have := hu.size; omega)⟩) (by simp; omega) (Nat.le_refl _) h0.size fun v1 _ h0 ho1 hg hv => ?_
          rw [List.nil_append] at ho1
          try have hne2n := newer hv b2 hb2.lt hne2
          try have hne12n := newer hv b12 hb12.lt hne12
          try have hb2 := hb2.grown hg hne2
          try have hb12 := hb12.grown hg hne12
          try have hne2 := hne2n
          try have hne12 := hne12n
          have ho := ho1
          refine RL.ord h0 ?_
          clear hg hv ho1
          refine RO.one 7 ?_
          refine RL.app (L := chgLay) (el := 82) (S := fun _ => True) (B := w7.heap.size) (ys := [a]) h0 ho (SliceOf.one hb2 ⟨trivial, hne2⟩ rfl) (by simp; omega) (Nat.le_refl _) h0.size fun v2 _ h0 ho1 hg hv => ?_
          try have hne12n := newer hv b12 hb12.lt hne12
          try have hb12 := hb12.grown hg hne12
          try have hne12 := hne12n
          have ho := ho1
          refine RL.ord h0 ?_
          clear hg hv ho1
          refine RO.one 8 ?_
          try have hl12 := hb12.lt
          refine RL.cx (See_any _ (hl.up (hu.trans h0)) (ho.slice (fun _ => True) (fun _ _ => trivial) fun _ _ => trivial)) ?_
          rintro _ _ ⟨v3, rfl, h, hds3, lab3, hv3⟩
          refine ⟨_, rfl, ?_⟩
          have h0 := h0.trans h
          unfold fltV
          try have hb12 := hb12.up h
          have hsb := hv3.seen
          obtain ⟨xa, xc, rfl, _⟩ := id hsb
          clear ho
          refine RL.ord h0 ?_
          clear h hv3
          refine RO.tk 9 ?_
          refine RO.tk 10 ?_
          refine RO.tk 11 ?_
          refine RO.tk 13 ?_
          refine RO.one 14 ?_
          refine RL.st h0 hb12 hle12 fun _ h0 hbt hb12 => ?_
          have hsb := (hsb.bt hbt (fun k hk => by have := hk.1; have := hk.2; omega)).mono (S' := fun _ => True) fun _ _ => trivial
          refine RL.ord h0 ?_
          refine RO.done (RL.nil ?_)
          exact next2 (b12, xa, xc) _ _ ⟨h0, hb12, hsb⟩ sb
    · refine RL.bu (el := 82) (chgCells a) h0 fun b2 _ he2 hle2 h0 h hb2 => ?_
      try have hne2 := ho.ne (Nat.le_of_eq he2.symm)
      try have ho := ho.up h
      try have hb12 := hb12.up h
      refine RL.ord h0 ?_
      clear h
      refine RO.two 1 12 ?_ ?_
      · refine RL.bu (el := 82) [] h0 fun b1 _ he1 hle1 h0 h hb1 => ?_
        try have hne2 : some b2 ≠ Value.ownBlock (.slice (some ⟨b1, 0, none⟩) 0 0) := fun h => by simp [Value.ownBlock] at h; have := hb2.lt; omega
        try have hne12 : some b12 ≠ Value.ownBlock (.slice (some ⟨b1, 0, none⟩) 0 0) := fun h => by simp [Value.ownBlock] at h; have := hb12.lt; omega
        try have hb2 := hb2.up h
        try have hb12 := hb12.up h
        have ho := Own.empty (S := fun _ => True) (B := w7.heap.size) chgLay hb1 hle1
        refine RL.ord h0 ?_
        clear h
        refine RO.two 3 12 ?_ ?_
        · refine RL.app (L := chgLay) (el := 82) (S := fun _ => True) (B := w7.heap.size) (ys := cs) h0 ho ((hcs.old.up (hu.trans h0)).mono fun k hk => ⟨trivial, ho.ne' (by have := hu.size; omega)⟩) (by simp; omega) (Nat.le_refl _) h0.size fun v1 _ h0 ho1 hg hv => ?_
          rw [List.nil_append] at ho1
          try have hne2n := newer hv b2 hb2.lt hne2
          try have hne12n := newer hv b12 hb12.lt hne12
          try have hb2 := hb2.grown hg hne2
          try have hb12 := hb12.grown hg hne12
          try have hne2 := hne2n
          try have hne12 := hne12n
          have ho := ho1
          refine RL.ord h0 ?_
          clear hg hv ho1
          refine RO.two 7 12 ?_ ?_
          · refine RL.app (L := chgLay) (el := 82) (S := fun _ => True) (B := w7.heap.size) (ys := [a]) h0 ho (SliceOf.one hb2 ⟨trivial, hne2⟩ rfl) (by simp; omega) (Nat.le_refl _) h0.size fun v2 _ h0 ho1 hg hv => ?_
            try have hne12n := newer hv b12 hb12.lt hne12
            try have hb12 := hb12.grown hg hne12
            try have hne12 := hne12n
            have ho := ho1
            refine RL.ord h0 ?_
            clear hg hv ho1
            refine RO.two 8 12 ?_ ?_
            · try have hl12 := hb12.lt
              refine RL.cx (See_any _ (hl.up (hu.trans h0)) (ho.slice (fun _ => True) (fun _ _ => trivial) fun _ _ => trivial)) ?_
              rintro _ _ ⟨v3, rfl, h, hds3, lab3, hv3⟩
              refine ⟨_, rfl, ?_⟩
              have h0 := h0.trans h
              unfold fltV
              try have hb12 := hb12.up h
              have hsb := hv3.seen
              obtain ⟨xa, xc, rfl, _⟩ := id hsb
              clear ho
              refine RL.ord h0 ?_
              clear h hv3
              refine RO.tk 9 ?_
              refine RO.tk 10 ?_
              refine RO.tk 11 ?_
              refine RO.one 12 ?_
              refine RL.al h0 fun b12 _ he12 hle12 h0 h hb12 => ?_
              try have hne12 := ho.ne (Nat.le_of_eq he12.symm)
              try have ho := ho.up h
              try have hb2 := hb2.up h
              try have hsb := hsb.up h
              refine RL.ord h0 ?_
              clear h
              refine RO.tk 13 ?_
              refine RO.one 14 ?_
              refine RL.st h0 hb12 hle12 fun _ h0 hbt hb12 => ?_
              have hsb := (hsb.bt hbt (fun k hk => by have := hk.1; have := hk.2; omega)).mono (S' := fun _ => True) fun _ _ => trivial
              refine RL.ord h0 ?_
              refine RO.done (RL.nil ?_)
              exact next2 (b12, xa, xc) _ _ ⟨h0, hb12, hsb⟩ sb
            · refine RL.al h0 fun b12 _ he12 hle12 h0 h hb12 => ?_
              try have hne12 := ho.ne (Nat.le_of_eq he12.symm)
              try have ho := ho.up h
              try have hb2 := hb2.up h
              try have hsb := hsb.up h
              refine RL.ord h0 ?_
              clear h
              refine RO.one 8 ?_
              try have hl12 := hb12.lt
              refine RL.cx (See_any _ (hl.up (hu.trans h0)) (ho.slice (fun _ => True) (fun _ _ => trivial) fun _ _ => trivial)) ?_
              rintro _ _ ⟨v3, rfl, h, hds3, lab3, hv3⟩
              refine ⟨_, rfl, ?_⟩
              have h0 := h0.trans h
              unfold fltV
              try have hb12 := hb12.up h
              have hsb := hv3.seen
              obtain ⟨xa, xc, rfl, _⟩ := id hsb
              clear ho
              refine RL.ord h0 ?_
              clear h hv3
              refine RO.tk 9 ?_
              refine RO.tk 10 ?_
              refine RO.tk 11 ?_
              refine RO.tk 13 ?_
              refine RO.one 14 ?_
              refine RL.st h0 hb12 hle12 fun _ h0 hbt hb12 => ?_
              have hsb := (hsb.bt hbt (fun k hk => by have := hk.1; have := hk.2; omega)).mono (S' := fun _ => True) fun _ _ => trivial
              refine RL.ord h0 ?_
              refine RO.done (RL.nil ?_)
              exact next2 (b12, xa, xc) _ _ ⟨h0, hb12, hsb⟩ sb
          · refine RL.al h0 fun b12 _ he12 hle12 h0 h hb12 => ?_
            try have hne12 := ho.ne (Nat.le_of_eq he12.symm)
            try have ho := ho.up h
            try have hb2 := hb2.up h
            try have hsb := hsb.up h
            refine RL.ord h0 ?_
            clear h
            refine RO.one 7 ?_
            refine RL.app (L := chgLay) (el := 82) (S := fun _ => True) (B := w7.heap.size) (ys := [a]) h0 ho (SliceOf.one hb2 ⟨trivial, hne2⟩ rfl) (by simp; omega) (Nat.le_refl _) h0.size fun v2 _ h0 ho1 hg hv => ?_
            try have hne12n := newer hv b12 hb12.lt hne12
            try have hb12 := hb12.grown hg hne12
            try have hne12 := hne12n
            have ho := ho1
            refine RL.ord h0 ?_
            clear hg hv ho1
            refine RO.one 8 ?_
            try have hl12 := hb12.lt
            refine RL.cx (See_any _ (hl.up (hu.trans h0)) (ho.slice (fun _ => True) (fun _ _ => trivial) fun _ _ => trivial)) ?_
            rintro _ _ ⟨v3, rfl, h, hds3, lab3, hv3⟩
            refine ⟨_, rfl, ?_⟩
            have h0 := h0.trans h
            unfold fltV
            try have hb12 := hb12.up h
            have hsb := hv3.seen
            obtain ⟨xa, xc, rfl, _⟩ := id hsb
            clear ho
            refine RL.ord h0 ?_
            clear h hv3
            refine RO.tk 9 ?_
            refine RO.tk 10 ?_
            refine RO.tk 11 ?_
            refine RO.tk 13 ?_
            refine RO.one 14 ?_
            refine RL.st h0 hb12 hle12 fun _ h0 hbt hb12 => ?_
            have hsb := (hsb.bt hbt (fun k hk => by have := hk.1; have := hk.2; omega)).mono (S' := fun _ => True) fun _ _ => trivial
            refine RL.ord h0 ?_
            refine RO.done (RL.nil ?_)
            exact next2 (b12, xa, xc) _ _ ⟨h0, hb12, hsb⟩ sb
        · refine RL.al h0 fun b12 _ he12 hle12 h0 h hb12 => ?_
          try have hne12 := ho.ne (Nat.le_of_eq he12.symm)
          try have ho := ho.up h
          try have hb2 := hb2.up h
          try have hsb := hsb.up h
          refine RL.ord h0 ?_
          clear h
          refine RO.one 3 ?_
          refine RL.app (L := chgLay) (el := 82) (S := fun _ => True) (B := w7.heap.size) (ys := cs) h0 ho ((hcs.old.up (hu.trans h0)).mono fun k hk => ⟨trivial, ho.ne' (by have := hu.size; omega)⟩) (by simp; omega) (Nat.le_refl _) h0.size fun v1 _ h0 ho1 hg hv => ?_
          rw [List.nil_append] at ho1
          try have hne2n := newer hv b2 hb2.lt hne2
          try have hne12n := newer hv b12 hb12.lt hne12
          try have hb2 := hb2.grown hg hne2
          try have hb12 := hb12.grown hg hne12
          try have hne2 := hne2n
          try have hne12 := hne12n
          have ho := ho1
          refine RL.ord h0 ?_
          clear hg hv ho1
          refine RO.one 7 ?_
          refine RL.app (L := chgLay) (el := 82) (S := fun _ => True) (B := w7.heap.size) (ys := [a]) h0 ho (SliceOf.one hb2 ⟨trivial, hne2⟩ rfl) (by simp; omega) (Nat.le_refl _) h0.size fun v2 _ h0 ho1 hg hv => ?_
          try have hne12n := newer hv b12 hb12.lt hne12
          try have hb12 := hb12.grown hg hne12
          try have hne12 := hne12n
          have ho := ho1
          refine RL.ord h0 ?_
          clear hg hv ho1
          refine RO.one 8 ?_
          try have hl12 := hb12.lt
          refine RL.cx (See_any _ (hl.up (hu.trans h0)) (ho.slice (fun _ => True) (fun _ _ => trivial) fun _ _ => trivial)) ?_
          rintro _ _ ⟨v3, rfl, h, hds3, lab3, hv3⟩
          refine ⟨_, rfl, ?_⟩
          have h0 := h0.trans h
          unfold fltV
          try have hb12 := hb12.up h
          have hsb := hv3.seen
          obtain ⟨xa, xc, rfl, _⟩ := id hsb
          clear ho
          refine RL.ord h0 ?_
          clear h hv3
          refine RO.tk 9 ?_
          refine RO.tk 10 ?_
          refine RO.tk 11 ?_
          refine RO.tk 13 ?_
          refine RO.one 14 ?_
          refine RL.st h0 hb12 hle12 fun _ h0 hbt hb12 => ?_
          have hsb := (hsb.bt hbt (fun k hk => by have := hk.1; have := hk.2; omega)).mono (S' := fun _ => True) fun _ _ => trivial
          refine RL.ord h0 ?_
          refine RO.done (RL.nil ?_)
          exact next2 (b12, xa, xc) _ _ ⟨h0, hb12, hsb⟩ sb
      · refine RL.al h0 fun b12 _ he12 hle12 h0 h hb12 => ?_
        try have hne12 := ho.ne (Nat.le_of_eq he12.symm)
        try have ho := ho.up h
        try have hb2 := hb2.up h
        try have hsb := hsb.up h
        refine RL.ord h0 ?_
        clear h
        refine RO.one 1 ?_
        refine RL.bu (el := 82) [] h0 fun b1 _ he1 hle1 h0 h hb1 => ?_
        try have hne2 : some b2 ≠ Value.ownBlock (.slice (some ⟨b1, 0, none⟩) 0 0) := fun h => by simp [Value.ownBlock] at h; have := hb2.lt; omega
        try have hne12 : some b12 ≠ Value.ownBlock (.slice (some ⟨b1, 0, none⟩) 0 0) := fun h => by simp [Value.ownBlock] at h; have := hb12.lt; omega
        try have hb2 := hb2.up h
        try have hb12 := hb12.up h
        have ho := Own.empty (S := fun _ => True) (B := w7.heap.size) chgLay hb1 hle1
        refine RL.ord h0 ?_
        clear h
        refine RO.one 3 ?_
        refine RL.app (L := chgLay) (el := 82) (S := fun _ => True) (B := w7.heap.size) (ys := cs) h0 ho ((hcs.old.up (hu.trans h0)).mono fun k hk => ⟨trivial, ho.ne' (by have := hu.size; omega)⟩) (by simp; omega) (Nat.le_refl _) h0.size fun v1 _ h0 ho1 hg hv => ?_
        rw [List.nil_append] at ho1
        try have hne2n := newer hv b2 hb2.lt hne2
        try have hne12n := newer hv b12 hb12.lt hne12
        try have hb2 := hb2.grown hg hne2
        try have hb12 := hb12.grown hg hne12
        try have hne2 := hne2n
        try have hne12 := hne12n
        have ho := ho1
        refine RL.ord h0 ?_
        clear hg hv ho1
        refine RO.one 7 ?_
        refine RL.app (L := chgLay) (el := 82) (S := fun _ => True) (B := w7.heap.size) (ys := [a]) h0 ho (SliceOf.one hb2 ⟨trivial, hne2⟩ rfl) (by simp; omega) (Nat.le_refl _) h0.size fun v2 _ h0 ho1 hg hv => ?_
        try have hne12n := newer hv b12 hb12.lt hne12
        try have hb12 := hb12.grown hg hne12
        try have hne12 := hne12n
        have ho := ho1
        refine RL.ord h0 ?_
        clear hg hv ho1
        refine RO.one 8 ?_
        try have hl12 := hb12.lt
        refine RL.cx (See_any _ (hl.up (hu.trans h0)) (ho.slice (fun _ => True) (fun _ _ => trivial) fun _ _ => trivial)) ?_
        rintro _ _ ⟨v3, rfl, h, hds3, lab3, hv3⟩
        refine ⟨_, rfl, ?_⟩
        have h0 := h0.trans h
        unfold fltV
        try have hb12 := hb12.up h
        have hsb := hv3.seen
        obtain ⟨xa, xc, rfl, _⟩ := id hsb
        clear ho
        refine RL.ord h0 ?_
        clear h hv3
        refine RO.tk 9 ?_
        refine RO.tk 10 ?_
        refine RO.tk 11 ?_
        refine RO.tk 13 ?_
        refine RO.one 14 ?_
        refine RL.st h0 hb12 hle12 fun _ h0 hbt hb12 => ?_
        have hsb := (hsb.bt hbt (fun k hk => by have := hk.1; have := hk.2; omega)).mono (S' := fun _ => True) fun _ _ => trivial
        refine RL.ord h0 ?_
        refine RO.done (RL.nil ?_)
        exact next2 (b12, xa, xc) _ _ ⟨h0, hb12, hsb⟩ sb
    · refine RL.al h0 fun b12 _ he12 hle12 h0 h hb12 => ?_
      try have hne12 := ho.ne (Nat.le_of_eq he12.symm)
      try have ho := ho.up h
      try have hb2 := hb2.up h
      try have hsb := hsb.up h
      refine RL.ord h0 ?_
      clear h
      refine RO.two 1 6 ?_ ?_
      · refine RL.bu (el := 82) [] h0 fun b1 _ he1 hle1 h0 h hb1 => ?_
        try have hne2 : some b2 ≠ Value.ownBlock (.slice (some ⟨b1, 0, none⟩) 0 0) := fun h => by simp [Value.ownBlock] at h; have := hb2.lt; omega
        try have hne12 : some b12 ≠ Value.ownBlock (.slice (some ⟨b1, 0, none⟩) 0 0) := fun h => by simp [Value.ownBlock] at h; have := hb12.lt; omega
        try have hb2 := hb2.up h
        try have hb12 := hb12.up h
        have ho := Own.empty (S := fun _ => True) (B := w7.heap.size) chgLay hb1 hle1
        refine RL.ord h0 ?_
        clear h
        refine RO.two 3 6 ?_ ?_
        · refine RL.app (L := chgLay) (el := 82) (S := fun _ => True) (B := w7.heap.size) (ys := cs) h0 ho ((hcs.old.up (hu.trans h0)).mono fun k hk => ⟨trivial, ho.ne' (by have := hu.size; omega)⟩) (by simp; omega) (Nat.le_refl _) h0.size fun v1 _ h0 ho1 hg hv => ?_
          rw [List.nil_append] at ho1
          try have hne2n := newer hv b2 hb2.lt hne2
          try have hne12n := newer hv b12 hb12.lt hne12
          try have hb2 := hb2.grown hg hne2
          try have hb12 := hb12.grown hg hne12
          try have hne2 := hne2n
          try have hne12 := hne12n
          have ho := ho1
          refine RL.ord h0 ?_
          clear hg hv ho1
          refine RO.one 6 ?_
          refine RL.bu (el := 82) (chgCells a) h0 fun b2 _ he2 hle2 h0 h hb2 => ?_
          try have hne2 := ho.ne (Nat.le_of_eq he2.symm)
          try have ho := ho.up h
          try have hb12 := hb12.up h
          refine RL.ord h0 ?_
          clear h
          refine RO.one 7 ?_
          refine RL.app (L := chgLay) (el := 82) (S := fun _ => True) (B := w7.heap.size) (ys := [a]) h0 ho (SliceOf.one hb2 ⟨trivial, hne2⟩ rfl) (by simp; omega) (Nat.le_refl _) h0.size fun v2 _ h0 ho1 hg hv => ?_
          try have hne12n := newer hv b12 hb12.lt hne12
          try have hb12 := hb12.grown hg hne12
          try have hne12 := hne12n
          have ho := ho1
          refine RL.ord h0 ?_
          clear hg hv ho1
          refine RO.one 8 ?_
          try have hl12 := hb12.lt
          refine RL.cx (See_any _ (hl.up (hu.trans h0)) (ho.slice (fun _ => True) (fun _ _ => trivial) fun _ _ => trivial)) ?_
          rintro _ _ ⟨v3, rfl, h, hds3, lab3, hv3⟩
          refine ⟨_, rfl, ?_⟩
          have h0 := h0.trans h
          unfold fltV
          try have hb12 := hb12.up h
          have hsb := hv3.seen
          obtain ⟨xa, xc, rfl, _⟩ := id hsb
          clear ho
          refine RL.ord h0 ?_
          clear h hv3
          refine RO.tk 9 ?_
          refine RO.tk 10 ?_
          refine RO.tk 11 ?_
          refine RO.tk 13 ?_
          refine RO.one 14 ?_
          refine RL.st h0 hb12 hle12 fun _ h0 hbt hb12 => ?_
          have hsb := (hsb.bt hbt (fun k hk => by have := hk.1; have := hk.2; omega)).mono (S' := fun _ => True) fun _ _ => trivial
          refine RL.ord h0 ?_
          refine RO.done (RL.nil ?_)
          exact next2 (b12, xa, xc) _ _ ⟨h0, hb12, hsb⟩ sb
        · refine RL.bu (el := 82) (chgCells a) h0 fun b2 _ he2 hle2 h0 h hb2 => ?_
          try have hne2 := ho.ne (Nat.le_of_eq he2.symm)
          try have ho := ho.up h
          try have hb12 := hb12.up h
          refine RL.ord h0 ?_
          clear h
          refine RO.one 3 ?_
          refine RL.app (L := chgLay) (el := 82) (S := fun _ => True) (B := w7.heap.size) (ys := cs) h0 ho ((hcs.old.up (hu.trans h0)).mono fun k hk => ⟨trivial, ho.ne' (by have := hu.size; omega)⟩) (by simp; omega) (Nat.le_refl _) h0.size fun v1 _ h0 ho1 hg hv => ?_
          rw [List.nil_append] at ho1
          try have hne2n := newer hv b2 hb2.lt hne2
          try have hne12n := newer hv b12 hb12.lt hne12
          try have hb2 := hb2.grown hg hne2
          try have hb12 := hb12.grown hg hne12
          try have hne2 := hne2n
          try have hne12 := hne12n
          have ho := ho1
          refine RL.ord h0 ?_
          clear hg hv ho1
          refine RO.one 7 ?_
          refine RL.app (L := chgLay) (el := 82) (S := fun _ => True) (B := w7.heap.size) (ys := [a]) h0 ho (SliceOf.one hb2 ⟨trivial, hne2⟩ rfl) (by simp; omega) (Nat.le_refl _) h0.size fun v2 _ h0 ho1 hg hv => ?_
          try have hne12n := newer hv b12 hb12.lt hne12
          try have hb12 := hb12.grown hg hne12
          try have hne12 := hne12n
          have ho := ho1
          refine RL.ord h0 ?_
          clear hg hv ho1
          refine RO.one 8 ?_
          try have hl12 := hb12.lt
          refine RL.cx (See_any _ (hl.up (hu.trans h0)) (ho.slice (fun _ => True) (fun _ _ => trivial) fun _ _ => trivial)) ?_
          rintro _ _ ⟨v3, rfl, h, hds3, lab3, hv3⟩
          refine ⟨_, rfl, ?_⟩
          have h0 := h0.trans h
          unfold fltV
          try have hb12 := hb12.up h
          have hsb := hv3.seen
          obtain ⟨xa, xc, rfl, _⟩ := id hsb
          clear ho
          refine RL.ord h0 ?_
          clear h hv3
          refine RO.tk 9 ?_
          refine RO.tk 10 ?_
          refine RO.tk 11 ?_
          refine RO.tk 13 ?_
          refine RO.one 14 ?_
          refine RL.st h0 hb12 hle12 fun _ h0 hbt hb12 => ?_
          have hsb := (hsb.bt hbt (fun k hk => by have := hk.1; have := hk.2; omega)).mono (S' := fun _ => True) fun _ _ => trivial
          refine RL.ord h0 ?_
          refine RO.done (RL.nil ?_)
          exact next2 (b12, xa, xc) _ _ ⟨h0, hb12, hsb⟩ sb
      · refine RL.bu (el := 82) (chgCells a) h0 fun b2 _ he2 hle2 h0 h hb2 => ?_
        try have hne2 := ho.ne (Nat.le_of_eq he2.symm)
        try have ho := ho.up h
        try have hb12 := hb12.up h
        refine RL.ord h0 ?_
        clear h
        refine RO.one 1 ?_
        refine RL.bu (el := 82) [] h0 fun b1 _ he1 hle1 h0 h hb1 => ?_
        try have hne2 : some b2 ≠ Value.ownBlock (.slice (some ⟨b1, 0, none⟩) 0 0) := fun h => by simp [Value.ownBlock] at h; have := hb2.lt; omega
        try have hne12 : some b12 ≠ Value.ownBlock (.slice (some ⟨b1, 0, none⟩) 0 0) := fun h => by simp [Value.ownBlock] at h; have := hb12.lt; omega
        try have hb2 := hb2.up h
        try have hb12 := hb12.up h
        have ho := Own.empty (S := fun _ => True) (B := w7.heap.size) chgLay hb1 hle1
        refine RL.ord h0 ?_
        clear h
        refine RO.one 3 ?_
        refine RL.app (L := chgLay) (el := 82) (S := fun _ => True) (B := w7.heap.size) (ys := cs) h0 ho ((hcs.old.up (hu.trans h0)).mono fun k hk => ⟨trivial, ho.ne' (by have := hu.size; omega)⟩) (by simp; omega) (Nat.le_refl _) h0.size fun v1 _ h0 ho1 hg hv => ?_
        rw [List.nil_append] at ho1
        try have hne2n := newer hv b2 hb2.lt hne2
        try have hne12n := newer hv b12 hb12.lt hne12
        try have hb2 := hb2.grown hg hne2
        try have hb12 := hb12.grown hg hne12
        try have hne2 := hne2n
        try have hne12 := hne12n
        have ho := ho1
        refine RL.ord h0 ?_
        clear hg hv ho1
        refine RO.one 7 ?_
        refine RL.app (L := chgLay) (el := 82) (S := fun _ => True) (B := w7.heap.size) (ys := [a]) h0 ho (SliceOf.one hb2 ⟨trivial, hne2⟩ rfl) (by simp; omega) (Nat.le_refl _) h0.size fun v2 _ h0 ho1 hg hv => ?_
        try have hne12n := newer hv b12 hb12.lt hne12
        try have hb12 := hb12.grown hg hne12
        try have hne12 := hne12n
        have ho := ho1
        refine RL.ord h0 ?_
        clear hg hv ho1
        refine RO.one 8 ?_
        try have hl12 := hb12.lt
        refine RL.cx (See_any _ (hl.up (hu.trans h0)) (ho.slice (fun _ => True) (fun _ _ => trivial) fun _ _ => trivial)) ?_
        rintro _ _ ⟨v3, rfl, h, hds3, lab3, hv3⟩
        refine ⟨_, rfl, ?_⟩
        have h0 := h0.trans h
        unfold fltV
        try have hb12 := hb12.up h
        have hsb := hv3.seen
        obtain ⟨xa, xc, rfl, _⟩ := id hsb
        clear ho
        refine RL.ord h0 ?_
        clear h hv3
        refine RO.tk 9 ?_
        refine RO.tk 10 ?_
        refine RO.tk 11 ?_
        refine RO.tk 13 ?_
        refine RO.one 14 ?_
        refine RL.st h0 hb12 hle12 fun _ h0 hbt hb12 => ?_
        have hsb := (hsb.bt hbt (fun k hk => by have := hk.1; have := hk.2; omega)).mono (S' := fun _ => True) fun _ _ => trivial
        refine RL.ord h0 ?_
        refine RO.done (RL.nil ?_)
        exact next2 (b12, xa, xc) _ _ ⟨h0, hb12, hsb⟩ sb
  rintro ⟨b16, xa3, xc3⟩ w8 ⟨h78, hb16, _⟩
  simp only at hb16 ⊢
  have hu := hu.trans h78
  have hs1 := hs1.up h78
  have hata := hata.up h78
  have hatb := hatb.up h78
  have ha16 := hb16.at
  have h58 := (h56.trans h67).trans h78
  by_cases hg : (seeM l (cs ++ [a])).2.err = 0
  rotate_left
  · repeat (first | refine RL.vv ?_ | refine RL.p ?_ | refine RL.nil ?_ | refine Sim.seq ?_ | refine Sim.region ?_ | refine Sim.block ?_ | refine Sim.skip ?_ | refine Sim.inBlock ?_ | refine Sim.exit rfl ?_ | refine Sim.condT rfl ?_ | refine Sim.condF rfl ?_)
    exact next (i + 1) _ _ ⟨by omega, h58⟩ (by omega) sb
  obtain ⟨hg2, hge⟩ := see_back (b := b) hf (by omega) hg (fun ts hr h => hpok ts hr h)
  repeat (first | refine RL.vv ?_ | refine RL.p ?_ | refine RL.nil ?_ | refine Sim.seq ?_ | refine Sim.region ?_ | refine Sim.block ?_ | refine Sim.skip ?_ | refine Sim.inBlock ?_ | refine Sim.exit rfl ?_ | refine Sim.condT rfl ?_ | refine Sim.condF rfl ?_)
  refine Sim.cutX (σ := Nat × Option Addr × Nat) (fun st => [(0, .slice la l.length lc), (1, .slice ca cs.length cc), (11, .slice xa1 (seeM l cs).1.length xc1), (52, .slice (some ⟨b9, 0, none⟩) 2 2), (53, .int .i64 ((2 : Nat) : Int)), (54, .int .i64 (i : Int)), (14, .pointer (some ⟨b14, 0, none⟩)), (17, .slice st.2.1 (seeM l (cs ++ [a, b])).1.length st.2.2), (18, .pointer (some ⟨st.1, 0, none⟩))])
    (fun st w' => Up w8 w' ∧ Box w' st.1 51 [.int .i64 (seeM l (cs ++ [a, b])).2.err, .int .i64 (seeM l (cs ++ [a, b])).2.at_] ∧ SliceOf snLay (fun _ => True) w' (.slice st.2.1 (seeM l (cs ++ [a, b])).1.length st.2.2) (seeM l (cs ++ [a, b])).1) (fun k' next2 => ?_) ?_
  · have h0 := Up.drew w8
    refine Sim.ord (Up w8) ?_
    refine RO.tk 0 ?_
    refine RO.tk 2 ?_
    refine RO.tk 4 ?_ (hy := fun wq hq => y_indexArr (i := 0) (k := 4) Try.underlying83 rfl rfl (by decide))
    refine RO.tk 5 ?_ (hy := fun wq hq => y_loadA rfl (hata.up hq) rfl)
    refine RO.tk 6 ?_ (hy := fun wq hq => y_indexArr (i := 1) (k := 4) Try.underlying83 rfl rfl (by decide))
    refine RO.tk 7 ?_ (hy := fun wq hq => y_loadA rfl (hatb.up hq) rfl)
    refine RO.three 1 8 14 ?_ ?_ ?_
    · refine RL.bu (el := 82) [] h0 fun b1 _ he1 hle1 h0 h hb1 => ?_
      try have hne2 : some b2 ≠ Value.ownBlock (.slice (some ⟨b1, 0, none⟩) 0 0) := fun h => by simp [Value.ownBlock] at h; have := hb2.lt; omega
      try have hne12 : some b12 ≠ Value.ownBlock (.slice (some ⟨b1, 0, none⟩) 0 0) := fun h => by simp [Value.ownBlock] at h; have := hb12.lt; omega
      try have hb2 := hb2.up h
      try have hb12 := hb12.up h
      have ho := Own.empty (S := fun _ => True) (B := w8.heap.size) chgLay hb1 hle1
      refine RL.ord h0 ?_
      clear h
      refine RO.three 3 8 14 ?_ ?_ ?_
      · refine RL.app (L := chgLay) (el := 82) (S := fun _ => True) (B := w8.heap.size) (ys := cs) h0 ho ((hcs.old.up (hu.trans h0)).mono fun k hk => ⟨trivial, ho.ne' (by have := hu.size; omega)⟩) (by simp; omega) (Nat.le_refl _) h0.size fun v1 _ h0 ho1 hg hv => ?_
        rw [List.nil_append] at ho1
        try have hne2n := newer hv b2 hb2.lt hne2
        try have hne12n := newer hv b12 hb12.lt hne12
        try have hb2 := hb2.grown hg hne2
        try have hb12 := hb12.grown hg hne12
        try have hne2 := hne2n
        try have hne12 := hne12n
        have ho := ho1
        refine RL.ord h0 ?_
        clear hg hv ho1
        refine RO.two 8 14 ?_ ?_
        · refine RL.bu (el := 82) (chgCells a ++ chgCells b) h0 fun b2 _ he2 hle2 h0 h hb2 => ?_
          try have hne2 := ho.ne (Nat.le_of_eq he2.symm)
          try have ho := ho.up h
          try have hb12 := hb12.up h
          refine RL.ord h0 ?_
          clear h
          refine RO.two 9 14 ?_ ?_
          · refine RL.app (L := chgLay) (el := 82) (S := fun _ => True) (B := w8.heap.size) (ys := [a, b]) h0 ho (SliceOf.lit2 (chgCells a) (chgCells b) _ _ hb2.at ⟨trivial, hne2⟩ rfl rfl) (by simp; omega) (Nat.le_refl _) h0.size fun v2 _ h0 ho1 hg hv => ?_
            try have hne12n := newer hv b12 hb12.lt hne12
            try have hb12 := hb12.grown hg hne12
            try have hne12 := hne12n
            have ho := ho1
            refine RL.ord h0 ?_
            clear hg hv ho1
            refine RO.two 10 14 ?_ ?_
            · try have hl12 := hb12.lt
              refine RL.cx (See_any _ (hl.up (hu.trans h0)) (ho.slice (fun _ => True) (fun _ _ => trivial) fun _ _ => trivial)) ?_
              rintro _ _ ⟨v3, rfl, h, hds3, lab3, hv3⟩
              refine ⟨_, rfl, ?_⟩
              have h0 := h0.trans h
              unfold fltV
              try have hb12 := hb12.up h
              have hsb := hv3.seen
              obtain ⟨xa, xc, rfl, _⟩ := id hsb
              clear ho
              refine RL.ord h0 ?_
              clear h hv3
              refine RO.tk 11 ?_
              refine RO.tk 12 ?_
              refine RO.tk 13 ?_
              refine RO.one 14 ?_
              refine RL.al h0 fun b12 _ he12 hle12 h0 h hb12 => ?_
              try have hne12 := ho.ne (Nat.le_of_eq he12.symm)
              try have ho := ho.up h
              try have hb2 := hb2.up h
              try have hsb := hsb.up h
              refine RL.ord h0 ?_
              clear h
              refine RO.tk 15 ?_
              refine RO.one 16 ?_
              refine RL.st h0 hb12 hle12 fun _ h0 hbt hb12 => ?_
              have hsb := (hsb.bt hbt (fun k hk => by have := hk.1; have := hk.2; omega)).mono (S' := fun _ => True) fun _ _ => trivial
              refine RL.ord h0 ?_
              refine RO.done (RL.nil ?_)
              exact next2 (b12, xa, xc) _ _ ⟨h0, hb12, hsb⟩ sb
            · refine RL.al h0 fun b12 _ he12 hle12 h0 h hb12 => ?_
              try have hne12 := ho.ne (Nat.le_of_eq he12.symm)
              try have ho := ho.up h
              try have hb2 := hb2.up h
              try have hsb := hsb.up h
              refine RL.ord h0 ?_
              clear h
              refine RO.one 10 ?_
              try have hl12 := hb12.lt
              refine RL.cx (See_any _ (hl.up (hu.trans h0)) (ho.slice (fun _ => True) (fun _ _ => trivial) fun _ _ => trivial)) ?_
              rintro _ _ ⟨v3, rfl, h, hds3, lab3, hv3⟩
              refine ⟨_, rfl, ?_⟩
              have h0 := h0.trans h
              unfold fltV
              try have hb12 := hb12.up h
              have hsb := hv3.seen
              obtain ⟨xa, xc, rfl, _⟩ := id hsb
              clear ho
              refine RL.ord h0 ?_
              clear h hv3
              refine RO.tk 11 ?_
              refine RO.tk 12 ?_
              refine RO.tk 13 ?_
              refine RO.tk 15 ?_
              refine RO.one 16 ?_
              refine RL.st h0 hb12 hle12 fun _ h0 hbt hb12 => ?_
              have hsb := (hsb.bt hbt (fun k hk => by have := hk.1; have := hk.2; omega)).mono (S' := fun _ => True) fun _ _ => trivial
              refine RL.ord h0 ?_
              refine RO.done (RL.nil ?_)
              exact next2 (b12, xa, xc) _ _ ⟨h0, hb12, hsb⟩ sb
          · refine RL.al h0 fun b12 _ he12 hle12 h0 h hb12 => ?_
            try have hne12 := ho.ne (Nat.le_of_eq he12.symm)
            try have ho := ho.up h
            try have hb2 := hb2.up h
            try have hsb := hsb.up h
            refine RL.ord h0 ?_
            clear h
            refine RO.one 9 ?_
            refine RL.app (L := chgLay) (el := 82) (S := fun _ => True) (B := w8.heap.size) (ys := [a, b]) h0 ho (SliceOf.lit2 (chgCells a) (chgCells b) _ _ hb2.at ⟨trivial, hne2⟩ rfl rfl) (by simp; omega) (Nat.le_refl _) h0.size fun v2 _ h0 ho1 hg hv => ?_
            try have hne12n := newer hv b12 hb12.lt hne12
            try have hb12 := hb12.grown hg hne12
            try have hne12 := hne12n
            have ho := ho1
            refine RL.ord h0 ?_
            clear hg hv ho1
            refine RO.one 10 ?_
            try have hl12 := hb12.lt
            refine RL.cx (See_any _ (hl.up (hu.trans h0)) (ho.slice (fun _ => True) (fun _ _ => trivial) fun _ _ => trivial)) ?_
            rintro _ _ ⟨v3, rfl, h, hds3, lab3, hv3⟩
            refine ⟨_, rfl, ?_⟩
            have h0 := h0.trans h
            unfold fltV
            try have hb12 := hb12.up h
            have hsb := hv3.seen
            obtain ⟨xa, xc, rfl, _⟩ := id hsb
            clear ho
            refine RL.ord h0 ?_
            clear h hv3
            refine RO.tk 11 ?_
            refine RO.tk 12 ?_
            refine RO.tk 13 ?_
            refine RO.tk 15 ?_
            refine RO.one 16 ?_
            refine RL.st h0 hb12 hle12 fun _ h0 hbt hb12 => ?_
            have hsb := (hsb.bt hbt (fun k hk => by have := hk.1; have := hk.2; omega)).mono (S' := fun _ => True) fun _ _ => trivial
            refine RL.ord h0 ?_
            refine RO.done (RL.nil ?_)
            exact next2 (b12, xa, xc) _ _ ⟨h0, hb12, hsb⟩ sb
        · refine RL.al h0 fun b12 _ he12 hle12 h0 h hb12 => ?_
          try have hne12 := ho.ne (Nat.le_of_eq he12.symm)
          try have ho := ho.up h
          try have hb2 := hb2.up h
          try have hsb := hsb.up h
          refine RL.ord h0 ?_
          clear h
          refine RO.one 8 ?_
          refine RL.bu (el := 82) (chgCells a ++ chgCells b) h0 fun b2 _ he2 hle2 h0 h hb2 => ?_
          try have hne2 := ho.ne (Nat.le_of_eq he2.symm)
          try have ho := ho.up h
          try have hb12 := hb12.up h
          refine RL.ord h0 ?_
          clear h
          refine RO.one 9 ?_
          refine RL.app (L := chgLay) (el := 82) (S := fun _ => True) (B := w8.heap.size) (ys := [a, b]) h0 ho (SliceOf.lit2 (chgCells a) (chgCells b) _ _ hb2.at ⟨trivial, hne2⟩ rfl rfl) (by simp; omega) (Nat.le_refl _) h0.size fun v2 _ h0 ho1 hg hv => ?_
          try have hne12n := newer hv b12 hb12.lt hne12
          try have hb12 := hb12.grown hg hne12
          try have hne12 := hne12n
          have ho := ho1
          refine RL.ord h0 ?_
          clear hg hv ho1
          refine RO.one 10 ?_
          try have hl12 := hb12.lt
          refine RL.cx (See_any _ (hl.up (hu.trans h0)) (ho.slice (fun _ => True) (fun _ _ => trivial) fun _ _ => trivial)) ?_
          rintro _ _ ⟨v3, rfl, h, hds3, lab3, hv3⟩
          refine ⟨_, rfl, ?_⟩
          have h0 := h0.trans h
          unfold fltV
          try have hb12 := hb12.up h
          have hsb := hv3.seen
          obtain ⟨xa, xc, rfl, _⟩ := id hsb
          clear ho
          refine RL.ord h0 ?_
          clear h hv3
          refine RO.tk 11 ?_
          refine RO.tk 12 ?_
          refine RO.tk 13 ?_
          refine RO.tk 15 ?_
          refine RO.one 16 ?_
          refine RL.st h0 hb12 hle12 fun _ h0 hbt hb12 => ?_
          have hsb := (hsb.bt hbt (fun k hk => by have := hk.1; have := hk.2; omega)).mono (S' := fun _ => True) fun _ _ => trivial
          refine RL.ord h0 ?_
          refine RO.done (RL.nil ?_)
          exact next2 (b12, xa, xc) _ _ ⟨h0, hb12, hsb⟩ sb
      · refine RL.bu (el := 82) (chgCells a ++ chgCells b) h0 fun b2 _ he2 hle2 h0 h hb2 => ?_
        try have hne2 := ho.ne (Nat.le_of_eq he2.symm)
        try have ho := ho.up h
        try have hb12 := hb12.up h
        refine RL.ord h0 ?_
        clear h
        refine RO.two 3 14 ?_ ?_
        · refine RL.app (L := chgLay) (el := 82) (S := fun _ => True) (B := w8.heap.size) (ys := cs) h0 ho ((hcs.old.up (hu.trans h0)).mono fun k hk => ⟨trivial, ho.ne' (by have := hu.size; omega)⟩) (by simp; omega) (Nat.le_refl _) h0.size fun v1 _ h0 ho1 hg hv => ?_
          rw [List.nil_append] at ho1
          try have hne2n := newer hv b2 hb2.lt hne2
          try have hne12n := newer hv b12 hb12.lt hne12
          try have hb2 := hb2.grown hg hne2
          try have hb12 := hb12.grown hg hne12
          try have hne2 := hne2n
          try have hne12 := hne12n
          have ho := ho1
          refine RL.ord h0 ?_
          clear hg hv ho1
          refine RO.two 9 14 ?_ ?_
          · refine RL.app (L := chgLay) (el := 82) (S := fun _ => True) (B := w8.heap.size) (ys := [a, b]) h0 ho (SliceOf.lit2 (chgCells a) (chgCells b) _ _ hb2.at ⟨trivial, hne2⟩ rfl rfl) (by simp; omega) (Nat.le_refl _) h0.size fun v2 _ h0 ho1 hg hv => ?_
            try have hne12n := newer hv b12 hb12.lt hne12
            try have hb12 := hb12.grown hg hne12
            try have hne12 := hne12n
            have ho := ho1
            refine RL.ord h0 ?_
            clear hg hv ho1
            refine RO.two 10 14 ?_ ?_
            · try have hl12 := hb12.lt
              refine RL.cx (See_any _ (hl.up (hu.trans h0)) (ho.slice (fun _ => True) (fun _ _ => trivial) fun _ _ => trivial)) ?_
              rintro _ _ ⟨v3, rfl, h, hds3, lab3, hv3⟩
              refine ⟨_, rfl, ?_⟩
              have h0 := h0.trans h
              unfold fltV
              try have hb12 := hb12.up h
              have hsb := hv3.seen
              obtain ⟨xa, xc, rfl, _⟩ := id hsb
              clear ho
              refine RL.ord h0 ?_
              clear h hv3
              refine RO.tk 11 ?_
              refine RO.tk 12 ?_
              refine RO.tk 13 ?_
              refine RO.one 14 ?_
              refine RL.al h0 fun b12 _ he12 hle12 h0 h hb12 => ?_
              try have hne12 := ho.ne (Nat.le_of_eq he12.symm)
              try have ho := ho.up h
              try have hb2 := hb2.up h
              try have hsb := hsb.up h
              refine RL.ord h0 ?_
              clear h
              refine RO.tk 15 ?_
              refine RO.one 16 ?_
              refine RL.st h0 hb12 hle12 fun _ h0 hbt hb12 => ?_
              have hsb := (hsb.bt hbt (fun k hk => by have := hk.1; have := hk.2; omega)).mono (S' := fun _ => True) fun _ _ => trivial
              refine RL.ord h0 ?_
              refine RO.done (RL.nil ?_)
              exact next2 (b12, xa, xc) _ _ ⟨h0, hb12, hsb⟩ sb
            · refine RL.al h0 fun b12 _ he12 hle12 h0 h hb12 => ?_
              try have hne12 := ho.ne (Nat.le_of_eq he12.symm)
              try have ho := ho.up h
              try have hb2 := hb2.up h
              try have hsb := hsb.up h
              refine RL.ord h0 ?_
              clear h
              refine RO.one 10 ?_
              try have hl12 := hb12.lt
              refine RL.cx (See_any _ (hl.up (hu.trans h0)) (ho.slice (fun _ => True) (fun _ _ => trivial) fun _ _ => trivial)) ?_
              rintro _ _ ⟨v3, rfl, h, hds3, lab3, hv3⟩
              refine ⟨_, rfl, ?_⟩
              have h0 := h0.trans h
              unfold fltV
              try have hb12 := hb12.up h
              have hsb := hv3.seen
              obtain ⟨xa, xc, rfl, _⟩ := id hsb
              clear ho
              refine RL.ord h0 ?_
              clear h hv3
              refine RO.tk 11 ?_
              refine RO.tk 12 ?_
              refine RO.tk 13 ?_
              refine RO.tk 15 ?_
              refine RO.one 16 ?_
              refine RL.st h0 hb12 hle12 fun _ h0 hbt hb12 => ?_
              have hsb := (hsb.bt hbt (fun k hk => by have := hk.1; have := hk.2; omega)).mono (S' := fun _ => True) fun _ _ => trivial
              refine RL.ord h0 ?_
              refine RO.done (RL.nil ?_)
              exact next2 (b12, xa, xc) _ _ ⟨h0, hb12, hsb⟩ sb
          · refine RL.al h0 fun b12 _ he12 hle12 h0 h hb12 => ?_
            try have hne12 := ho.ne (Nat.le_of_eq he12.symm)
            try have ho := ho.up h
            try have hb2 := hb2.up h
            try have hsb := hsb.up h
            refine RL.ord h0 ?_
            clear h
            refine RO.one 9 ?_
            refine RL.app (L := chgLay) (el := 82) (S := fun _ => True) (B := w8.heap.size) (ys := [a, b]) h0 ho (SliceOf.lit2 (chgCells a) (chgCells b) _ _ hb2.at ⟨trivial, hne2⟩ rfl rfl) (by simp; omega) (Nat.le_refl _) h0.size fun v2 _ h0 ho1 hg hv => ?_
            try have hne12n := newer hv b12 hb12.lt hne12
            try have hb12 := hb12.grown hg hne12
            try have hne12 := hne12n
            have ho := ho1
            refine RL.ord h0 ?_
            clear hg hv ho1
            refine RO.one 10 ?_
            try have hl12 := hb12.lt
            refine RL.cx (See_any _ (hl.up (hu.trans h0)) (ho.slice (fun _ => True) (fun _ _ => trivial) fun _ _ => trivial)) ?_
            rintro _ _ ⟨v3, rfl, h, hds3, lab3, hv3⟩
            refine ⟨_, rfl, ?_⟩
            have h0 := h0.trans h
            unfold fltV
            try have hb12 := hb12.up h
            have hsb := hv3.seen
            obtain ⟨xa, xc, rfl, _⟩ := id hsb
            clear ho
            refine RL.ord h0 ?_
            clear h hv3
            refine RO.tk 11 ?_
            refine RO.tk 12 ?_
            refine RO.tk 13 ?_
            refine RO.tk 15 ?_
            refine RO.one 16 ?_
            refine RL.st h0 hb12 hle12 fun _ h0 hbt hb12 => ?_
            have hsb := (hsb.bt hbt (fun k hk => by have := hk.1; have := hk.2; omega)).mono (S' := fun _ => True) fun _ _ => trivial
            refine RL.ord h0 ?_
            refine RO.done (RL.nil ?_)
            exact next2 (b12, xa, xc) _ _ ⟨h0, hb12, hsb⟩ sb
        · refine RL.al h0 fun b12 _ he12 hle12 h0 h hb12 => ?_
          try have hne12 := ho.ne (Nat.le_of_eq he12.symm)
          try have ho := ho.up h
          try have hb2 := hb2.up h
          try have hsb := hsb.up h
          refine RL.ord h0 ?_
          clear h
          refine RO.one 3 ?_
          refine RL.app (L := chgLay) (el := 82) (S := fun _ => True) (B := w8.heap.size) (ys := cs) h0 ho ((hcs.old.up (hu.trans h0)).mono fun k hk => ⟨trivial, ho.ne' (by have := hu.size; omega)⟩) (by simp; omega) (Nat.le_refl _) h0.size fun v1 _ h0 ho1 hg hv => ?_
          rw [List.nil_append] at ho1
          try have hne2n := newer hv b2 hb2.lt hne2
          try have hne12n := newer hv b12 hb12.lt hne12
          try have hb2 := hb2.grown hg hne2
          try have hb12 := hb12.grown hg hne12
          try have hne2 := hne2n
          try have hne12 := hne12n
          have ho := ho1
          refine RL.ord h0 ?_
          clear hg hv ho1
          refine RO.one 9 ?_
          refine RL.app (L := chgLay) (el := 82) (S := fun _ => True) (B := w8.heap.size) (ys := [a, b]) h0 ho (SliceOf.lit2 (chgCells a) (chgCells b) _ _ hb2.at ⟨trivial, hne2⟩ rfl rfl) (by simp; omega) (Nat.le_refl _) h0.size fun v2 _ h0 ho1 hg hv => ?_
          try have hne12n := newer hv b12 hb12.lt hne12
          try have hb12 := hb12.grown hg hne12
          try have hne12 := hne12n
          have ho := ho1
          refine RL.ord h0 ?_
          clear hg hv ho1
          refine RO.one 10 ?_
          try have hl12 := hb12.lt
          refine RL.cx (See_any _ (hl.up (hu.trans h0)) (ho.slice (fun _ => True) (fun _ _ => trivial) fun _ _ => trivial)) ?_
          rintro _ _ ⟨v3, rfl, h, hds3, lab3, hv3⟩
          refine ⟨_, rfl, ?_⟩
          have h0 := h0.trans h
          unfold fltV
          try have hb12 := hb12.up h
          have hsb := hv3.seen
          obtain ⟨xa, xc, rfl, _⟩ := id hsb
          clear ho
          refine RL.ord h0 ?_
          clear h hv3
          refine RO.tk 11 ?_
          refine RO.tk 12 ?_
          refine RO.tk 13 ?_
          refine RO.tk 15 ?_
          refine RO.one 16 ?_
          refine RL.st h0 hb12 hle12 fun _ h0 hbt hb12 => ?_
          have hsb := (hsb.bt hbt (fun k hk => by have := hk.1; have := hk.2; omega)).mono (S' := fun _ => True) fun _ _ => trivial
          refine RL.ord h0 ?_
          refine RO.done (RL.nil ?_)
          exact next2 (b12, xa, xc) _ _ ⟨h0, hb12, hsb⟩ sb
      · refine RL.al h0 fun b12 _ he12 hle12 h0 h hb12 => ?_
        try have hne12 := ho.ne (Nat.le_of_eq he12.symm)
        try have ho := ho.up h
        try have hb2 := hb2.up h
        try have hsb := hsb.up h
        refine RL.ord h0 ?_
        clear h
        refine RO.two 3 8 ?_ ?_
        · refine RL.app (L := chgLay) (el := 82) (S := fun _ => True) (B := w8.heap.size) (ys := cs) h0 ho ((hcs.old.up (hu.trans h0)).mono fun k hk => ⟨trivial, ho.ne' (by have := hu.size; omega)⟩) (by simp; omega) (Nat.le_refl _) h0.size fun v1 _ h0 ho1 hg hv => ?_
          rw [List.nil_append] at ho1
          try have hne2n := newer hv b2 hb2.lt hne2
          try have hne12n := newer hv b12 hb12.lt hne12
          try have hb2 := hb2.grown hg hne2
          try have hb12 := hb12.grown hg hne12
          try have hne2 := hne2n
          try have hne12 := hne12n
          have ho := ho1
          refine RL.ord h0 ?_
          clear hg hv ho1
          refine RO.one 8 ?_
          refine RL.bu (el := 82) (chgCells a ++ chgCells b) h0 fun b2 _ he2 hle2 h0 h hb2 => ?_
          try have hne2 := ho.ne (Nat.le_of_eq he2.symm)
          try have ho := ho.up h
          try have hb12 := hb12.up h
          refine RL.ord h0 ?_
          clear h
          refine RO.one 9 ?_
          refine RL.app (L := chgLay) (el := 82) (S := fun _ => True) (B := w8.heap.size) (ys := [a, b]) h0 ho (SliceOf.lit2 (chgCells a) (chgCells b) _ _ hb2.at ⟨trivial, hne2⟩ rfl rfl) (by simp; omega) (Nat.le_refl _) h0.size fun v2 _ h0 ho1 hg hv => ?_
          try have hne12n := newer hv b12 hb12.lt hne12
          try have hb12 := hb12.grown hg hne12
          try have hne12 := hne12n
          have ho := ho1
          refine RL.ord h0 ?_
          clear hg hv ho1
          refine RO.one 10 ?_
          try have hl12 := hb12.lt
          refine RL.cx (See_any _ (hl.up (hu.trans h0)) (ho.slice (fun _ => True) (fun _ _ => trivial) fun _ _ => trivial)) ?_
          rintro _ _ ⟨v3, rfl, h, hds3, lab3, hv3⟩
          refine ⟨_, rfl, ?_⟩
          have h0 := h0.trans h
          unfold fltV
          try have hb12 := hb12.up h
          have hsb := hv3.seen
          obtain ⟨xa, xc, rfl, _⟩ := id hsb
          clear ho
          refine RL.ord h0 ?_
          clear h hv3
          refine RO.tk 11 ?_
          refine RO.tk 12 ?_
          refine RO.tk 13 ?_
          refine RO.tk 15 ?_
          refine RO.one 16 ?_
          refine RL.st h0 hb12 hle12 fun _ h0 hbt hb12 => ?_
          have hsb := (hsb.bt hbt (fun k hk => by have := hk.1; have := hk.2; omega)).mono (S' := fun _ => True) fun _ _ => trivial
          refine RL.ord h0 ?_
          refine RO.done (RL.nil ?_)
          exact next2 (b12, xa, xc) _ _ ⟨h0, hb12, hsb⟩ sb
        · refine RL.bu (el := 82) (chgCells a ++ chgCells b) h0 fun b2 _ he2 hle2 h0 h hb2 => ?_
          try have hne2 := ho.ne (Nat.le_of_eq he2.symm)
          try have ho := ho.up h
          try have hb12 := hb12.up h
          refine RL.ord h0 ?_
          clear h
          refine RO.one 3 ?_
          refine RL.app (L := chgLay) (el := 82) (S := fun _ => True) (B := w8.heap.size) (ys := cs) h0 ho ((hcs.old.up (hu.trans h0)).mono fun k hk => ⟨trivial, ho.ne' (by have := hu.size; omega)⟩) (by simp; omega) (Nat.le_refl _) h0.size fun v1 _ h0 ho1 hg hv => ?_
          rw [List.nil_append] at ho1
          try have hne2n := newer hv b2 hb2.lt hne2
          try have hne12n := newer hv b12 hb12.lt hne12
          try have hb2 := hb2.grown hg hne2
          try have hb12 := hb12.grown hg hne12
          try have hne2 := hne2n
          try have hne12 := hne12n
          have ho := ho1
          refine RL.ord h0 ?_
          clear hg hv ho1
          refine RO.one 9 ?_
          refine RL.app (L := chgLay) (el := 82) (S := fun _ => True) (B := w8.heap.size) (ys := [a, b]) h0 ho (SliceOf.lit2 (chgCells a) (chgCells b) _ _ hb2.at ⟨trivial, hne2⟩ rfl rfl) (by simp; omega) (Nat.le_refl _) h0.size fun v2 _ h0 ho1 hg hv => ?_
          try have hne12n := newer hv b12 hb12.lt hne12
          try have hb12 := hb12.grown hg hne12
          try have hne12 := hne12n
          have ho := ho1
          refine RL.ord h0 ?_
          clear hg hv ho1
          refine RO.one 10 ?_
          try have hl12 := hb12.lt
          refine RL.cx (See_any _ (hl.up (hu.trans h0)) (ho.slice (fun _ => True) (fun _ _ => trivial) fun _ _ => trivial)) ?_
          rintro _ _ ⟨v3, rfl, h, hds3, lab3, hv3⟩
          refine ⟨_, rfl, ?_⟩
          have h0 := h0.trans h
          unfold fltV
          try have hb12 := hb12.up h
          have hsb := hv3.seen
          obtain ⟨xa, xc, rfl, _⟩ := id hsb
          clear ho
          refine RL.ord h0 ?_
          clear h hv3
          refine RO.tk 11 ?_
          refine RO.tk 12 ?_
          refine RO.tk 13 ?_
          refine RO.tk 15 ?_
          refine RO.one 16 ?_
          refine RL.st h0 hb12 hle12 fun _ h0 hbt hb12 => ?_
          have hsb := (hsb.bt hbt (fun k hk => by have := hk.1; have := hk.2; omega)).mono (S' := fun _ => True) fun _ _ => trivial
          refine RL.ord h0 ?_
          refine RO.done (RL.nil ?_)
          exact next2 (b12, xa, xc) _ _ ⟨h0, hb12, hsb⟩ sb
    · refine RL.bu (el := 82) (chgCells a ++ chgCells b) h0 fun b2 _ he2 hle2 h0 h hb2 => ?_
      try have hne2 := ho.ne (Nat.le_of_eq he2.symm)
      try have ho := ho.up h
      try have hb12 := hb12.up h
      refine RL.ord h0 ?_
      clear h
      refine RO.two 1 14 ?_ ?_
      · refine RL.bu (el := 82) [] h0 fun b1 _ he1 hle1 h0 h hb1 => ?_
        try have hne2 : some b2 ≠ Value.ownBlock (.slice (some ⟨b1, 0, none⟩) 0 0) := fun h => by simp [Value.ownBlock] at h; have := hb2.lt; omega
        try have hne12 : some b12 ≠ Value.ownBlock (.slice (some ⟨b1, 0, none⟩) 0 0) := fun h => by simp [Value.ownBlock] at h; have := hb12.lt; omega
        try have hb2 := hb2.up h
        try have hb12 := hb12.up h
        have ho := Own.empty (S := fun _ => True) (B := w8.heap.size) chgLay hb1 hle1
        refine RL.ord h0 ?_
        clear h
        refine RO.two 3 14 ?_ ?_
        · refine RL.app (L := chgLay) (el := 82) (S := fun _ => True) (B := w8.heap.size) (ys := cs) h0 ho ((hcs.old.up (hu.trans h0)).mono fun k hk => ⟨trivial, ho.ne' (by have := hu.size; omega)⟩) (by simp; omega) (Nat.le_refl _) h0.size fun v1 _ h0 ho1 hg hv => ?_
          rw [List.nil_append] at ho1
          try have hne2n := newer hv b2 hb2.lt hne2
          try have hne12n := newer hv b12 hb12.lt hne12
          try have hb2 := hb2.grown hg hne2
          try have hb12 := hb12.grown hg hne12
          try have hne2 := hne2n
          try have hne12 := hne12n
          have ho := ho1
          refine RL.ord h0 ?_
          clear hg hv ho1
          refine RO.two 9 14 ?_ ?_
          · refine RL.app (L := chgLay) (el := 82) (S := fun _ => True) (B := w8.heap.size) (ys := [a, b]) h0 ho (SliceOf.lit2 (chgCells a) (chgCells b) _ _ hb2.at ⟨trivial, hne2⟩ rfl rfl) (by simp; omega) (Nat.le_refl _) h0.size fun v2 _ h0 ho1 hg hv => ?_
            try have hne12n := newer hv b12 hb12.lt hne12
            try have hb12 := hb12.grown hg hne12
            try have hne12 := hne12n
            have ho := ho1
            refine RL.ord h0 ?_
            clear hg hv ho1
            refine RO.two 10 14 ?_ ?_
            · try have hl12 := hb12.lt
              refine RL.cx (See_any _ (hl.up (hu.trans h0)) (ho.slice (fun _ => True) (fun _ _ => trivial) fun _ _ => trivial)) ?_
              rintro _ _ ⟨v3, rfl, h, hds3, lab3, hv3⟩
              refine ⟨_, rfl, ?_⟩
              have h0 := h0.trans h
              unfold fltV
              try have hb12 := hb12.up h
              have hsb := hv3.seen
              obtain ⟨xa, xc, rfl, _⟩ := id hsb
              clear ho
              refine RL.ord h0 ?_
              clear h hv3
              refine RO.tk 11 ?_
              refine RO.tk 12 ?_
              refine RO.tk 13 ?_
              refine RO.one 14 ?_
              refine RL.al h0 fun b12 _ he12 hle12 h0 h hb12 => ?_
              try have hne12 := ho.ne (Nat.le_of_eq he12.symm)
              try have ho := ho.up h
              try have hb2 := hb2.up h
              try have hsb := hsb.up h
              refine RL.ord h0 ?_
              clear h
              refine RO.tk 15 ?_
              refine RO.one 16 ?_
              refine RL.st h0 hb12 hle12 fun _ h0 hbt hb12 => ?_
              have hsb := (hsb.bt hbt (fun k hk => by have := hk.1; have := hk.2; omega)).mono (S' := fun _ => True) fun _ _ => trivial
              refine RL.ord h0 ?_
              refine RO.done (RL.nil ?_)
              exact next2 (b12, xa, xc) _ _ ⟨h0, hb12, hsb⟩ sb
            · refine RL.al h0 fun b12 _ he12 hle12 h0 h hb12 => ?_
              try have hne12 := ho.ne (Nat.le_of_eq he12.symm)
              try have ho := ho.up h
              try have hb2 := hb2.up h
              try have hsb := hsb.up h
              refine RL.ord h0 ?_
              clear h
              refine RO.one 10 ?_
              try have hl12 := hb12.lt
              refine RL.cx (See_any _ (hl.up (hu.trans h0)) (ho.slice (fun _ => True) (fun _ _ => trivial) fun _ _ => trivial)) ?_
              rintro _ _ ⟨v3, rfl, h, hds3, lab3, hv3⟩
              refine ⟨_, rfl, ?_⟩
              have h0 := h0.trans h
              unfold fltV
              try have hb12 := hb12.up h
              have hsb := hv3.seen
              obtain ⟨xa, xc, rfl, _⟩ := id hsb
              clear ho
              refine RL.ord h0 ?_
              clear h hv3
              refine RO.tk 11 ?_
              refine RO.tk 12 ?_
              refine RO.tk 13 ?_
              refine RO.tk 15 ?_
              refine RO.one 16 ?_
              refine RL.st h0 hb12 hle12 fun _ h0 hbt hb12 => ?_
              have hsb := (hsb.bt hbt (fun k hk => by have := hk.1; have := hk.2; omega)).mono (S' := fun _ => True) fun _ _ => trivial
              refine RL.ord h0 ?_
              refine RO.done (RL.nil ?_)
              exact next2 (b12, xa, xc) _ _ ⟨h0, hb12, hsb⟩ sb
          · refine RL.al h0 fun b12 _ he12 hle12 h0 h hb12 => ?_
            try have hne12 := ho.ne (Nat.le_of_eq he12.symm)
            try have ho := ho.up h
            try have hb2 := hb2.up h
            try have hsb := hsb.up h
            refine RL.ord h0 ?_
            clear h
            refine RO.one 9 ?_
            refine RL.app (L := chgLay) (el := 82) (S := fun _ => True) (B := w8.heap.size) (ys := [a, b]) h0 ho (SliceOf.lit2 (chgCells a) (chgCells b) _ _ hb2.at ⟨trivial, hne2⟩ rfl rfl) (by simp; omega) (Nat.le_refl _) h0.size fun v2 _ h0 ho1 hg hv => ?_
            try have hne12n := newer hv b12 hb12.lt hne12
            try have hb12 := hb12.grown hg hne12
            try have hne12 := hne12n
            have ho := ho1
            refine RL.ord h0 ?_
            clear hg hv ho1
            refine RO.one 10 ?_
            try have hl12 := hb12.lt
            refine RL.cx (See_any _ (hl.up (hu.trans h0)) (ho.slice (fun _ => True) (fun _ _ => trivial) fun _ _ => trivial)) ?_
            rintro _ _ ⟨v3, rfl, h, hds3, lab3, hv3⟩
            refine ⟨_, rfl, ?_⟩
            have h0 := h0.trans h
            unfold fltV
            try have hb12 := hb12.up h
            have hsb := hv3.seen
            obtain ⟨xa, xc, rfl, _⟩ := id hsb
            clear ho
            refine RL.ord h0 ?_
            clear h hv3
            refine RO.tk 11 ?_
            refine RO.tk 12 ?_
            refine RO.tk 13 ?_
            refine RO.tk 15 ?_
            refine RO.one 16 ?_
            refine RL.st h0 hb12 hle12 fun _ h0 hbt hb12 => ?_
            have hsb := (hsb.bt hbt (fun k hk => by have := hk.1; have := hk.2; omega)).mono (S' := fun _ => True) fun _ _ => trivial
            refine RL.ord h0 ?_
            refine RO.done (RL.nil ?_)
            exact next2 (b12, xa, xc) _ _ ⟨h0, hb12, hsb⟩ sb
        · refine RL.al h0 fun b12 _ he12 hle12 h0 h hb12 => ?_
          try have hne12 := ho.ne (Nat.le_of_eq he12.symm)
          try have ho := ho.up h
          try have hb2 := hb2.up h
          try have hsb := hsb.up h
          refine RL.ord h0 ?_
          clear h
          refine RO.one 3 ?_
          refine RL.app (L := chgLay) (el := 82) (S := fun _ => True) (B := w8.heap.size) (ys := cs) h0 ho ((hcs.old.up (hu.trans h0)).mono fun k hk => ⟨trivial, ho.ne' (by have := hu.size; omega)⟩) (by simp; omega) (Nat.le_refl _) h0.size fun v1 _ h0 ho1 hg hv => ?_
          rw [List.nil_append] at ho1
          try have hne2n := newer hv b2 hb2.lt hne2
          try have hne12n := newer hv b12 hb12.lt hne12
          try have hb2 := hb2.grown hg hne2
          try have hb12 := hb12.grown hg hne12
          try have hne2 := hne2n
          try have hne12 := hne12n
          have ho := ho1
          refine RL.ord h0 ?_
          clear hg hv ho1
          refine RO.one 9 ?_
          refine RL.app (L := chgLay) (el := 82) (S := fun _ => True) (B := w8.heap.size) (ys := [a, b]) h0 ho (SliceOf.lit2 (chgCells a) (chgCells b) _ _ hb2.at ⟨trivial, hne2⟩ rfl rfl) (by simp; omega) (Nat.le_refl _) h0.size fun v2 _ h0 ho1 hg hv => ?_
          try have hne12n := newer hv b12 hb12.lt hne12
          try have hb12 := hb12.grown hg hne12
          try have hne12 := hne12n
          have ho := ho1
          refine RL.ord h0 ?_
          clear hg hv ho1
          refine RO.one 10 ?_
          try have hl12 := hb12.lt
          refine RL.cx (See_any _ (hl.up (hu.trans h0)) (ho.slice (fun _ => True) (fun _ _ => trivial) fun _ _ => trivial)) ?_
          rintro _ _ ⟨v3, rfl, h, hds3, lab3, hv3⟩
          refine ⟨_, rfl, ?_⟩
          have h0 := h0.trans h
          unfold fltV
          try have hb12 := hb12.up h
          have hsb := hv3.seen
          obtain ⟨xa, xc, rfl, _⟩ := id hsb
          clear ho
          refine RL.ord h0 ?_
          clear h hv3
          refine RO.tk 11 ?_
          refine RO.tk 12 ?_
          refine RO.tk 13 ?_
          refine RO.tk 15 ?_
          refine RO.one 16 ?_
          refine RL.st h0 hb12 hle12 fun _ h0 hbt hb12 => ?_
          have hsb := (hsb.bt hbt (fun k hk => by have := hk.1; have := hk.2; omega)).mono (S' := fun _ => True) fun _ _ => trivial
          refine RL.ord h0 ?_
          refine RO.done (RL.nil ?_)
          exact next2 (b12, xa, xc) _ _ ⟨h0, hb12, hsb⟩ sb
      · refine RL.al h0 fun b12 _ he12 hle12 h0 h hb12 => ?_
        try have hne12 := ho.ne (Nat.le_of_eq he12.symm)
        try have ho := ho.up h
        try have hb2 := hb2.up h
        try have hsb := hsb.up h
        refine RL.ord h0 ?_
        clear h
        refine RO.one 1 ?_
        refine RL.bu (el := 82) [] h0 fun b1 _ he1 hle1 h0 h hb1 => ?_
        try have hne2 : some b2 ≠ Value.ownBlock (.slice (some ⟨b1, 0, none⟩) 0 0) := fun h => by simp [Value.ownBlock] at h; have := hb2.lt; omega
        try have hne12 : some b12 ≠ Value.ownBlock (.slice (some ⟨b1, 0, none⟩) 0 0) := fun h => by simp [Value.ownBlock] at h; have := hb12.lt; omega
        try have hb2 := hb2.up h
        try have hb12 := hb12.up h
        have ho := Own.empty (S := fun _ => True) (B := w8.heap.size) chgLay hb1 hle1
        refine RL.ord h0 ?_
        clear h
        refine RO.one 3 ?_
        refine RL.app (L := chgLay) (el := 82) (S := fun _ => True) (B := w8.heap.size) (ys := cs) h0 ho ((hcs.old.up (hu.trans h0)).mono fun k hk => ⟨trivial, ho.ne' (by have := hu.size; omega)⟩) (by simp; omega) (Nat.le_refl _) h0.size fun v1 _ h0 ho1 hg hv => ?_
        rw [List.nil_append] at ho1
        try have hne2n := newer hv b2 hb2.lt hne2
        try have hne12n := newer hv b12 hb12.lt hne12
        try have hb2 := hb2.grown hg hne2
        try have hb12 := hb12.grown hg hne12
        try have hne2 := hne2n
        try have hne12 := hne12n
        have ho := ho1
        refine RL.ord h0 ?_
        clear hg hv ho1
        refine RO.one 9 ?_
        refine RL.app (L := chgLay) (el := 82) (S := fun _ => True) (B := w8.heap.size) (ys := [a, b]) h0 ho (SliceOf.lit2 (chgCells a) (chgCells b) _ _ hb2.at ⟨trivial, hne2⟩ rfl rfl) (by simp; omega) (Nat.le_refl _) h0.size fun v2 _ h0 ho1 hg hv => ?_
        try have hne12n := newer hv b12 hb12.lt hne12
        try have hb12 := hb12.grown hg hne12
        try have hne12 := hne12n
        have ho := ho1
        refine RL.ord h0 ?_
        clear hg hv ho1
        refine RO.one 10 ?_
        try have hl12 := hb12.lt
        refine RL.cx (See_any _ (hl.up (hu.trans h0)) (ho.slice (fun _ => True) (fun _ _ => trivial) fun _ _ => trivial)) ?_
        rintro _ _ ⟨v3, rfl, h, hds3, lab3, hv3⟩
        refine ⟨_, rfl, ?_⟩
        have h0 := h0.trans h
        unfold fltV
        try have hb12 := hb12.up h
        have hsb := hv3.seen
        obtain ⟨xa, xc, rfl, _⟩ := id hsb
        clear ho
        refine RL.ord h0 ?_
        clear h hv3
        refine RO.tk 11 ?_
        refine RO.tk 12 ?_
        refine RO.tk 13 ?_
        refine RO.tk 15 ?_
        refine RO.one 16 ?_
        refine RL.st h0 hb12 hle12 fun _ h0 hbt hb12 => ?_
        have hsb := (hsb.bt hbt (fun k hk => by have := hk.1; have := hk.2; omega)).mono (S' := fun _ => True) fun _ _ => trivial
        refine RL.ord h0 ?_
        refine RO.done (RL.nil ?_)
        exact next2 (b12, xa, xc) _ _ ⟨h0, hb12, hsb⟩ sb
    · refine RL.al h0 fun b12 _ he12 hle12 h0 h hb12 => ?_
      try have hne12 := ho.ne (Nat.le_of_eq he12.symm)
      try have ho := ho.up h
      try have hb2 := hb2.up h
      try have hsb := hsb.up h
      refine RL.ord h0 ?_
      clear h
      refine RO.two 1 8 ?_ ?_
      · refine RL.bu (el := 82) [] h0 fun b1 _ he1 hle1 h0 h hb1 => ?_
        try have hne2 : some b2 ≠ Value.ownBlock (.slice (some ⟨b1, 0, none⟩) 0 0) := fun h => by simp [Value.ownBlock] at h; have := hb2.lt; omega
        try have hne12 : some b12 ≠ Value.ownBlock (.slice (some ⟨b1, 0, none⟩) 0 0) := fun h => by simp [Value.ownBlock] at h; have := hb12.lt; omega
        try have hb2 := hb2.up h
        try have hb12 := hb12.up h
        have ho := Own.empty (S := fun _ => True) (B := w8.heap.size) chgLay hb1 hle1
        refine RL.ord h0 ?_
        clear h
        refine RO.two 3 8 ?_ ?_
        · refine RL.app (L := chgLay) (el := 82) (S := fun _ => True) (B := w8.heap.size) (ys := cs) h0 ho ((hcs.old.up (hu.trans h0)).mono fun k hk => ⟨trivial, ho.ne' (by have := hu.size; omega)⟩) (by simp; omega) (Nat.le_refl _) h0.size fun v1 _ h0 ho1 hg hv => ?_
          rw [List.nil_append] at ho1
          try have hne2n := newer hv b2 hb2.lt hne2
          try have hne12n := newer hv b12 hb12.lt hne12
          try have hb2 := hb2.grown hg hne2
          try have hb12 := hb12.grown hg hne12
          try have hne2 := hne2n
          try have hne12 := hne12n
          have ho := ho1
          refine RL.ord h0 ?_
          clear hg hv ho1
          refine RO.one 8 ?_
          refine RL.bu (el := 82) (chgCells a ++ chgCells b) h0 fun b2 _ he2 hle2 h0 h hb2 => ?_
          try have hne2 := ho.ne (Nat.le_of_eq he2.symm)
          try have ho := ho.up h
          try have hb12 := hb12.up h
          refine RL.ord h0 ?_
          clear h
          refine RO.one 9 ?_
          refine RL.app (L := chgLay) (el := 82) (S := fun _ => True) (B := w8.heap.size) (ys := [a, b]) h0 ho (SliceOf.lit2 (chgCells a) (chgCells b) _ _ hb2.at ⟨trivial, hne2⟩ rfl rfl) (by simp; omega) (Nat.le_refl _) h0.size fun v2 _ h0 ho1 hg hv => ?_
          try have hne12n := newer hv b12 hb12.lt hne12
          try have hb12 := hb12.grown hg hne12
          try have hne12 := hne12n
          have ho := ho1
          refine RL.ord h0 ?_
          clear hg hv ho1
          refine RO.one 10 ?_
          try have hl12 := hb12.lt
          refine RL.cx (See_any _ (hl.up (hu.trans h0)) (ho.slice (fun _ => True) (fun _ _ => trivial) fun _ _ => trivial)) ?_
          rintro _ _ ⟨v3, rfl, h, hds3, lab3, hv3⟩
          refine ⟨_, rfl, ?_⟩
          have h0 := h0.trans h
          unfold fltV
          try have hb12 := hb12.up h
          have hsb := hv3.seen
          obtain ⟨xa, xc, rfl, _⟩ := id hsb
          clear ho
          refine RL.ord h0 ?_
          clear h hv3
          refine RO.tk 11 ?_
          refine RO.tk 12 ?_
          refine RO.tk 13 ?_
          refine RO.tk 15 ?_
          refine RO.one 16 ?_
          refine RL.st h0 hb12 hle12 fun _ h0 hbt hb12 => ?_
          have hsb := (hsb.bt hbt (fun k hk => by have := hk.1; have := hk.2; omega)).mono (S' := fun _ => True) fun _ _ => trivial
          refine RL.ord h0 ?_
          refine RO.done (RL.nil ?_)
          exact next2 (b12, xa, xc) _ _ ⟨h0, hb12, hsb⟩ sb
        · refine RL.bu (el := 82) (chgCells a ++ chgCells b) h0 fun b2 _ he2 hle2 h0 h hb2 => ?_
          try have hne2 := ho.ne (Nat.le_of_eq he2.symm)
          try have ho := ho.up h
          try have hb12 := hb12.up h
          refine RL.ord h0 ?_
          clear h
          refine RO.one 3 ?_
          refine RL.app (L := chgLay) (el := 82) (S := fun _ => True) (B := w8.heap.size) (ys := cs) h0 ho ((hcs.old.up (hu.trans h0)).mono fun k hk => ⟨trivial, ho.ne' (by have := hu.size; omega)⟩) (by simp; omega) (Nat.le_refl _) h0.size fun v1 _ h0 ho1 hg hv => ?_
          rw [List.nil_append] at ho1
          try have hne2n := newer hv b2 hb2.lt hne2
          try have hne12n := newer hv b12 hb12.lt hne12
          try have hb2 := hb2.grown hg hne2
          try have hb12 := hb12.grown hg hne12
          try have hne2 := hne2n
          try have hne12 := hne12n
          have ho := ho1
          refine RL.ord h0 ?_
          clear hg hv ho1
          refine RO.one 9 ?_
          refine RL.app (L := chgLay) (el := 82) (S := fun _ => True) (B := w8.heap.size) (ys := [a, b]) h0 ho (SliceOf.lit2 (chgCells a) (chgCells b) _ _ hb2.at ⟨trivial, hne2⟩ rfl rfl) (by simp; omega) (Nat.le_refl _) h0.size fun v2 _ h0 ho1 hg hv => ?_
          try have hne12n := newer hv b12 hb12.lt hne12
          try have hb12 := hb12.grown hg hne12
          try have hne12 := hne12n
          have ho := ho1
          refine RL.ord h0 ?_
          clear hg hv ho1
          refine RO.one 10 ?_
          try have hl12 := hb12.lt
          refine RL.cx (See_any _ (hl.up (hu.trans h0)) (ho.slice (fun _ => True) (fun _ _ => trivial) fun _ _ => trivial)) ?_
          rintro _ _ ⟨v3, rfl, h, hds3, lab3, hv3⟩
          refine ⟨_, rfl, ?_⟩
          have h0 := h0.trans h
          unfold fltV
          try have hb12 := hb12.up h
          have hsb := hv3.seen
          obtain ⟨xa, xc, rfl, _⟩ := id hsb
          clear ho
          refine RL.ord h0 ?_
          clear h hv3
          refine RO.tk 11 ?_
          refine RO.tk 12 ?_
          refine RO.tk 13 ?_
          refine RO.tk 15 ?_
          refine RO.one 16 ?_
          refine RL.st h0 hb12 hle12 fun _ h0 hbt hb12 => ?_
          have hsb := (hsb.bt hbt (fun k hk => by have := hk.1; have := hk.2; omega)).mono (S' := fun _ => True) fun _ _ => trivial
          refine RL.ord h0 ?_
          refine RO.done (RL.nil ?_)
          exact next2 (b12, xa, xc) _ _ ⟨h0, hb12, hsb⟩ sb
      · refine RL.bu (el := 82) (chgCells a ++ chgCells b) h0 fun b2 _ he2 hle2 h0 h hb2 => ?_
        try have hne2 := ho.ne (Nat.le_of_eq he2.symm)
        try have ho := ho.up h
        try have hb12 := hb12.up h
        refine RL.ord h0 ?_
        clear h
        refine RO.one 1 ?_
        refine RL.bu (el := 82) [] h0 fun b1 _ he1 hle1 h0 h hb1 => ?_
        try have hne2 : some b2 ≠ Value.ownBlock (.slice (some ⟨b1, 0, none⟩) 0 0) := fun h => by simp [Value.ownBlock] at h; have := hb2.lt; omega
        try have hne12 : some b12 ≠ Value.ownBlock (.slice (some ⟨b1, 0, none⟩) 0 0) := fun h => by simp [Value.ownBlock] at h; have := hb12.lt; omega
        try have hb2 := hb2.up h
        try have hb12 := hb12.up h
        have ho := Own.empty (S := fun _ => True) (B := w8.heap.size) chgLay hb1 hle1
        refine RL.ord h0 ?_
        clear h
        refine RO.one 3 ?_
        refine RL.app (L := chgLay) (el := 82) (S := fun _ => True) (B := w8.heap.size) (ys := cs) h0 ho ((hcs.old.up (hu.trans h0)).mono fun k hk => ⟨trivial, ho.ne' (by have := hu.size; omega)⟩) (by simp; omega) (Nat.le_refl _) h0.size fun v1 _ h0 ho1 hg hv => ?_
        rw [List.nil_append] at ho1
        try have hne2n := newer hv b2 hb2.lt hne2
        try have hne12n := newer hv b12 hb12.lt hne12
        try have hb2 := hb2.grown hg hne2
        try have hb12 := hb12.grown hg hne12
        try have hne2 := hne2n
        try have hne12 := hne12n
        have ho := ho1
        refine RL.ord h0 ?_
        clear hg hv ho1
        refine RO.one 9 ?_
        refine RL.app (L := chgLay) (el := 82) (S := fun _ => True) (B := w8.heap.size) (ys := [a, b]) h0 ho (SliceOf.lit2 (chgCells a) (chgCells b) _ _ hb2.at ⟨trivial, hne2⟩ rfl rfl) (by simp; omega) (Nat.le_refl _) h0.size fun v2 _ h0 ho1 hg hv => ?_
        try have hne12n := newer hv b12 hb12.lt hne12
        try have hb12 := hb12.grown hg hne12
        try have hne12 := hne12n
        have ho := ho1
        refine RL.ord h0 ?_
        clear hg hv ho1
        refine RO.one 10 ?_
        try have hl12 := hb12.lt
        refine RL.cx (See_any _ (hl.up (hu.trans h0)) (ho.slice (fun _ => True) (fun _ _ => trivial) fun _ _ => trivial)) ?_
        rintro _ _ ⟨v3, rfl, h, hds3, lab3, hv3⟩
        refine ⟨_, rfl, ?_⟩
        have h0 := h0.trans h
        unfold fltV
        try have hb12 := hb12.up h
        have hsb := hv3.seen
        obtain ⟨xa, xc, rfl, _⟩ := id hsb
        clear ho
        refine RL.ord h0 ?_
        clear h hv3
        refine RO.tk 11 ?_
        refine RO.tk 12 ?_
        refine RO.tk 13 ?_
        refine RO.tk 15 ?_
        refine RO.one 16 ?_
        refine RL.st h0 hb12 hle12 fun _ h0 hbt hb12 => ?_
        have hsb := (hsb.bt hbt (fun k hk => by have := hk.1; have := hk.2; omega)).mono (S' := fun _ => True) fun _ _ => trivial
        refine RL.ord h0 ?_
        refine RO.done (RL.nil ?_)
        exact next2 (b12, xa, xc) _ _ ⟨h0, hb12, hsb⟩ sb
  rintro ⟨b18, xa4, xc4⟩ w9 ⟨h89, hb18, hsb⟩
  simp only at hb18 hsb ⊢
  have hu := hu.trans h89
  have hs1 := hs1.up h89
  have ha18 := hb18.at
  have h8b : (seeM l (cs ++ [a, b])).1.length ≤ 8 := by
    have := (seeM_right hg2).1.len
    rwa [List.length_map] at this
  repeat (first | refine RL.vv ?_ | refine RL.p ?_ | refine RL.nil ?_ | refine Sim.seq ?_ | refine Sim.region ?_ | refine Sim.block ?_ | refine Sim.skip ?_ | refine Sim.inBlock ?_ | refine Sim.exit rfl ?_ | refine Sim.condT rfl ?_ | refine Sim.condF rfl ?_)
  refine RL.cx (Types_any w9 hs1 (by omega)) ?_
  rintro _ w10 ⟨tv1, rfl, h910, ht1⟩
  refine ⟨_, rfl, ?_⟩
  repeat (first | refine RL.vv ?_ | refine RL.p ?_ | refine RL.nil ?_ | refine Sim.seq ?_ | refine Sim.region ?_ | refine Sim.block ?_ | refine Sim.skip ?_ | refine Sim.inBlock ?_ | refine Sim.exit rfl ?_ | refine Sim.condT rfl ?_ | refine Sim.condF rfl ?_)
  refine RL.cx (Types_any w10 (hsb.up h910) (by omega)) ?_
  rintro _ w11 ⟨tv2, rfl, h1011, ht2⟩
  refine ⟨_, rfl, ?_⟩
  rw [hge] at ht2
  refine RL.cu ((hu.trans h910).trans h1011) (SameTypes_eq w11 (ht1.up h1011) ht2) fun w12 hu h1112 => ?_
  repeat (first | refine RL.vv ?_ | refine RL.p ?_ | refine RL.nil ?_ | refine Sim.seq ?_ | refine Sim.region ?_ | refine Sim.block ?_ | refine Sim.skip ?_ | refine Sim.inBlock ?_ | refine Sim.exit rfl ?_ | refine Sim.condT rfl ?_ | refine Sim.condF rfl ?_)
  exact next (i + 1) _ _ ⟨by omega, (((h58.trans h89).trans h910).trans h1011).trans h1112⟩ (by omega) sb
end Go.Proofs.Ytgckpmcdlciibaa
