/- People, made: of each thing's values the whole row is known, so that they can be written. -/
import Derived.Test.YtgckpmcdlciibabZ5
namespace Go.Proofs.Ytgckpmcdlciibab
open Go.RowKit
/-- a block of cells that may be written -/
def Row (w : World) (b : Nat) : Prop := ∃ t cur, Box w b t cur
theorem Box.row {w : World} {b : Nat} {t : TypeId} {cs : List Value} (h : Box w b t cs) : Row w b := ⟨t, cs, h⟩
def bxLay : Lay Thg where
  k := 3
  pos := by decide
  is := fun S w cs x => ∃ (b o : Nat) (c : Nat), cs = [.string x.type, .string x.key, .slice (some ⟨b, o, none⟩) 1 c] ∧ S b ∧ Row w b ∧ SliceOf valLay S w (.slice (some ⟨b, o, none⟩) 1 c) x.vals
  len := by rintro S w cs x ⟨b, o, c, rfl, _⟩; rfl
  keep := fun ⟨b, o, c, h, hb, ⟨t, cur, hr⟩, hs⟩ hk => ⟨b, o, c, h, hb, ⟨t, cur, hr.keep hk hb⟩, hs.keep hk⟩
  mono := fun ⟨b, o, c, h, hb, hr, hs⟩ hk => ⟨b, o, c, h, hk _ hb, hr, hs.mono hk⟩
  old := fun ⟨b, o, c, h, hb, ⟨t, cur, hr⟩, hs⟩ => ⟨b, o, c, h, ⟨hb, hr.lt⟩, ⟨t, cur, hr⟩, hs.old⟩
instance : OneC bxLay := ⟨by
  rintro S w cs x ⟨b, o, c, rfl, _⟩ y hy
  simp only [List.mem_cons, List.not_mem_nil, or_false] at hy
  rcases hy with rfl | rfl | rfl <;> rfl⟩
theorem SliceOf.bx {S : Nat → Prop} {w : World} {v : Value} {xs : List Thg} (h : SliceOf bxLay S w v xs) : SliceOf thgLay S w v xs := by
  obtain ⟨a, c, rfl, h1, h2, h3⟩ := h
  refine ⟨a, c, rfl, h1, h2, fun hp => ?_⟩
  obtain ⟨b, o, rfl, hb, he⟩ := h3 hp
  refine ⟨b, o, rfl, hb, fun i x hx => ?_⟩
  obtain ⟨cs, hc, b2, o2, c2, rfl, _, _, hs⟩ := he i x hx
  exact ⟨_, hc, _, rfl, hs⟩
/-- people, in memory: the services' row is one's own -/
structure PplB (w0 w : World) (bl : Nat) (v1 v2 v3 v4 v5 : Value) (xs ys : List Thg) : Prop where
  at_ : w0.heap.size ≤ bl
  box : Box w bl 70 [v1, .slice none 0 0, v2, v3, v4, v5]
  t1 : SliceOf typLay (fun b => w0.heap.size ≤ b ∧ b ≠ bl) w v1 typA
  x1 : SliceOf bxLay (fun b => w0.heap.size ≤ b ∧ b ≠ bl) w v2 xs
  t2 : SliceOf typLay (fun b => w0.heap.size ≤ b ∧ b ≠ bl) w v3 typB
  c2 : SliceOf chgLay (fun b => w0.heap.size ≤ b ∧ b ≠ bl) w v4 chgB
  x2 : SliceOf bxLay (fun b => w0.heap.size ≤ b ∧ b ≠ bl) w v5 ys
theorem PplB.sl {w0 w : World} {bl : Nat} {v1 v2 v3 v4 v5 : Value} {xs ys : List Thg} (h : PplB w0 w bl v1 v2 v3 v4 v5 xs ys) : SliceOf svcLay (fun b => w0.heap.size ≤ b) w (.slice (some ⟨bl, 0, none⟩) 2 2) [userS xs, manS ys] :=
  SliceOf.lit2 [v1, .slice none 0 0, v2] [v3, v4, v5] _ _ h.box.at h.at_ ⟨_, _, _, rfl, h.t1.mono fun _ hb => hb.1, SliceOf.nil _ _ _, (h.x1.bx).mono fun _ hb => hb.1⟩ ⟨_, _, _, rfl, h.t2.mono fun _ hb => hb.1, h.c2.mono fun _ hb => hb.1, (h.x2.bx).mono fun _ hb => hb.1⟩
set_option maxHeartbeats 4000000 in
theorem peopleB_any (n : Nat) (hn : n ≤ 40) (w : World) : Calls Try.prog 18 #[.int .i64 (n : Int)] w fun en w' => ∃ bl v1 v2 v3 v4 v5, en = .returned (.slice (some ⟨bl, 0, none⟩) 2 2) ∧ Up w w' ∧ PplB w w' bl v1 v2 v3 v4 v5 ((List.range n).map userM) ((List.range n).map (manM n)) := by
  refine calls_of_sim Try.func18 rfl (Nat.le_of_ble_eq_true rfl) ?_
  repeat (first | refine RL.vv ?_ | refine RL.p ?_ | refine RL.nil ?_ | refine Sim.seq ?_ | refine Sim.region ?_ | refine Sim.block ?_ | refine Sim.skip ?_ | refine Sim.inBlock ?_ | refine Sim.exit rfl ?_ | refine Sim.condT rfl ?_ | refine Sim.condF rfl ?_)
  refine RL.cu (.refl w) (word_any sNamE w) fun w1 hu1 _ => ?_
  refine RL.bu (el := 86) [.string sNamE, .int .i64 1, .string ⟨#[]⟩] hu1 fun bf w2 hef hBf hu2 _ hbf => ?_
  refine RL.val trivial rfl (y_build (v := .agg #[.string sUser, .slice (some ⟨bf, 0, none⟩) 1 1]) rfl (fun w => by kernel_rfl)) ?_
  refine RL.bu (el := 80) [.string sUser, .slice (some ⟨bf, 0, none⟩) 1 1] hu2 fun bt w3 het hBt hu3 h23 hbt => ?_
  have hbf := hbf.up h23
  refine RL.val trivial rfl (y_build (v := .agg #[.slice (some ⟨bt, 0, none⟩) 1 1, .slice none 0 0, .slice none 0 0]) rfl (fun w => by kernel_rfl)) ?_
  refine RL.al hu3 fun b3 w4 he3 hB3 hu4 h34 hb3 => ?_
  have hlf := hbf.lt
  have hlt := hbt.lt
  have ht1 : SliceOf typLay (fun b => w.heap.size ≤ b ∧ b < b3) w4 (.slice (some ⟨bt, 0, none⟩) 1 1) typA := SliceOf.one (hbt.up h34) ⟨hBt, by omega⟩ ⟨_, rfl, SliceOf.one (hbf.up h34) ⟨hBf, by omega⟩ rfl⟩
  clear hbf hbt hef het hu1 hu2 hu3 h23
  refine RL.st hu4 hb3 hB3 fun w5 hu5 hbt5 hb3 => ?_
  have hb3 : Box w5 b3 70 [.slice (some ⟨bt, 0, none⟩) 1 1, .slice none 0 0, .slice none 0 0] := hb3
  have ht1 := ht1.bt hbt5 fun b hb => by omega
  have hl3 := hb3.lt
  clear hbt5 hu4 h34
  repeat (first | refine RL.vv ?_ | refine RL.p ?_ | refine RL.nil ?_ | refine Sim.seq ?_ | refine Sim.region ?_ | refine Sim.block ?_ | refine Sim.skip ?_ | refine Sim.inBlock ?_ | refine Sim.exit rfl ?_ | refine Sim.condT rfl ?_ | refine Sim.condF rfl ?_)
  refine RL.val trivial rfl (y_build (v := .agg #[.string sUnder, .int .i64 3, .string sMan]) rfl (fun w => by kernel_rfl)) ?_
  refine RL.bu (el := 86) [.string sUnder, .int .i64 3, .string sMan] hu5 fun bf2 w6 hef2 hBf2 hu6 h56 hbf => ?_
  refine RL.val trivial rfl (y_build (v := .agg #[.string sMan, .slice (some ⟨bf2, 0, none⟩) 1 1]) rfl (fun w => by kernel_rfl)) ?_
  refine RL.bu (el := 80) [.string sMan, .slice (some ⟨bf2, 0, none⟩) 1 1] hu6 fun bt2 w7 het2 hBt2 hu7 h67 hbt => ?_
  have hbf := hbf.up h67
  refine RL.val trivial rfl (y_build (v := .agg #[.int .i64 1, .string sMan, .string ⟨#[]⟩, .string sUser]) rfl (fun w => by kernel_rfl)) ?_
  refine RL.bu (el := 109) [.int .i64 1, .string sMan, .string ⟨#[]⟩, .string sUser] hu7 fun bc w8 hec hBc hu8 h78 hbc => ?_
  have hbf := hbf.up h78
  have hbt := hbt.up h78
  refine RL.val trivial rfl (y_build (v := .agg #[.slice (some ⟨bt2, 0, none⟩) 1 1, .slice (some ⟨bc, 0, none⟩) 1 1, .slice none 0 0]) rfl (fun w => by kernel_rfl)) ?_
  refine RL.al hu8 fun b4 w9 he4 hB4 hu9 h89 hb4 => ?_
  have hlf := hbf.lt
  have hlt := hbt.lt
  have hlc := hbc.lt
  have hs56 := h56.size
  have hs67 := h67.size
  have hs78 := h78.size
  have ht2 : SliceOf typLay (fun b => w.heap.size ≤ b ∧ b < b4 ∧ b ≠ b3) w9 (.slice (some ⟨bt2, 0, none⟩) 1 1) typB := SliceOf.one (hbt.up h89) ⟨hBt2, by omega, by omega⟩ ⟨_, rfl, SliceOf.one (hbf.up h89) ⟨hBf2, by omega, by omega⟩ rfl⟩
  have hc2 : SliceOf chgLay (fun b => w.heap.size ≤ b ∧ b < b4 ∧ b ≠ b3) w9 (.slice (some ⟨bc, 0, none⟩) 1 1) chgB := SliceOf.one (hbc.up h89) ⟨hBc, by omega, by omega⟩ rfl
  have h59 := ((h56.trans h67).trans h78).trans h89
  have ht1 := ht1.up h59
  have hb3 := hb3.up h59
  clear hbf hbt hbc hef2 het2 hec hu5 hu6 hu7 hu8 h56 h67 h78 h89
  refine RL.st hu9 hb4 hB4 fun w10 hu10 hbt10 hb4 => ?_
  have hb4 : Box w10 b4 70 [.slice (some ⟨bt2, 0, none⟩) 1 1, .slice (some ⟨bc, 0, none⟩) 1 1, .slice none 0 0] := hb4
  have hn34 : b3 ≠ b4 := by omega
  have hlt34 : b3 < b4 := by omega
  have hb3 := hb3.but hbt10 hn34
  have ht1 := ht1.bt hbt10 fun b hb => by omega
  have ht2 := ht2.bt hbt10 fun b hb => by omega
  have hc2 := hc2.bt hbt10 fun b hb => by omega
  have hl3 := hb3.lt
  have hl4 := hb4.lt
  clear hbt10 hu9 h59 hlf hlt hlc hs56 hs67 hs78
  have hB0 := hu10.size
  repeat (first | refine RL.vv ?_ | refine RL.p ?_ | refine RL.nil ?_ | refine Sim.seq ?_ | refine Sim.region ?_ | refine Sim.block ?_ | refine Sim.skip ?_ | refine Sim.inBlock ?_ | refine Sim.exit rfl ?_ | refine Sim.condT rfl ?_ | refine Sim.condF rfl ?_)
  have hp0 : Pair bxLay 65 0 w10.heap.size w10 (.slice none 0 0) (.slice none 0 0) [] [] := Pair.nil (Nat.zero_le _)
  refine Sim.loop (σ := Nat × Value × Value) (fun st => [(0, .int .i64 (n : Int)), (3, .pointer (some ⟨b3, 0, none⟩)), (4, .pointer (some ⟨b4, 0, none⟩)), (20, .int .i64 (n : Int)), (21, .int .i64 (st.1 : Int))])
    (fun st w' => st.1 ≤ n ∧ Up w w' ∧ Els (fun b => b = b3 ∨ b = b4 ∨ w10.heap.size ≤ b) w10 w' ∧ Box w' b3 70 [.slice (some ⟨bt, 0, none⟩) 1 1, .slice none 0 0, st.2.1] ∧ Box w' b4 70 [.slice (some ⟨bt2, 0, none⟩) 1 1, .slice (some ⟨bc, 0, none⟩) 1 1, st.2.2] ∧
      Pair bxLay 65 0 w10.heap.size w' st.2.1 st.2.2 ((List.range st.1).map userM) ((List.range st.1).map (manM n))) (fun st => n - st.1) (0, .slice none 0 0, .slice none 0 0) sb ⟨Nat.zero_le _, hu10, Els.refl _ _, hb3, hb4, hp0⟩ ?_
  clear hb3 hb4 hp0
  rintro ⟨i, v1, v2⟩ w11 ⟨hi, hu, hels, hb3, hb4, hpr⟩ next
  simp only at hi hb3 hb4 hpr next ⊢
  have hs11 := hels.size
  obtain ⟨p1, pn1, pc1, rfl⟩ := hpr.fst.sh
  obtain ⟨p2, pn2, pc2, rfl⟩ := hpr.snd.sh
  by_cases hlt : (i : Int) < (n : Int)
  · repeat (first | refine RL.vv ?_ | refine RL.p ?_ | refine RL.nil ?_ | refine Sim.seq ?_ | refine Sim.region ?_ | refine Sim.block ?_ | refine Sim.skip ?_ | refine Sim.inBlock ?_ | refine Sim.exit rfl ?_ | refine Sim.condT rfl ?_ | refine Sim.condF rfl ?_)
    refine RL.cu hu (key_any i (by omega) w11) fun w12 hu12 h1112 => ?_
    have hels := hels.trans (Els.of_up h1112)
    have hb3 := hb3.up h1112
    have hb4 := hb4.up h1112
    have hpr := hpr.up h1112
    have hs12 := hels.size
    clear h1112 hu
    repeat (first | refine RL.vv ?_ | refine RL.p ?_ | refine RL.nil ?_ | refine Sim.seq ?_ | refine Sim.region ?_ | refine Sim.block ?_ | refine Sim.skip ?_ | refine Sim.inBlock ?_ | refine Sim.exit rfl ?_ | refine Sim.condT rfl ?_ | refine Sim.condF rfl ?_)
    refine RL.vv ?_ (hy := y_cat rfl rfl (by show 1 + 3 ≤ _; decide))
    refine RL.val trivial rfl (y_build (v := .agg #[.string sNamE, .string (nkeyM i), .slice none 0 0]) rfl (fun w => by kernel_rfl)) ?_
    refine RL.bu (el := 62) [.string sNamE, .string (nkeyM i), .slice none 0 0] hu12 fun bv w13 hev hBv hu13 h13 hbv => ?_
    refine RL.val trivial rfl (y_build (v := .agg #[.string sUser, .string (keyM i), .slice (some ⟨bv, 0, none⟩) 1 1]) rfl (fun w => by kernel_rfl)) ?_
    refine RL.bu (el := 65) [.string sUser, .string (keyM i), .slice (some ⟨bv, 0, none⟩) 1 1] hu13 fun bx w14 hex hBx hu14 h14 hbx => ?_
    have hlv := hbv.lt
    have hsz13 := h13.size
    have hsz14 := h14.size
    have hn1 : ∀ b, w12.heap.size ≤ b → some b ≠ Value.ownBlock (.slice p1 pn1 pc1) ∧ some b ≠ Value.ownBlock (.slice p2 pn2 pc2) := fun b hb => ⟨hpr.fst.ne hb, hpr.snd.ne hb⟩
    have h1214 := h13.trans h14
    have hels := hels.trans (Els.of_up h1214)
    have hb3 := hb3.up h1214
    have hb4 := hb4.up h1214
    have hpr := hpr.up h1214
    refine RL.app (L := bxLay) (el := 65) (S := fun b => b < 0 ∨ (w10.heap.size ≤ b ∧ some b ≠ Value.ownBlock (.slice p2 pn2 pc2))) (B := w10.heap.size) (ys := [userM i]) hu14 hpr.fst
      (SliceOf.one hbx ⟨.inr ⟨by omega, (hn1 bx (by omega)).2⟩, (hn1 bx (by omega)).1⟩ ⟨_, _, _, rfl, ⟨.inr ⟨by omega, (hn1 bv (by omega)).2⟩, (hn1 bv (by omega)).1⟩, (hbv.up h14).row, SliceOf.one (hbv.up h14) ⟨.inr ⟨by omega, (hn1 bv (by omega)).2⟩, (hn1 bv (by omega)).1⟩ ⟨_, rfl, SliceOf.nil _ _ _⟩⟩) (by simp only [List.length_map, List.length_range, List.length_cons, List.length_nil]; omega) hB0 (by omega) fun v1' w15 hu15 ho1 hg hv => ?_
    have hels := hels.trans (Els.of_grown hg fun g hg' => .inr (.inr (hpr.fst.lt g hg').1))
    have hb3 := hb3.grown hg (hpr.fst.ne' (by omega))
    have hb4 := hb4.grown hg (hpr.fst.ne' (by omega))
    have hpr := hpr.step hg ho1 hv
    obtain ⟨r1, rn1, rc1, rfl⟩ := ho1.sh
    clear hbv hbx hu12 hu13 hu14 h13 h14 h1214 hn1 ho1 hg hv hev hex
    repeat (first | refine RL.vv ?_ | refine RL.p ?_ | refine RL.nil ?_ | refine Sim.seq ?_ | refine Sim.region ?_ | refine Sim.block ?_ | refine Sim.skip ?_ | refine Sim.inBlock ?_ | refine Sim.exit rfl ?_ | refine Sim.condT rfl ?_ | refine Sim.condF rfl ?_)
    refine RL.st hu15 hb3 hB3 fun w16 hu16 hbt16 hb3 => ?_
    have hb3 : Box w16 b3 70 [.slice (some ⟨bt, 0, none⟩) 1 1, .slice none 0 0, .slice r1 rn1 rc1] := hb3
    have hb4 := hb4.but hbt16 hn34.symm
    have hels := hels.trans (Els.of_but hbt16 (.inl rfl))
    have hpr := hpr.but hbt16 (by omega) (by omega)
    have hs16 := hels.size
    clear hbt16 hu15
    repeat (first | refine RL.vv ?_ | refine RL.p ?_ | refine RL.nil ?_ | refine Sim.seq ?_ | refine Sim.region ?_ | refine Sim.block ?_ | refine Sim.skip ?_ | refine Sim.inBlock ?_ | refine Sim.exit rfl ?_ | refine Sim.condT rfl ?_ | refine Sim.condF rfl ?_)
    refine RL.val trivial rfl (y_build (v := .agg #[.string sUnder, .string ⟨#[]⟩, .slice none 0 0]) rfl (fun w => by kernel_rfl)) ?_
    refine RL.al hu16 fun b7 w17 he7 hB7 hu17 h17 hb7 => ?_
    have hels := hels.trans (Els.of_up h17)
    have hb3 := hb3.up h17
    have hb4 := hb4.up h17
    have hpr' := hpr.up h17
    have hn7 : some b7 ≠ Value.ownBlock (.slice r1 rn1 rc1) ∧ some b7 ≠ Value.ownBlock (.slice p2 pn2 pc2) := ⟨hpr.fst.ne (by omega), hpr.snd.ne (by omega)⟩
    refine RL.st hu17 hb7 hB7 fun w18 hu18 hbt18 hb7 => ?_
    have hb7 : Box w18 b7 62 [.string sUnder, .string ⟨#[]⟩, .slice none 0 0] := hb7
    have h1618 : Up w16 w18 := Up.but h17 hbt18 (by omega)
    have hb3 := hb3.but hbt18 (by omega)
    have hb4 := hb4.but hbt18 (by omega)
    have hels := hels.trans (Els.of_but hbt18 (.inr (.inr (by omega))))
    have hpr16 := hpr
    have hpr := hpr.up h1618
    have hs18 := hels.size
    clear hbt18 hu17 hu16 h17 hpr'
    refine RL.nil ?_
    refine Sim.seq ?_
    refine Sim.cutX (σ := Value) (fun _ => [(0, .int .i64 (n : Int)), (3, .pointer (some ⟨b3, 0, none⟩)), (4, .pointer (some ⟨b4, 0, none⟩)), (5, .int .i64 (i : Int)), (6, .string (keyM i)), (7, .pointer (some ⟨b7, 0, none⟩)), (20, .int .i64 (n : Int)), (21, .int .i64 (i : Int))])
      (fun kv w' => Up w w' ∧ Els (fun b => b = b3 ∨ b = b4 ∨ w10.heap.size ≤ b) w10 w' ∧ Box w' b3 70 [.slice (some ⟨bt, 0, none⟩) 1 1, .slice none 0 0, .slice r1 rn1 rc1] ∧ Box w' b4 70 [.slice (some ⟨bt2, 0, none⟩) 1 1, .slice (some ⟨bc, 0, none⟩) 1 1, .slice p2 pn2 pc2] ∧
        Pair bxLay 65 0 w10.heap.size w' (.slice r1 rn1 rc1) (.slice p2 pn2 pc2) (((List.range i).map userM) ++ [userM i]) ((List.range i).map (manM n)) ∧ Box w' b7 62 [.string sUnder, .string ⟨#[]⟩, kv] ∧ SliceOf strLay (fun b => w10.heap.size ≤ b ∧ some b ≠ Value.ownBlock (.slice r1 rn1 rc1) ∧ some b ≠ Value.ownBlock (.slice p2 pn2 pc2)) w' kv (if i + 1 < n then [keyM (i + 1)] else [])) (fun k' next3 => ?_) ?_
    · by_cases hlt2 : ((i + 1 : Nat) : Int) < (n : Int)
      · rw [if_pos (by omega)] at next3
        repeat (first | refine RL.vv ?_ | refine RL.p ?_ | refine RL.nil ?_ | refine Sim.seq ?_ | refine Sim.region ?_ | refine Sim.block ?_ | refine Sim.skip ?_ | refine Sim.inBlock ?_ | refine Sim.exit rfl ?_ | refine Sim.condT rfl ?_ | refine Sim.condF rfl ?_)
        refine RL.cu hu18 (key_any (i + 1) (by omega) w18) fun w19 hu19 h19 => ?_
        refine RL.bu (el := 9) [.string (keyM (i + 1))] hu19 fun bs w20 hes hBs hu20 h20 hbs => ?_
        have h1820 := h19.trans h20
        have hls := h19.size
        have hls2 := h20.size
        have hb3 := hb3.up h1820
        have hb4 := hb4.up h1820
        have hl7 := hb7.lt
        have hb7 := hb7.up h1820
        have hels := hels.trans (Els.of_up h1820)
        have hn20 : some bs ≠ Value.ownBlock (.slice r1 rn1 rc1) ∧ some bs ≠ Value.ownBlock (.slice p2 pn2 pc2) := ⟨hpr.fst.ne (by omega), hpr.snd.ne (by omega)⟩
        have hn7s : bs ≠ b7 := by omega
        repeat (first | refine RL.vv ?_ | refine RL.p ?_ | refine RL.nil ?_ | refine Sim.seq ?_ | refine Sim.region ?_ | refine Sim.block ?_ | refine Sim.skip ?_ | refine Sim.inBlock ?_ | refine Sim.exit rfl ?_ | refine Sim.condT rfl ?_ | refine Sim.condF rfl ?_)
        refine RL.st hu20 hb7 hB7 fun w21 hu21 hbt21 hb7 => ?_
        repeat (first | refine RL.vv ?_ | refine RL.p ?_ | refine RL.nil ?_ | refine Sim.seq ?_ | refine Sim.region ?_ | refine Sim.block ?_ | refine Sim.skip ?_ | refine Sim.inBlock ?_ | refine Sim.exit rfl ?_ | refine Sim.condT rfl ?_ | refine Sim.condF rfl ?_)
        exact next3 (.slice (some ⟨bs, 0, none⟩) 1 1) w21 _ ⟨hu21, hels.trans (Els.of_but hbt21 (.inr (.inr (by omega)))), hb3.but hbt21 (by omega), hb4.but hbt21 (by omega), hpr16.up (Up.but (h1618.trans h1820) hbt21 (by omega)), hb7, (SliceOf.one (L := strLay) (S := fun b => w10.heap.size ≤ b ∧ some b ≠ Value.ownBlock (.slice r1 rn1 rc1) ∧ some b ≠ Value.ownBlock (.slice p2 pn2 pc2)) (hbs.but hbt21 hn7s) ⟨by omega, hn20⟩ rfl)⟩ sb
      · rw [if_neg (by omega)] at next3
        repeat (first | refine RL.vv ?_ | refine RL.p ?_ | refine RL.nil ?_ | refine Sim.seq ?_ | refine Sim.region ?_ | refine Sim.block ?_ | refine Sim.skip ?_ | refine Sim.inBlock ?_ | refine Sim.exit rfl ?_ | refine Sim.condT rfl ?_ | refine Sim.condF rfl ?_)
        exact next3 (.slice none 0 0) w18 _ ⟨hu18, hels, hb3, hb4, hpr, hb7, SliceOf.nil _ _ _⟩ sb
    clear hb3 hb4 hb7 hpr hels hu18 hpr16 h1618
    rintro kv w18 ⟨hu18, hels, hb3, hb4, hpr, hb7, hkv⟩
    have hs18 := hels.size
    have hka : ∃ ka kn kc, kv = .slice ka kn kc := by obtain ⟨ka, kc, rfl, _⟩ := id hkv; exact ⟨_, _, _, rfl⟩
    obtain ⟨ka, kn, kc, rfl⟩ := hka
    repeat (first | refine RL.vv ?_ | refine RL.p ?_ | refine RL.nil ?_ | refine Sim.seq ?_ | refine Sim.region ?_ | refine Sim.block ?_ | refine Sim.skip ?_ | refine Sim.inBlock ?_ | refine Sim.exit rfl ?_ | refine Sim.condT rfl ?_ | refine Sim.condF rfl ?_)
    refine RL.vv ?_ (v := .agg #[.string sUnder, .string ⟨#[]⟩, .slice ka kn kc]) (hy := y_loadA rfl hb7.at rfl)
    refine RL.bu (el := 62) [.string sUnder, .string ⟨#[]⟩, .slice ka kn kc] hu18 fun bv w19 hev hBv hu19 h19 hbv => ?_
    refine RL.val trivial rfl (y_build (v := .agg #[.string sMan, .string (keyM i), .slice (some ⟨bv, 0, none⟩) 1 1]) rfl (fun w => by kernel_rfl)) ?_
    refine RL.bu (el := 65) [.string sMan, .string (keyM i), .slice (some ⟨bv, 0, none⟩) 1 1] hu19 fun bx w20 hex hBx hu20 h20 hbx => ?_
    have hlv := hbv.lt
    have hsz13 := h19.size
    have hsz14 := h20.size
    have hn1 : ∀ b, w18.heap.size ≤ b → some b ≠ Value.ownBlock (.slice r1 rn1 rc1) ∧ some b ≠ Value.ownBlock (.slice p2 pn2 pc2) := fun b hb => ⟨hpr.fst.ne hb, hpr.snd.ne hb⟩
    have h1820 := h19.trans h20
    have hels := hels.trans (Els.of_up h1820)
    have hb3 := hb3.up h1820
    have hb4 := hb4.up h1820
    have hpr := hpr.up h1820
    have hkv := hkv.up h1820
    refine RL.app (L := bxLay) (el := 65) (S := fun b => b < 0 ∨ (w10.heap.size ≤ b ∧ some b ≠ Value.ownBlock (.slice r1 rn1 rc1))) (B := w10.heap.size) (ys := [manM n i]) hu20 hpr.snd
      (SliceOf.one hbx ⟨.inr ⟨by omega, (hn1 bx (by omega)).1⟩, (hn1 bx (by omega)).2⟩ ⟨_, _, _, rfl, ⟨.inr ⟨by omega, (hn1 bv (by omega)).1⟩, (hn1 bv (by omega)).2⟩, (hbv.up h20).row, SliceOf.one (hbv.up h20) ⟨.inr ⟨by omega, (hn1 bv (by omega)).1⟩, (hn1 bv (by omega)).2⟩ ⟨_, rfl, hkv.mono fun b hb => ⟨.inr ⟨hb.1, hb.2.1⟩, hb.2.2⟩⟩⟩) (by simp only [List.length_map, List.length_range, List.length_cons, List.length_nil]; omega) hB0 (by omega) fun v2' w21 hu21 ho2 hg hv => ?_
    have hels := hels.trans (Els.of_grown hg fun g hg' => .inr (.inr (hpr.snd.lt g hg').1))
    have hb3 := hb3.grown hg (hpr.snd.ne' (by omega))
    have hb4 := hb4.grown hg (hpr.snd.ne' (by omega))
    have hpr := (hpr.symm.step hg ho2 hv).symm
    obtain ⟨r2, rn2, rc2, rfl⟩ := ho2.sh
    repeat (first | refine RL.vv ?_ | refine RL.p ?_ | refine RL.nil ?_ | refine Sim.seq ?_ | refine Sim.region ?_ | refine Sim.block ?_ | refine Sim.skip ?_ | refine Sim.inBlock ?_ | refine Sim.exit rfl ?_ | refine Sim.condT rfl ?_ | refine Sim.condF rfl ?_)
    refine RL.st hu21 hb4 hB4 fun w22 hu22 hbt22 hb4 => ?_
    repeat (first | refine RL.vv ?_ | refine RL.p ?_ | refine RL.nil ?_ | refine Sim.seq ?_ | refine Sim.region ?_ | refine Sim.block ?_ | refine Sim.skip ?_ | refine Sim.inBlock ?_ | refine Sim.exit rfl ?_ | refine Sim.condT rfl ?_ | refine Sim.condF rfl ?_)
    refine next (i + 1, .slice r1 rn1 rc1, .slice r2 rn2 rc2) w22 _ ⟨by simp only; omega, hu22, hels.trans (Els.of_but hbt22 (.inr (.inl rfl))), hb3.but hbt22 hn34, hb4, ?_⟩ (by simp only; omega) sb
    have hpr := hpr.but hbt22 (by omega) (by omega)
    simp only
    rw [List.range_succ, List.map_append, List.map_append]
    exact hpr
  obtain rfl : i = n := by omega
  repeat (first | refine RL.vv ?_ | refine RL.p ?_ | refine RL.nil ?_ | refine Sim.seq ?_ | refine Sim.region ?_ | refine Sim.block ?_ | refine Sim.skip ?_ | refine Sim.inBlock ?_ | refine Sim.exit rfl ?_ | refine Sim.condT rfl ?_ | refine Sim.condF rfl ?_)
  refine RL.vv ?_ (v := .agg #[.slice (some ⟨bt, 0, none⟩) 1 1, .slice none 0 0, .slice p1 pn1 pc1]) (hy := y_loadA rfl hb3.at rfl)
  refine RL.vv ?_ (v := .agg #[.slice (some ⟨bt2, 0, none⟩) 1 1, .slice (some ⟨bc, 0, none⟩) 1 1, .slice p2 pn2 pc2]) (hy := y_loadA rfl hb4.at rfl)
  refine RL.bu (el := 70) [.slice (some ⟨bt, 0, none⟩) 1 1, .slice none 0 0, .slice p1 pn1 pc1, .slice (some ⟨bt2, 0, none⟩) 1 1, .slice (some ⟨bc, 0, none⟩) 1 1, .slice p2 pn2 pc2] hu fun bl w12 hel hBl hu12 h1112 hbl => ?_
  repeat (first | refine RL.vv ?_ | refine RL.p ?_ | refine RL.nil ?_ | refine Sim.seq ?_ | refine Sim.region ?_ | refine Sim.block ?_ | refine Sim.skip ?_ | refine Sim.inBlock ?_ | refine Sim.exit rfl ?_ | refine Sim.condT rfl ?_ | refine Sim.condF rfl ?_)
  refine Sim.ret1 Try.func18 rfl rfl ⟨bl, _, _, _, _, _, rfl, hu12, hBl, hbl, ?_, ?_, ?_, ?_, ?_⟩
  · exact ((ht1.old.keep (Els.keepS hels fun b hb _ => by have q1 := hb.1; have q2 := hb.2; omega)).up h1112).mono fun b hb => ⟨hb.1.1, by have := hb.2; omega⟩
  · exact ((hpr.fst.sl (S' := fun b => w.heap.size ≤ b ∧ b < w11.heap.size) (fun b hb hlt _ => ⟨by rcases hb with hb | hb; exact absurd hb (Nat.not_lt_zero _); omega, hlt⟩) (fun g hg => by have := hpr.fst.lt g hg; omega)).up h1112).mono fun b hb => ⟨hb.1, by have := hb.2; omega⟩
  · exact ((ht2.old.keep (Els.keepS hels fun b hb _ => by have q1 := hb.1; have q2 := hb.2; omega)).up h1112).mono fun b hb => ⟨hb.1.1, by have := hb.2; omega⟩
  · exact ((hc2.old.keep (Els.keepS hels fun b hb _ => by have q1 := hb.1; have q2 := hb.2; omega)).up h1112).mono fun b hb => ⟨hb.1.1, by have := hb.2; omega⟩
  · exact ((hpr.snd.sl (S' := fun b => w.heap.size ≤ b ∧ b < w11.heap.size) (fun b hb hlt _ => ⟨by rcases hb with hb | hb; exact absurd hb (Nat.not_lt_zero _); omega, hlt⟩) (fun g hg => by have := hpr.snd.lt g hg; omega)).up h1112).mono fun b hb => ⟨hb.1, by have := hb.2; omega⟩
end Go.Proofs.Ytgckpmcdlciibab
