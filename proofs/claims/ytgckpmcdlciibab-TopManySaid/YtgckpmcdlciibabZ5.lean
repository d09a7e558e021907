/- Several texts in one: What the statements on the whole make: names of people. People, made. A text, asked of services; the closed fact of the whole. -/
import Derived.Test.YtgckpmcdlciibabZ4
import Derived.Test.YtgckpmcdlciibabZ3
import Derived.Laws.IdiomStrings
import Derived.Test.YtgckpmcdlciibabYEngV
import Derived.Test.YtgckpmcdlciibabZ1
namespace Go.Proofs.Ytgckpmcdlciibab
open Go.RowKit
section
variable {P : Program} {e : Env} {w : World} {ty t u : TypeId} {x y : Operand}
theorem run_intQuo {n m : Nat} (hm : 0 < m) (hn : n < 9223372036854775808) : (Op.intDiv .quo .i64 (n : Int) (m : Int)).run P w = .ok (.int .i64 ((n / m : Nat) : Int)) w := by
  have h1 : (n : Int).tdiv (m : Int) = ((n / m : Nat) : Int) := rfl
  have h0 := Nat.div_le_self n m
  generalize n / m = q at *
  have h2 : IntKind.i64.wrap (q : Int) = (q : Int) := wrap_i64 (by omega) (by omega)
  have h3 : ¬ (m : Int) = 0 := by omega
  unfold Op.intDiv
  rw [if_neg h3]
  simp only [h1, h2]
  rfl
theorem run_intRem {n m : Nat} (hm : 0 < m) : (Op.intDiv .rem .i64 (n : Int) (m : Int)).run P w = .ok (.int .i64 ((n % m : Nat) : Int)) w := by
  have h1 : (n : Int).tmod (m : Int) = ((n % m : Nat) : Int) := rfl
  have h3 : ¬ (m : Int) = 0 := by omega
  unfold Op.intDiv
  rw [if_neg h3]
  simp only [h1]
  rfl
theorem y_quo {n m q : Nat} (hx : e.ev x = some (.int .i64 (n : Int))) (hy : e.ev y = some (.int .i64 (m : Int))) (hm : 0 < m) (hq : n / m = q) (hn : n < 9223372036854775808) : Yld P (.binOp .quo t x y u) ty e w (.int .i64 (q : Int)) := Yld.mk fun ρ hρ => by
  have hg := run_eqGuard_int (P := P) .quo t x y .i64 .i64 (n : Int) (m : Int) w
  have h1 := run_intQuo (P := P) (w := w) hm hn
  rw [hq] at h1
  simp [xop, execOp, hρ x _ hx, hρ y _ hy, hg, binOp, h1]
theorem y_rem {n m q : Nat} (hx : e.ev x = some (.int .i64 (n : Int))) (hy : e.ev y = some (.int .i64 (m : Int))) (hm : 0 < m) (hq : n % m = q) : Yld P (.binOp .rem t x y u) ty e w (.int .i64 (q : Int)) := Yld.mk fun ρ hρ => by
  have hg := run_eqGuard_int (P := P) .rem t x y .i64 .i64 (n : Int) (m : Int) w
  have h1 := run_intRem (P := P) (w := w) (n := n) hm
  rw [hq] at h1
  simp [xop, execOp, hρ x _ hx, hρ y _ hy, hg, binOp, h1]
theorem y_u8 {n : Nat} [h1 : IsInt P t .i64] [h2 : IsInt P u .u8] (hx : e.ev x = some (.int .i64 (n : Int))) (hn : n < 256) : Yld P (.convert t u x) ty e w (.int .u8 (n : Int)) := Yld.mk fun ρ hρ => by
  have h3 := run_underlying h1.h w
  have h4 := run_underlying h2.h w
  have h5 : IntKind.u8.wrap (n : Int) = n := by
    have := IntKind.wrap_u8 (n : Int)
    rw [this]; omega
  simp [xop, execOp, hρ x _ hx, convert, h3, h4, Conv.intToInt, h5]
theorem y_bytes {el : TypeId} {b c : Nat} {l : List UInt8} (hs : P.underlying t = some (.slice el)) (he : P.underlying el = some (.int .u8)) (hd : P.underlying u = some .string) (hx : e.ev x = some (.slice (some ⟨b, 0, none⟩) l.length c)) (hb : Box w b el (l.map fun n => Value.int .u8 (n.toNat : Int))) : Yld P (.convert t u x) ty e w (.string ⟨l.toArray⟩) := Yld.mk fun ρ hρ => by
  have h := run_convert_bytes_back (P := P) w t u el ⟨b, 0, none⟩ c l hs he hd (fun j hj => by
    have := hb.at j (.int .u8 (l[j].toNat : Int)) (by rw [List.getElem?_map, List.getElem?_eq_getElem hj]; rfl)
    rw [addr_add]
    exact this)
  simp [xop, execOp, hρ x _ hx, h]
theorem y_cat {a b : Str} (hx : e.ev x = some (.string a)) (hy : e.ev y = some (.string b)) (hs : a.size + b.size ≤ 9223372036854775807) : Yld P (.binOp .add t x y u) ty e w (.string (a ++ b)) := Yld.mk fun ρ hρ => by
  simp [xop, execOp, hρ x _ hx, hρ y _ hy, binOp, go_sem, hs]
end
theorem key_any (n : Nat) (hn : n ≤ 100) (w : World) : Calls Try.prog 16 #[.int .i64 (n : Int)] w fun en w' => en = .returned (.string (keyM n)) ∧ Up w w' := by
  refine calls_of_sim Try.func16 rfl (Nat.le_of_ble_eq_true rfl) ?_
  repeat (first | refine RL.vv ?_ | refine RL.p ?_ | refine RL.nil ?_ | refine Sim.seq ?_ | refine Sim.region ?_ | refine Sim.block ?_ | refine Sim.skip ?_ | refine Sim.inBlock ?_ | refine Sim.exit rfl ?_ | refine Sim.condT rfl ?_ | refine Sim.condF rfl ?_)
  refine RL.vv ?_ (hy := y_quo (m := 20) rfl rfl (by decide) rfl (by omega))
  refine RL.vv ?_ (hy := y_add (d := ((97 + n / 20 : Nat) : Int)) rfl rfl (by omega) (by omega) (by omega))
  refine RL.vv ?_ (hy := y_u8 rfl (by omega))
  refine RL.vv ?_
  refine RL.vv ?_ (hy := y_rem (m := 20) rfl rfl (by decide) rfl)
  refine RL.vv ?_ (hy := y_add (d := ((97 + n % 20 : Nat) : Int)) rfl rfl (by omega) (by omega) (by omega))
  refine RL.vv ?_ (hy := y_u8 rfl (by omega))
  refine RL.bu (el := 5) [.int .u8 ((97 + n / 20 : Nat) : Int), .int .u8 ((97 + n % 20 : Nat) : Int)] (.refl w) fun b w1 _ _ hu _ hb => ?_
  have hb : Box w1 b 5 ([UInt8.ofNat (97 + n / 20), UInt8.ofNat (97 + n % 20)].map fun n => Value.int .u8 (n.toNat : Int)) := by
    have e1 : (UInt8.ofNat (97 + n / 20)).toNat = 97 + n / 20 := by rw [UInt8.toNat_ofNat']; omega
    have e2 : (UInt8.ofNat (97 + n % 20)).toNat = 97 + n % 20 := by rw [UInt8.toNat_ofNat']; omega
    simp only [List.map_cons, List.map_nil, e1, e2]
    exact hb
  refine RL.vv ?_ (hy := y_bytes (l := [UInt8.ofNat (97 + n / 20), UInt8.ofNat (97 + n % 20)]) (by kernel_rfl) (by kernel_rfl) (by kernel_rfl) rfl hb)
  refine RL.vv ?_ (hy := y_cat rfl rfl (by show 1 + 2 ≤ _; decide))
  repeat (first | refine RL.vv ?_ | refine RL.p ?_ | refine RL.nil ?_ | refine Sim.seq ?_ | refine Sim.region ?_ | refine Sim.block ?_ | refine Sim.skip ?_ | refine Sim.inBlock ?_ | refine Sim.exit rfl ?_ | refine Sim.condT rfl ?_ | refine Sim.condF rfl ?_)
  exact Sim.ret1 Try.func16 rfl rfl ⟨rfl, hu⟩
theorem word_any (s : Str) (w : World) : Calls Try.prog 43 #[.string s] w fun en w' => en = .returned (.agg #[.string s, .int .i64 1, .string ⟨#[]⟩]) ∧ Up w w' := by
  refine calls_of_sim Try.func43 rfl (Nat.le_of_ble_eq_true rfl) ?_
  repeat (first | refine RL.vv ?_ | refine RL.p ?_ | refine RL.nil ?_ | refine Sim.seq ?_ | refine Sim.region ?_ | refine Sim.block ?_ | refine Sim.skip ?_ | refine Sim.inBlock ?_ | refine Sim.exit rfl ?_ | refine Sim.condT rfl ?_ | refine Sim.condF rfl ?_)
  refine RL.al (.refl w) fun b w1 _ hB hu _ hb => ?_
  repeat (first | refine RL.vv ?_ | refine RL.p ?_ | refine RL.nil ?_ | refine Sim.seq ?_ | refine Sim.region ?_ | refine Sim.block ?_ | refine Sim.skip ?_ | refine Sim.inBlock ?_ | refine Sim.exit rfl ?_ | refine Sim.condT rfl ?_ | refine Sim.condF rfl ?_)
  refine RL.val trivial rfl (y_build (v := .agg #[.string s, .int .i64 1, .string ⟨#[]⟩]) rfl (fun w => by kernel_rfl)) ?_
  refine RL.st hu hb hB fun w2 hu2 _ hb => ?_
  repeat (first | refine RL.vv ?_ | refine RL.p ?_ | refine RL.nil ?_ | refine Sim.seq ?_ | refine Sim.region ?_ | refine Sim.block ?_ | refine Sim.skip ?_ | refine Sim.inBlock ?_ | refine Sim.exit rfl ?_ | refine Sim.condT rfl ?_ | refine Sim.condF rfl ?_)
  exact Sim.retC Try.func43 rfl rfl hb.at rfl ⟨rfl, hu2⟩
end Go.Proofs.Ytgckpmcdlciibab

namespace Go.Proofs.Ytgckpmcdlciibab
open Go.RowKit
def typA : List Typ := [⟨sUser, [⟨sNamE, 1, sNil⟩]⟩]
def typB : List Typ := [⟨sMan, [⟨sUnder, 3, sMan⟩]⟩]
def chgB : List Chg := [⟨1, sMan, sNil, sUser⟩]
/-- people, in memory: the services' row is one's own -/
structure PplAt (w0 w : World) (bl : Nat) (v1 v2 v3 v4 v5 : Value) (xs ys : List Thg) : Prop where
  at_ : w0.heap.size ≤ bl
  box : Box w bl 70 [v1, .slice none 0 0, v2, v3, v4, v5]
  t1 : SliceOf typLay (fun b => w0.heap.size ≤ b ∧ b ≠ bl) w v1 typA
  x1 : SliceOf thgLay (fun b => w0.heap.size ≤ b ∧ b ≠ bl) w v2 xs
  t2 : SliceOf typLay (fun b => w0.heap.size ≤ b ∧ b ≠ bl) w v3 typB
  c2 : SliceOf chgLay (fun b => w0.heap.size ≤ b ∧ b ≠ bl) w v4 chgB
  x2 : SliceOf thgLay (fun b => w0.heap.size ≤ b ∧ b ≠ bl) w v5 ys
theorem PplAt.sl {w0 w : World} {bl : Nat} {v1 v2 v3 v4 v5 : Value} {xs ys : List Thg} (h : PplAt w0 w bl v1 v2 v3 v4 v5 xs ys) : SliceOf svcLay (fun b => w0.heap.size ≤ b) w (.slice (some ⟨bl, 0, none⟩) 2 2) [userS xs, manS ys] :=
  SliceOf.lit2 [v1, .slice none 0 0, v2] [v3, v4, v5] _ _ h.box.at h.at_ ⟨_, _, _, rfl, h.t1.mono fun _ hb => hb.1, SliceOf.nil _ _ _, h.x1.mono fun _ hb => hb.1⟩ ⟨_, _, _, rfl, h.t2.mono fun _ hb => hb.1, h.c2.mono fun _ hb => hb.1, h.x2.mono fun _ hb => hb.1⟩
set_option maxHeartbeats 4000000 in
theorem people_any (n : Nat) (hn : n ≤ 40) (w : World) : Calls Try.prog 18 #[.int .i64 (n : Int)] w fun en w' => ∃ bl v1 v2 v3 v4 v5, en = .returned (.slice (some ⟨bl, 0, none⟩) 2 2) ∧ Up w w' ∧ PplAt w w' bl v1 v2 v3 v4 v5 ((List.range n).map userM) ((List.range n).map (manM n)) := by
  refine calls_of_sim Try.func18 rfl (Nat.le_of_ble_eq_true rfl) ?_
  repeat (first | refine RL.vv ?_ | refine RL.p ?_ | refine RL.nil ?_ | refine Sim.seq ?_ | refine Sim.region ?_ | refine Sim.block ?_ | refine Sim.skip ?_ | refine Sim.inBlock ?_ | refine Sim.exit rfl ?_ | refine Sim.condT rfl ?_ | refine Sim.condF rfl ?_)
  refine RL.cu (.refl w) (word_any sNamE w) fun w1 hu1 _ => ?_
  refine RL.bu (el := 86) [.string sNamE, .int .i64 1, .string ⟨#[]⟩] hu1 fun bf w2 hef hBf hu2 _ hbf => ?_
  refine RL.val trivial rfl (y_build (v := .agg #[.string sUser, .slice (some ⟨bf, 0, none⟩) 1 1]) rfl (fun w => by kernel_rfl)) ?_
  refine RL.bu (el := 80) [.string sUser, .slice (some ⟨bf, 0, none⟩) 1 1] hu2 fun bt w3 het hBt hu3 h23 hbt => ?_
  have hbf := hbf.up h23
  refine RL.val trivial rfl (y_build (v := .agg #[.slice (some ⟨bt, 0, none⟩) 1 1, .slice none 0 0, .slice none 0 0]) rfl (fun w => by kernel_rfl)) ?_
  refine RL.al hu3 fun b3 w4 he3 hB3 hu4 h34 hb3 => ?_
  have hlf := hbf.lt
  have hlt := hbt.lt
  have ht1 : SliceOf typLay (fun b => w.heap.size ≤ b ∧ b < b3) w4 (.slice (some ⟨bt, 0, none⟩) 1 1) typA := SliceOf.one (hbt.up h34) ⟨hBt, by omega⟩ ⟨_, rfl, SliceOf.one (hbf.up h34) ⟨hBf, by omega⟩ rfl⟩
  clear hbf hbt hef het hu1 hu2 hu3 h23
  refine RL.st hu4 hb3 hB3 fun w5 hu5 hbt5 hb3 => ?_
  have hb3 : Box w5 b3 70 [.slice (some ⟨bt, 0, none⟩) 1 1, .slice none 0 0, .slice none 0 0] := hb3
  have ht1 := ht1.bt hbt5 fun b hb => by omega
  have hl3 := hb3.lt
  clear hbt5 hu4 h34
  repeat (first | refine RL.vv ?_ | refine RL.p ?_ | refine RL.nil ?_ | refine Sim.seq ?_ | refine Sim.region ?_ | refine Sim.block ?_ | refine Sim.skip ?_ | refine Sim.inBlock ?_ | refine Sim.exit rfl ?_ | refine Sim.condT rfl ?_ | refine Sim.condF rfl ?_)
  refine RL.val trivial rfl (y_build (v := .agg #[.string sUnder, .int .i64 3, .string sMan]) rfl (fun w => by kernel_rfl)) ?_
  refine RL.bu (el := 86) [.string sUnder, .int .i64 3, .string sMan] hu5 fun bf2 w6 hef2 hBf2 hu6 h56 hbf => ?_
  refine RL.val trivial rfl (y_build (v := .agg #[.string sMan, .slice (some ⟨bf2, 0, none⟩) 1 1]) rfl (fun w => by kernel_rfl)) ?_
  refine RL.bu (el := 80) [.string sMan, .slice (some ⟨bf2, 0, none⟩) 1 1] hu6 fun bt2 w7 het2 hBt2 hu7 h67 hbt => ?_
  have hbf := hbf.up h67
  refine RL.val trivial rfl (y_build (v := .agg #[.int .i64 1, .string sMan, .string ⟨#[]⟩, .string sUser]) rfl (fun w => by kernel_rfl)) ?_
  refine RL.bu (el := 109) [.int .i64 1, .string sMan, .string ⟨#[]⟩, .string sUser] hu7 fun bc w8 hec hBc hu8 h78 hbc => ?_
  have hbf := hbf.up h78
  have hbt := hbt.up h78
  refine RL.val trivial rfl (y_build (v := .agg #[.slice (some ⟨bt2, 0, none⟩) 1 1, .slice (some ⟨bc, 0, none⟩) 1 1, .slice none 0 0]) rfl (fun w => by kernel_rfl)) ?_
  refine RL.al hu8 fun b4 w9 he4 hB4 hu9 h89 hb4 => ?_
  have hlf := hbf.lt
  have hlt := hbt.lt
  have hlc := hbc.lt
  have hs56 := h56.size
  have hs67 := h67.size
  have hs78 := h78.size
  have ht2 : SliceOf typLay (fun b => w.heap.size ≤ b ∧ b < b4 ∧ b ≠ b3) w9 (.slice (some ⟨bt2, 0, none⟩) 1 1) typB := SliceOf.one (hbt.up h89) ⟨hBt2, by omega, by omega⟩ ⟨_, rfl, SliceOf.one (hbf.up h89) ⟨hBf2, by omega, by omega⟩ rfl⟩
  have hc2 : SliceOf chgLay (fun b => w.heap.size ≤ b ∧ b < b4 ∧ b ≠ b3) w9 (.slice (some ⟨bc, 0, none⟩) 1 1) chgB := SliceOf.one (hbc.up h89) ⟨hBc, by omega, by omega⟩ rfl
  have h59 := ((h56.trans h67).trans h78).trans h89
  have ht1 := ht1.up h59
  have hb3 := hb3.up h59
  clear hbf hbt hbc hef2 het2 hec hu5 hu6 hu7 hu8 h56 h67 h78 h89
  refine RL.st hu9 hb4 hB4 fun w10 hu10 hbt10 hb4 => ?_
  have hb4 : Box w10 b4 70 [.slice (some ⟨bt2, 0, none⟩) 1 1, .slice (some ⟨bc, 0, none⟩) 1 1, .slice none 0 0] := hb4
  have hn34 : b3 ≠ b4 := by omega
  have hlt34 : b3 < b4 := by omega
  have hb3 := hb3.but hbt10 hn34
  have ht1 := ht1.bt hbt10 fun b hb => by omega
  have ht2 := ht2.bt hbt10 fun b hb => by omega
  have hc2 := hc2.bt hbt10 fun b hb => by omega
  have hl3 := hb3.lt
  have hl4 := hb4.lt
  clear hbt10 hu9 h59 hlf hlt hlc hs56 hs67 hs78
  have hB0 := hu10.size
  repeat (first | refine RL.vv ?_ | refine RL.p ?_ | refine RL.nil ?_ | refine Sim.seq ?_ | refine Sim.region ?_ | refine Sim.block ?_ | refine Sim.skip ?_ | refine Sim.inBlock ?_ | refine Sim.exit rfl ?_ | refine Sim.condT rfl ?_ | refine Sim.condF rfl ?_)
  have hp0 : Pair thgLay 65 0 w10.heap.size w10 (.slice none 0 0) (.slice none 0 0) [] [] := Pair.nil (Nat.zero_le _)
  refine Sim.loop (σ := Nat × Value × Value) (fun st => [(0, .int .i64 (n : Int)), (3, .pointer (some ⟨b3, 0, none⟩)), (4, .pointer (some ⟨b4, 0, none⟩)), (20, .int .i64 (n : Int)), (21, .int .i64 (st.1 : Int))])
    (fun st w' => st.1 ≤ n ∧ Up w w' ∧ Els (fun b => b = b3 ∨ b = b4 ∨ w10.heap.size ≤ b) w10 w' ∧ Box w' b3 70 [.slice (some ⟨bt, 0, none⟩) 1 1, .slice none 0 0, st.2.1] ∧ Box w' b4 70 [.slice (some ⟨bt2, 0, none⟩) 1 1, .slice (some ⟨bc, 0, none⟩) 1 1, st.2.2] ∧
      Pair thgLay 65 0 w10.heap.size w' st.2.1 st.2.2 ((List.range st.1).map userM) ((List.range st.1).map (manM n))) (fun st => n - st.1) (0, .slice none 0 0, .slice none 0 0) sb ⟨Nat.zero_le _, hu10, Els.refl _ _, hb3, hb4, hp0⟩ ?_
  clear hb3 hb4 hp0
  rintro ⟨i, v1, v2⟩ w11 ⟨hi, hu, hels, hb3, hb4, hpr⟩ next
  simp only at hi hb3 hb4 hpr next ⊢
  have hs11 := hels.size
  obtain ⟨p1, pn1, pc1, rfl⟩ := hpr.fst.sh
  obtain ⟨p2, pn2, pc2, rfl⟩ := hpr.snd.sh
  by_cases hlt : (i : Int) < (n : Int)
  · repeat (first | refine RL.vv ?_ | refine RL.p ?_ | refine RL.nil ?_ | refine Sim.seq ?_ | refine Sim.region ?_ | refine Sim.block ?_ | refine Sim.skip ?_ | refine Sim.inBlock ?_ | refine Sim.exit rfl ?_ | refine Sim.condT rfl ?_ | refine Sim.condF rfl ?_)
    refine RL.cu hu (key_any i (by omega) w11) fun w12 hu12 h1112 => ?_
    have hels := hels.trans (Els.of_up h1112)
    have hb3 := hb3.up h1112
    have hb4 := hb4.up h1112
    have hpr := hpr.up h1112
    have hs12 := hels.size
    clear h1112 hu
    repeat (first | refine RL.vv ?_ | refine RL.p ?_ | refine RL.nil ?_ | refine Sim.seq ?_ | refine Sim.region ?_ | refine Sim.block ?_ | refine Sim.skip ?_ | refine Sim.inBlock ?_ | refine Sim.exit rfl ?_ | refine Sim.condT rfl ?_ | refine Sim.condF rfl ?_)
    refine RL.vv ?_ (hy := y_cat rfl rfl (by show 1 + 3 ≤ _; decide))
    refine RL.val trivial rfl (y_build (v := .agg #[.string sNamE, .string (nkeyM i), .slice none 0 0]) rfl (fun w => by kernel_rfl)) ?_
    refine RL.bu (el := 62) [.string sNamE, .string (nkeyM i), .slice none 0 0] hu12 fun bv w13 hev hBv hu13 h13 hbv => ?_
    refine RL.val trivial rfl (y_build (v := .agg #[.string sUser, .string (keyM i), .slice (some ⟨bv, 0, none⟩) 1 1]) rfl (fun w => by kernel_rfl)) ?_
    refine RL.bu (el := 65) [.string sUser, .string (keyM i), .slice (some ⟨bv, 0, none⟩) 1 1] hu13 fun bx w14 hex hBx hu14 h14 hbx => ?_
    have hlv := hbv.lt
    have hsz13 := h13.size
    have hsz14 := h14.size
    have hn1 : ∀ b, w12.heap.size ≤ b → some b ≠ Value.ownBlock (.slice p1 pn1 pc1) ∧ some b ≠ Value.ownBlock (.slice p2 pn2 pc2) := fun b hb => ⟨hpr.fst.ne hb, hpr.snd.ne hb⟩
    have h1214 := h13.trans h14
    have hels := hels.trans (Els.of_up h1214)
    have hb3 := hb3.up h1214
    have hb4 := hb4.up h1214
    have hpr := hpr.up h1214
    refine RL.app (L := thgLay) (el := 65) (S := fun b => b < 0 ∨ (w10.heap.size ≤ b ∧ some b ≠ Value.ownBlock (.slice p2 pn2 pc2))) (B := w10.heap.size) (ys := [userM i]) hu14 hpr.fst
      (SliceOf.one hbx ⟨.inr ⟨by omega, (hn1 bx (by omega)).2⟩, (hn1 bx (by omega)).1⟩ ⟨_, rfl, SliceOf.one (hbv.up h14) ⟨.inr ⟨by omega, (hn1 bv (by omega)).2⟩, (hn1 bv (by omega)).1⟩ ⟨_, rfl, SliceOf.nil _ _ _⟩⟩) (by simp only [List.length_map, List.length_range, List.length_cons, List.length_nil]; omega) hB0 (by omega) fun v1' w15 hu15 ho1 hg hv => ?_
    have hels := hels.trans (Els.of_grown hg fun g hg' => .inr (.inr (hpr.fst.lt g hg').1))
    have hb3 := hb3.grown hg (hpr.fst.ne' (by omega))
    have hb4 := hb4.grown hg (hpr.fst.ne' (by omega))
    have hpr := hpr.step hg ho1 hv
    obtain ⟨r1, rn1, rc1, rfl⟩ := ho1.sh
    clear hbv hbx hu12 hu13 hu14 h13 h14 h1214 hn1 ho1 hg hv hev hex
    repeat (first | refine RL.vv ?_ | refine RL.p ?_ | refine RL.nil ?_ | refine Sim.seq ?_ | refine Sim.region ?_ | refine Sim.block ?_ | refine Sim.skip ?_ | refine Sim.inBlock ?_ | refine Sim.exit rfl ?_ | refine Sim.condT rfl ?_ | refine Sim.condF rfl ?_)
    refine RL.st hu15 hb3 hB3 fun w16 hu16 hbt16 hb3 => ?_
    have hb3 : Box w16 b3 70 [.slice (some ⟨bt, 0, none⟩) 1 1, .slice none 0 0, .slice r1 rn1 rc1] := hb3
    have hb4 := hb4.but hbt16 hn34.symm
    have hels := hels.trans (Els.of_but hbt16 (.inl rfl))
    have hpr := hpr.but hbt16 (by omega) (by omega)
    have hs16 := hels.size
    clear hbt16 hu15
    repeat (first | refine RL.vv ?_ | refine RL.p ?_ | refine RL.nil ?_ | refine Sim.seq ?_ | refine Sim.region ?_ | refine Sim.block ?_ | refine Sim.skip ?_ | refine Sim.inBlock ?_ | refine Sim.exit rfl ?_ | refine Sim.condT rfl ?_ | refine Sim.condF rfl ?_)
    refine RL.val trivial rfl (y_build (v := .agg #[.string sUnder, .string ⟨#[]⟩, .slice none 0 0]) rfl (fun w => by kernel_rfl)) ?_
    refine RL.al hu16 fun b7 w17 he7 hB7 hu17 h17 hb7 => ?_
    have hels := hels.trans (Els.of_up h17)
    have hb3 := hb3.up h17
    have hb4 := hb4.up h17
    have hpr' := hpr.up h17
    have hn7 : some b7 ≠ Value.ownBlock (.slice r1 rn1 rc1) ∧ some b7 ≠ Value.ownBlock (.slice p2 pn2 pc2) := ⟨hpr.fst.ne (by omega), hpr.snd.ne (by omega)⟩
    refine RL.st hu17 hb7 hB7 fun w18 hu18 hbt18 hb7 => ?_
    have hb7 : Box w18 b7 62 [.string sUnder, .string ⟨#[]⟩, .slice none 0 0] := hb7
    have h1618 : Up w16 w18 := Up.but h17 hbt18 (by omega)
    have hb3 := hb3.but hbt18 (by omega)
    have hb4 := hb4.but hbt18 (by omega)
    have hels := hels.trans (Els.of_but hbt18 (.inr (.inr (by omega))))
    have hpr16 := hpr
    have hpr := hpr.up h1618
    have hs18 := hels.size
    clear hbt18 hu17 hu16 h17 hpr'
    refine RL.nil ?_
    refine Sim.seq ?_
    refine Sim.cutX (σ := Value) (fun _ => [(0, .int .i64 (n : Int)), (3, .pointer (some ⟨b3, 0, none⟩)), (4, .pointer (some ⟨b4, 0, none⟩)), (5, .int .i64 (i : Int)), (6, .string (keyM i)), (7, .pointer (some ⟨b7, 0, none⟩)), (20, .int .i64 (n : Int)), (21, .int .i64 (i : Int))])
      (fun kv w' => Up w w' ∧ Els (fun b => b = b3 ∨ b = b4 ∨ w10.heap.size ≤ b) w10 w' ∧ Box w' b3 70 [.slice (some ⟨bt, 0, none⟩) 1 1, .slice none 0 0, .slice r1 rn1 rc1] ∧ Box w' b4 70 [.slice (some ⟨bt2, 0, none⟩) 1 1, .slice (some ⟨bc, 0, none⟩) 1 1, .slice p2 pn2 pc2] ∧
        Pair thgLay 65 0 w10.heap.size w' (.slice r1 rn1 rc1) (.slice p2 pn2 pc2) (((List.range i).map userM) ++ [userM i]) ((List.range i).map (manM n)) ∧ Box w' b7 62 [.string sUnder, .string ⟨#[]⟩, kv] ∧ SliceOf strLay (fun b => w10.heap.size ≤ b ∧ some b ≠ Value.ownBlock (.slice r1 rn1 rc1) ∧ some b ≠ Value.ownBlock (.slice p2 pn2 pc2)) w' kv (if i + 1 < n then [keyM (i + 1)] else [])) (fun k' next3 => ?_) ?_
    · by_cases hlt2 : ((i + 1 : Nat) : Int) < (n : Int)
      · rw [if_pos (by omega)] at next3
        repeat (first | refine RL.vv ?_ | refine RL.p ?_ | refine RL.nil ?_ | refine Sim.seq ?_ | refine Sim.region ?_ | refine Sim.block ?_ | refine Sim.skip ?_ | refine Sim.inBlock ?_ | refine Sim.exit rfl ?_ | refine Sim.condT rfl ?_ | refine Sim.condF rfl ?_)
        refine RL.cu hu18 (key_any (i + 1) (by omega) w18) fun w19 hu19 h19 => ?_
        refine RL.bu (el := 9) [.string (keyM (i + 1))] hu19 fun bs w20 hes hBs hu20 h20 hbs => ?_
        have h1820 := h19.trans h20
        have hls := h19.size
        have hls2 := h20.size
        have hb3 := hb3.up h1820
        have hb4 := hb4.up h1820
        have hl7 := hb7.lt
        have hb7 := hb7.up h1820
        have hels := hels.trans (Els.of_up h1820)
        have hn20 : some bs ≠ Value.ownBlock (.slice r1 rn1 rc1) ∧ some bs ≠ Value.ownBlock (.slice p2 pn2 pc2) := ⟨hpr.fst.ne (by omega), hpr.snd.ne (by omega)⟩
        have hn7s : bs ≠ b7 := by omega
        repeat (first | refine RL.vv ?_ | refine RL.p ?_ | refine RL.nil ?_ | refine Sim.seq ?_ | refine Sim.region ?_ | refine Sim.block ?_ | refine Sim.skip ?_ | refine Sim.inBlock ?_ | refine Sim.exit rfl ?_ | refine Sim.condT rfl ?_ | refine Sim.condF rfl ?_)
        refine RL.st hu20 hb7 hB7 fun w21 hu21 hbt21 hb7 => ?_
        repeat (first | refine RL.vv ?_ | refine RL.p ?_ | refine RL.nil ?_ | refine Sim.seq ?_ | refine Sim.region ?_ | refine Sim.block ?_ | refine Sim.skip ?_ | refine Sim.inBlock ?_ | refine Sim.exit rfl ?_ | refine Sim.condT rfl ?_ | refine Sim.condF rfl ?_)
        exact next3 (.slice (some ⟨bs, 0, none⟩) 1 1) w21 _ ⟨hu21, hels.trans (Els.of_but hbt21 (.inr (.inr (by omega)))), hb3.but hbt21 (by omega), hb4.but hbt21 (by omega), hpr16.up (Up.but (h1618.trans h1820) hbt21 (by omega)), hb7, (SliceOf.one (L := strLay) (S := fun b => w10.heap.size ≤ b ∧ some b ≠ Value.ownBlock (.slice r1 rn1 rc1) ∧ some b ≠ Value.ownBlock (.slice p2 pn2 pc2)) (hbs.but hbt21 hn7s) ⟨by omega, hn20⟩ rfl)⟩ sb
      · rw [if_neg (by omega)] at next3
        repeat (first | refine RL.vv ?_ | refine RL.p ?_ | refine RL.nil ?_ | refine Sim.seq ?_ | refine Sim.region ?_ | refine Sim.block ?_ | refine Sim.skip ?_ | refine Sim.inBlock ?_ | refine Sim.exit rfl ?_ | refine Sim.condT rfl ?_ | refine Sim.condF rfl ?_)
        exact next3 (.slice none 0 0) w18 _ ⟨hu18, hels, hb3, hb4, hpr, hb7, SliceOf.nil _ _ _⟩ sb
    clear hb3 hb4 hb7 hpr hels hu18 hpr16 h1618
    rintro kv w18 ⟨hu18, hels, hb3, hb4, hpr, hb7, hkv⟩
    have hs18 := hels.size
    have hka : ∃ ka kn kc, kv = .slice ka kn kc := by obtain ⟨ka, kc, rfl, _⟩ := id hkv; exact ⟨_, _, _, rfl⟩
    obtain ⟨ka, kn, kc, rfl⟩ := hka
    repeat (first | refine RL.vv ?_ | refine RL.p ?_ | refine RL.nil ?_ | refine Sim.seq ?_ | refine Sim.region ?_ | refine Sim.block ?_ | refine Sim.skip ?_ | refine Sim.inBlock ?_ | refine Sim.exit rfl ?_ | refine Sim.condT rfl ?_ | refine Sim.condF rfl ?_)
    refine RL.vv ?_ (v := .agg #[.string sUnder, .string ⟨#[]⟩, .slice ka kn kc]) (hy := y_loadA rfl hb7.at rfl)
    refine RL.bu (el := 62) [.string sUnder, .string ⟨#[]⟩, .slice ka kn kc] hu18 fun bv w19 hev hBv hu19 h19 hbv => ?_
    refine RL.val trivial rfl (y_build (v := .agg #[.string sMan, .string (keyM i), .slice (some ⟨bv, 0, none⟩) 1 1]) rfl (fun w => by kernel_rfl)) ?_
    refine RL.bu (el := 65) [.string sMan, .string (keyM i), .slice (some ⟨bv, 0, none⟩) 1 1] hu19 fun bx w20 hex hBx hu20 h20 hbx => ?_
    have hlv := hbv.lt
    have hsz13 := h19.size
    have hsz14 := h20.size
    have hn1 : ∀ b, w18.heap.size ≤ b → some b ≠ Value.ownBlock (.slice r1 rn1 rc1) ∧ some b ≠ Value.ownBlock (.slice p2 pn2 pc2) := fun b hb => ⟨hpr.fst.ne hb, hpr.snd.ne hb⟩
    have h1820 := h19.trans h20
    have hels := hels.trans (Els.of_up h1820)
    have hb3 := hb3.up h1820
    have hb4 := hb4.up h1820
    have hpr := hpr.up h1820
    have hkv := hkv.up h1820
    refine RL.app (L := thgLay) (el := 65) (S := fun b => b < 0 ∨ (w10.heap.size ≤ b ∧ some b ≠ Value.ownBlock (.slice r1 rn1 rc1))) (B := w10.heap.size) (ys := [manM n i]) hu20 hpr.snd
      (SliceOf.one hbx ⟨.inr ⟨by omega, (hn1 bx (by omega)).1⟩, (hn1 bx (by omega)).2⟩ ⟨_, rfl, SliceOf.one (hbv.up h20) ⟨.inr ⟨by omega, (hn1 bv (by omega)).1⟩, (hn1 bv (by omega)).2⟩ ⟨_, rfl, hkv.mono fun b hb => ⟨.inr ⟨hb.1, hb.2.1⟩, hb.2.2⟩⟩⟩) (by simp only [List.length_map, List.length_range, List.length_cons, List.length_nil]; omega) hB0 (by omega) fun v2' w21 hu21 ho2 hg hv => ?_
    have hels := hels.trans (Els.of_grown hg fun g hg' => .inr (.inr (hpr.snd.lt g hg').1))
    have hb3 := hb3.grown hg (hpr.snd.ne' (by omega))
    have hb4 := hb4.grown hg (hpr.snd.ne' (by omega))
    have hpr := (hpr.symm.step hg ho2 hv).symm
    obtain ⟨r2, rn2, rc2, rfl⟩ := ho2.sh
    repeat (first | refine RL.vv ?_ | refine RL.p ?_ | refine RL.nil ?_ | refine Sim.seq ?_ | refine Sim.region ?_ | refine Sim.block ?_ | refine Sim.skip ?_ | refine Sim.inBlock ?_ | refine Sim.exit rfl ?_ | refine Sim.condT rfl ?_ | refine Sim.condF rfl ?_)
    refine RL.st hu21 hb4 hB4 fun w22 hu22 hbt22 hb4 => ?_
    repeat (first | refine RL.vv ?_ | refine RL.p ?_ | refine RL.nil ?_ | refine Sim.seq ?_ | refine Sim.region ?_ | refine Sim.block ?_ | refine Sim.skip ?_ | refine Sim.inBlock ?_ | refine Sim.exit rfl ?_ | refine Sim.condT rfl ?_ | refine Sim.condF rfl ?_)
    refine next (i + 1, .slice r1 rn1 rc1, .slice r2 rn2 rc2) w22 _ ⟨by simp only; omega, hu22, hels.trans (Els.of_but hbt22 (.inr (.inl rfl))), hb3.but hbt22 hn34, hb4, ?_⟩ (by simp only; omega) sb
    have hpr := hpr.but hbt22 (by omega) (by omega)
    simp only
    rw [List.range_succ, List.map_append, List.map_append]
    exact hpr
  obtain rfl : i = n := by omega
  repeat (first | refine RL.vv ?_ | refine RL.p ?_ | refine RL.nil ?_ | refine Sim.seq ?_ | refine Sim.region ?_ | refine Sim.block ?_ | refine Sim.skip ?_ | refine Sim.inBlock ?_ | refine Sim.exit rfl ?_ | refine Sim.condT rfl ?_ | refine Sim.condF rfl ?_)
  refine RL.vv ?_ (v := .agg #[.slice (some ⟨bt, 0, none⟩) 1 1, .slice none 0 0, .slice p1 pn1 pc1]) (hy := y_loadA rfl hb3.at rfl)
  refine RL.vv ?_ (v := .agg #[.slice (some ⟨bt2, 0, none⟩) 1 1, .slice (some ⟨bc, 0, none⟩) 1 1, .slice p2 pn2 pc2]) (hy := y_loadA rfl hb4.at rfl)
  refine RL.bu (el := 70) [.slice (some ⟨bt, 0, none⟩) 1 1, .slice none 0 0, .slice p1 pn1 pc1, .slice (some ⟨bt2, 0, none⟩) 1 1, .slice (some ⟨bc, 0, none⟩) 1 1, .slice p2 pn2 pc2] hu fun bl w12 hel hBl hu12 h1112 hbl => ?_
  repeat (first | refine RL.vv ?_ | refine RL.p ?_ | refine RL.nil ?_ | refine Sim.seq ?_ | refine Sim.region ?_ | refine Sim.block ?_ | refine Sim.skip ?_ | refine Sim.inBlock ?_ | refine Sim.exit rfl ?_ | refine Sim.condT rfl ?_ | refine Sim.condF rfl ?_)
  refine Sim.ret1 Try.func18 rfl rfl ⟨bl, _, _, _, _, _, rfl, hu12, hBl, hbl, ?_, ?_, ?_, ?_, ?_⟩
  · exact ((ht1.old.keep (Els.keepS hels fun b hb _ => by have q1 := hb.1; have q2 := hb.2; omega)).up h1112).mono fun b hb => ⟨hb.1.1, by have := hb.2; omega⟩
  · exact ((hpr.fst.sl (S' := fun b => w.heap.size ≤ b ∧ b < w11.heap.size) (fun b hb hlt _ => ⟨by rcases hb with hb | hb; exact absurd hb (Nat.not_lt_zero _); omega, hlt⟩) (fun g hg => by have := hpr.fst.lt g hg; omega)).up h1112).mono fun b hb => ⟨hb.1, by have := hb.2; omega⟩
  · exact ((ht2.old.keep (Els.keepS hels fun b hb _ => by have q1 := hb.1; have q2 := hb.2; omega)).up h1112).mono fun b hb => ⟨hb.1.1, by have := hb.2; omega⟩
  · exact ((hc2.old.keep (Els.keepS hels fun b hb _ => by have q1 := hb.1; have q2 := hb.2; omega)).up h1112).mono fun b hb => ⟨hb.1.1, by have := hb.2; omega⟩
  · exact ((hpr.snd.sl (S' := fun b => w.heap.size ≤ b ∧ b < w11.heap.size) (fun b hb hlt _ => ⟨by rcases hb with hb | hb; exact absurd hb (Nat.not_lt_zero _); omega, hlt⟩) (fun g hg => by have := hpr.snd.lt g hg; omega)).up h1112).mono fun b hb => ⟨hb.1, by have := hb.2; omega⟩
end Go.Proofs.Ytgckpmcdlciibab

namespace Go.Proofs.Ytgckpmcdlciibab
open Go.RowKit
theorem pckIs_up : ∀ {n : Nat} {S : Nat → Prop} {w : World} {cs : List Value} {p : Pck}, pckIs n S w cs p → pckIs (n + 1) S w cs p
  | 0, _, _, _, _, h => h.elim
  | n + 1, S, w, cs, p, h => by
    obtain ⟨a, c, rfl, h1, h2, h3⟩ := h
    refine ⟨a, c, rfl, h1, h2, fun hp => ?_⟩
    obtain ⟨b, o, rfl, hb, he⟩ := h3 hp
    refine ⟨b, o, rfl, hb, fun i x hx => ?_⟩
    obtain ⟨cs, hc, hi⟩ := he i x hx
    exact ⟨cs, hc, pckIs_up hi⟩
theorem SliceOf.pck {n : Nat} {S : Nat → Prop} {w : World} {v : Value} {l : List Pck} (h : SliceOf (pckLay n) S w v l) : SliceOf (pckLay (n + 1)) S w v l := by
  obtain ⟨a, c, rfl, h1, h2, h3⟩ := h
  refine ⟨a, c, rfl, h1, h2, fun hp => ?_⟩
  obtain ⟨b, o, rfl, hb, he⟩ := h3 hp
  refine ⟨b, o, rfl, hb, fun i x hx => ?_⟩
  obtain ⟨cs, hc, hi⟩ := he i x hx
  exact ⟨cs, hc, pckIs_up hi⟩
/-- a text, asked -/
def topM (l : List Svc) (s : Str) : List Gt × List Rq × Int := if (parseM s).2.1 = 0 then runM 9 l (parseM s).1 else ([], [], (parseM s).2.1)
set_option maxHeartbeats 1000000 in
theorem run_top {S : Nat → Prop} {lv : Value} {l : List Svc} (s : Str) (w : World) (hl : SliceOf svcLay S w lv l) (hok : ∀ x ∈ l, okSvc x) :
    Calls Try.prog 17 #[lv, .string s] w fun en w' => ∃ v rv, en = .returned (.tuple #[v, rv, .int .i64 (topM l s).2.2]) ∧ Up w w' ∧ SliceOf (gtLay 10) (fun b => w.heap.size ≤ b) w' v (topM l s).1 ∧ SliceOf rqLay (fun b => w.heap.size ≤ b) w' rv (topM l s).2.1 := by
  refine calls_of_sim Try.func17 rfl (Nat.le_of_ble_eq_true rfl) ?_
  obtain ⟨la, lc, rfl, _⟩ := id hl
  unfold topM
  repeat (first | refine RL.vv ?_ | refine RL.p ?_ | refine RL.nil ?_ | refine Sim.seq ?_ | refine Sim.region ?_ | refine Sim.block ?_ | refine Sim.skip ?_ | refine Sim.inBlock ?_ | refine Sim.exit rfl ?_ | refine Sim.condT rfl ?_ | refine Sim.condF rfl ?_)
  refine RL.cx (Parse_any s w) ?_
  rintro _ w1 ⟨v, rfl, hu1, hsl⟩
  refine ⟨_, rfl, ?_⟩
  generalize parseM s = pr at *
  obtain ⟨a, pe, pa⟩ := pr
  simp only at hsl ⊢
  obtain ⟨va, vc, rfl, _⟩ := id hsl
  repeat (first | refine RL.vv ?_ | refine RL.p ?_ | refine RL.nil ?_ | refine Sim.seq ?_ | refine Sim.region ?_ | refine Sim.block ?_ | refine Sim.skip ?_ | refine Sim.inBlock ?_ | refine Sim.exit rfl ?_ | refine Sim.condT rfl ?_ | refine Sim.condF rfl ?_)
  refine RL.al hu1 fun b7 w2 he7 hB7 hu2 h12 hb7 => ?_
  refine RL.al hu2 fun b8 w3 he8 hB8 hu3 h23 hb8 => ?_
  have hn : b7 ≠ b8 := by have := hb7.lt; omega
  refine RL.st hu3 (hb7.up h23) hB7 fun w4 hu4 hbt4 hb7 => ?_
  refine RL.st hu4 (hb8.but hbt4 hn.symm) hB8 fun w5 hu5 hbt5 hb8 => ?_
  have hb7 : Box w5 b7 37 [.string a.type, .string a.key, .slice va a.picks.length vc] := hb7.but hbt5 hn
  have hb8 : Box w5 b8 41 [.int .i64 pe, .int .i64 pa] := hb8
  have hs1 := hsl.old
  have hsl5 : SliceOf (pckLay 8) (fun b => w.heap.size ≤ b ∧ b < w1.heap.size) w5 (.slice va a.picks.length vc) a.picks := by
    have hz := h12.size
    exact (((hs1.up h12).up h23).bt hbt4 (fun k hk => by have := hk.2; omega)).bt hbt5 (fun k hk => by have := hk.2; omega)
  have ha7 := hb7.at
  have ha8 := hb8.at
  clear hbt4 hbt5 h12 h23 hu1 hu2 hu3 hu4 hs1
  by_cases h0 : pe = 0
  rotate_left
  · rw [if_neg h0]
    repeat (first | refine RL.vv ?_ | refine RL.p ?_ | refine RL.nil ?_ | refine Sim.seq ?_ | refine Sim.region ?_ | refine Sim.block ?_ | refine Sim.skip ?_ | refine Sim.inBlock ?_ | refine Sim.exit rfl ?_ | refine Sim.condT rfl ?_ | refine Sim.condF rfl ?_)
    refine Sim.q ?_
    repeat (first | refine RQ.vv ?_ | refine RQ.p ?_)
    refine RQ.nil fun w6 hq => ?_
    repeat (first | refine RL.vv ?_ | refine RL.p ?_ | refine RL.nil ?_ | refine Sim.seq ?_ | refine Sim.region ?_ | refine Sim.block ?_ | refine Sim.skip ?_ | refine Sim.inBlock ?_ | refine Sim.exit rfl ?_ | refine Sim.condT rfl ?_ | refine Sim.condF rfl ?_)
    exact Sim.ret3 Try.func17 rfl rfl rfl rfl ⟨_, _, rfl, hu5.trans hq, SliceOf.nil _ _ _, SliceOf.nil _ _ _⟩
  rw [if_pos h0]
  repeat (first | refine RL.vv ?_ | refine RL.p ?_ | refine RL.nil ?_ | refine Sim.seq ?_ | refine Sim.region ?_ | refine Sim.block ?_ | refine Sim.skip ?_ | refine Sim.inBlock ?_ | refine Sim.exit rfl ?_ | refine Sim.condT rfl ?_ | refine Sim.condF rfl ?_)
  refine RL.cx (Run_any (m := 8) a w5 (hl.up hu5) hok hsl5.pck) ?_
  rintro _ w6 ⟨v, rv, rfl, h56, hs, hr⟩
  refine ⟨_, rfl, ?_⟩
  repeat (first | refine RL.vv ?_ | refine RL.p ?_ | refine RL.nil ?_ | refine Sim.seq ?_ | refine Sim.region ?_ | refine Sim.block ?_ | refine Sim.skip ?_ | refine Sim.inBlock ?_ | refine Sim.exit rfl ?_ | refine Sim.condT rfl ?_ | refine Sim.condF rfl ?_)
  have hz := hu5.size
  exact Sim.ret3 Try.func17 rfl rfl rfl rfl ⟨_, _, rfl, hu5.trans h56, hs.mono fun b hb => by omega, hr.mono fun b hb => by omega⟩
theorem okS_of {s : Str} (h : s.size ≤ 1000) : okS s := by unfold okS maxLen; omega
theorem ok_userS {xs : List Thg} (h : xs.length ≤ 100) (hx : ∀ x ∈ xs, okWX x) : okSvc (userS xs) := by
  refine ⟨⟨by simp [userS], fun t ht => ?_⟩, ⟨by simp [userS], fun c hc => by simp [userS] at hc⟩, by simp only [userS]; omega, hx⟩
  simp only [userS, List.mem_singleton] at ht
  subst ht
  refine ⟨okS_of (by decide), by simp, fun f hf => ?_⟩
  simp only [List.mem_singleton] at hf
  subst hf
  exact ⟨okS_of (by decide), okS_of (by decide)⟩
theorem ok_manS {xs : List Thg} (h : xs.length ≤ 100) (hx : ∀ x ∈ xs, okWX x) : okSvc (manS xs) := by
  refine ⟨⟨by simp [manS], fun t ht => ?_⟩, ⟨by simp [manS], fun c hc => ?_⟩, by simp only [manS]; omega, hx⟩
  · simp only [manS, List.mem_singleton] at ht
    subst ht
    refine ⟨okS_of (by decide), by simp, fun f hf => ?_⟩
    simp only [List.mem_singleton] at hf
    subst hf
    exact ⟨okS_of (by decide), okS_of (by decide)⟩
  · simp only [manS, List.mem_singleton] at hc
    subst hc
    exact ⟨okS_of (by decide), okS_of (by decide), okS_of (by decide)⟩
theorem ok_user (i : Nat) : okWX (userM i) := by
  refine ⟨okS_of (by show 4 ≤ _; decide), okS_of (by show 3 ≤ _; decide), by simp [userM], fun v hv => ?_⟩
  simp only [userM, List.mem_singleton] at hv
  subst hv
  exact ⟨okS_of (by show 4 ≤ _; decide), okS_of (by show 4 ≤ _; decide), by simp, fun k hk => by simp at hk⟩
theorem ok_manK {ks : List Nat} {i : Nat} (h : ks.length ≤ 100) : okWX ⟨sMan, keyM i, [⟨sUnder, sNil, ks.map keyM⟩]⟩ := by
  refine ⟨okS_of (by show 3 ≤ _; decide), okS_of (by show 3 ≤ _; decide), by simp, fun v hv => ?_⟩
  simp only [List.mem_singleton] at hv
  subst hv
  refine ⟨okS_of (by show 5 ≤ _; decide), okS_of (by show 0 ≤ _; decide), by simp; omega, fun k hk => ?_⟩
  obtain ⟨j, _, rfl⟩ := List.mem_map.1 hk
  exact okS_of (by show 3 ≤ _; decide)
theorem ok_man (n i : Nat) : okWX (manM n i) := by
  unfold manM
  split
  · exact ok_manK (ks := [i + 1]) (by simp)
  · exact ok_manK (ks := []) (by simp)
theorem ok_people {n : Nat} (hn : n ≤ 100) : ∀ s ∈ peopleM n, okSvc s := fun s hs => by
  simp only [peopleM, List.mem_cons, List.not_mem_nil, or_false] at hs
  rcases hs with rfl | rfl
  · exact ok_userS (by simpa using hn) fun x hx => by obtain ⟨i, _, rfl⟩ := List.mem_map.1 hx; exact ok_user i
  · exact ok_manS (by simpa using hn) fun x hx => by obtain ⟨i, _, rfl⟩ := List.mem_map.1 hx; exact ok_man n i
def aliveG : List Gt := [.mk sNamE 1 false (nkeyM 0) [] [], .mk sUnder 3 false sNil [] [[.mk sNamE 1 false (nkeyM 1) [] []]]]
def aliveT : Str := ⟨#[117, 115, 101, 114, 40, 117, 97, 97, 41, 123, 110, 97, 109, 101, 32, 117, 110, 100, 101, 114, 123, 110, 97, 109, 101, 125, 125]⟩
theorem alive_run : topM (peopleM 2) aliveT = (aliveG, (runM 9 (peopleM 2) (chainA 0 1)).2.1, 0) := by
  have h1 : parseM aliveT = (chainA 0 1, 0, 0) := by
    have h2 : aliveT = sM 0 1 ++ eM 1 := by kernel_rfl
    rw [h2]
    exact parse_chain (by decide) (by decide)
  unfold topM
  rw [h1, if_pos rfl]
  have h3 : (runM 9 (peopleM 2) (chainA 0 1)).1 = aliveG := by kernel_rfl
  have h4 : (runM 9 (peopleM 2) (chainA 0 1)).2.2 = 0 := by kernel_rfl
  exact Prod.ext h3 (Prod.ext rfl h4)
set_option maxHeartbeats 1000000 in
theorem aliveT_any (w : World) : Calls Try.prog 15 #[] w fun en w' => en = .returned (.bool true) ∧ Up w w' := by
  refine calls_of_sim Try.func15 rfl (Nat.le_of_ble_eq_true rfl) ?_
  repeat (first | refine RL.vv ?_ | refine RL.p ?_ | refine RL.nil ?_ | refine Sim.seq ?_ | refine Sim.region ?_ | refine Sim.block ?_ | refine Sim.skip ?_ | refine Sim.inBlock ?_ | refine Sim.exit rfl ?_ | refine Sim.condT rfl ?_ | refine Sim.condF rfl ?_)
  refine RL.cx (people_any 2 (by decide) w) ?_
  rintro _ w1 ⟨bl, x1, x2, x3, x4, x5, rfl, hu1, hp⟩
  refine ⟨_, rfl, ?_⟩
  refine RL.cx (run_top aliveT w1 (l := peopleM 2) hp.sl (ok_people (by decide))) ?_
  rintro _ w2 ⟨v, rv, rfl, h12, hs, _⟩
  refine ⟨_, rfl, ?_⟩
  have hu := hu1.trans h12
  have r0 := alive_run
  have r3 : (topM (peopleM 2) aliveT).2.2 = 0 := by rw [r0]
  have r1 : (topM (peopleM 2) aliveT).1 = aliveG := by rw [r0]
  rw [r1] at hs
  rw [r3]
  clear r0 r1 r3
  obtain ⟨va, vc, rfl, _⟩ := id hs
  obtain ⟨gb, go, cs, rfl, _, hgat, hgi, _⟩ := hs.at (i := 0) (x := .mk sNamE 1 false (nkeyM 0) [] []) rfl
  obtain ⟨v1, v2, rfl, _, _⟩ := gt_succ.1 hgi
  obtain ⟨gb', go', cs, e, _, hgat2, hgi2, _⟩ := hs.at (i := 1) (x := .mk sUnder 3 false sNil [] [[.mk sNamE 1 false (nkeyM 1) [] []]]) rfl
  cases e
  obtain ⟨v3, v4, rfl, _, hv4⟩ := gt_succ.1 hgi2
  obtain ⟨a4, c4, rfl, _⟩ := id hv4
  obtain ⟨sb4, so4, cs, rfl, _, hsat, ⟨u, rfl, hu4⟩, _⟩ := hv4.at (i := 0) (x := [.mk sNamE 1 false (nkeyM 1) [] []]) rfl
  obtain ⟨a5, c5, rfl, _⟩ := id hu4
  obtain ⟨hb, ho, cs, rfl, _, hhat, hhi, _⟩ := hu4.at (i := 0) (x := .mk sNamE 1 false (nkeyM 1) [] []) rfl
  obtain ⟨u1, u2, rfl, _, _⟩ := gt_succ.1 hhi
  have hgat : At w2 gb (go + 0 * 6) _ := hgat
  have hgat2 : At w2 gb (go + 1 * 6) _ := hgat2
  have hsat : At w2 sb4 (so4 + 0 * 1) _ := hsat
  have hhat : At w2 hb (ho + 0 * 6) _ := hhat
  clear hs hgi hgi2 hv4 hu4 hhi h12 hp
  have k1 : (aliveG.length : Int) = 2 := rfl
  have k2 : (Gt.mk sNamE 1 false (nkeyM 0) [] []).text = ⟨#[78, 117, 97, 97]⟩ := by kernel_rfl
  have k3 : ((Gt.mk sUnder 3 false sNil [] [[.mk sNamE 1 false (nkeyM 1) [] []]]).subs.length : Int) = 1 := rfl
  have k4 : (Gt.mk sNamE 1 false (nkeyM 1) [] []).text = ⟨#[78, 117, 97, 98]⟩ := by kernel_rfl
  have k5 : 1 < aliveG.length := by decide
  have k6 : 0 < aliveG.length := by decide
  have k7 : 0 < (Gt.mk sUnder 3 false sNil [] [[.mk sNamE 1 false (nkeyM 1) [] []]]).subs.length := by decide
  have k8 : 0 < ([Gt.mk sNamE 1 false (nkeyM 1) [] []] : List Gt).length := by decide
  repeat (first | refine RL.vv ?_ | refine RL.p ?_ | refine RL.nil ?_ | refine Sim.seq ?_ | refine Sim.region ?_ | refine Sim.block ?_ | refine Sim.skip ?_ | refine Sim.inBlock ?_ | refine Sim.exit rfl ?_ | refine Sim.condT rfl ?_ | refine Sim.condF rfl ?_)
  exact Sim.ret1 Try.func15 rfl rfl ⟨rfl, hu⟩
end Go.Proofs.Ytgckpmcdlciibab
