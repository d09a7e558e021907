/- The walk of QueryTurns. -/
import Derived.Test.YtgckpmcdlciibabYL54
import Derived.Test.YtgckpmcdlciibabZC3
import Derived.Test.YtgckpmcdlciibabZF
namespace Go.Proofs.Ytgckpmcdlciibab
open Go.RowKit
theorem SliceOf.deep {m m' : Nat} {S : Nat → Prop} {w : World} {v : Value} {l : List Pck} (h : SliceOf (pckLay m) S w v l) (hm : m ≤ m') : SliceOf (pckLay m') S w v l := by
  obtain ⟨a, c, rfl, h1, h2, h3⟩ := h
  refine ⟨a, c, rfl, h1, h2, fun hp => ?_⟩
  obtain ⟨b, o, rfl, hb, he⟩ := h3 hp
  refine ⟨b, o, rfl, hb, fun i x hx => ?_⟩
  obtain ⟨cs, hc, hi⟩ := he i x hx
  exact ⟨cs, hc, pckIs_le hi hm⟩
set_option maxHeartbeats 4000000 in
theorem QueryTurns_walk {m : Nat} {S : Nat → Prop} {v : Value} (s : Str) (q : Ak) (w : World) (hps : SliceOf (pckLay (m + 1)) S w v q.picks) :
    Calls Try.prog 4 #[.string s, .agg #[.string q.type, .string q.key, v]] w fun en w' => en = .returned (.bool true) ∧ Up w w' := by
  refine calls_of_sim Try.func4 rfl (Nat.le_of_ble_eq_true rfl) ?_
  obtain ⟨a, c, rfl, hnc, hcm, hel⟩ := id hps
  have hlv := lvl_of hps
  repeat (first | refine RL.vv ?_ | refine RL.p ?_ | refine RL.nil ?_ | refine Sim.seq ?_ | refine Sim.region ?_ | refine Sim.block ?_ | refine Sim.skip ?_ | refine Sim.inBlock ?_ | refine Sim.exit rfl ?_ | refine Sim.condT rfl ?_ | refine Sim.condF rfl ?_)
  refine RL.bx (.refl w) fun b1 w1 he1 hle1 hu1 _ hb1 => ?_
  have hb1 : Box w1 b1 37 [.string q.type, .string q.key, .slice a q.picks.length c] := hb1
  repeat (first | refine RL.vv ?_ | refine RL.p ?_ | refine RL.nil ?_ | refine Sim.seq ?_ | refine Sim.region ?_ | refine Sim.block ?_ | refine Sim.skip ?_ | refine Sim.inBlock ?_ | refine Sim.exit rfl ?_ | refine Sim.condT rfl ?_ | refine Sim.condF rfl ?_)
  refine RL.cu hu1 (alive4_any w1) fun w2 hu2 h12 => ?_
  have hb1 := hb1.up h12
  have ha1 := hb1.at
  repeat (first | refine RL.vv ?_ | refine RL.p ?_ | refine RL.nil ?_ | refine Sim.seq ?_ | refine Sim.region ?_ | refine Sim.block ?_ | refine Sim.skip ?_ | refine Sim.inBlock ?_ | refine Sim.exit rfl ?_ | refine Sim.condT rfl ?_ | refine Sim.condF rfl ?_)
  refine RL.cu hu2 (Print_any q w2 (hps.up hu2)) fun w3 hu3 h23 => ?_
  have hb1 := hb1.up h23
  have ha1 := hb1.at
  refine RL.vv ?_
  refine RL.vv ?_
  refine RL.vv ?_
  refine RL.vv ?_
  refine RL.vv ?_
  refine RL.nil ?_
  ((repeat refine Sim.seq ?_); refine Sim.region ?_; (repeat (first | refine RL.vv ?_ | refine RL.p ?_)); refine RL.nil ?_)
  refine Sim.cut [(0, .string s)] (fun w' => Up w w') (fun k' next => ?_) ?_
  · refine Sim.cond rfl (fun ht => ?_) (fun hf => ?_)
    rotate_left
    · repeat (first | refine RL.vv ?_ | refine RL.p ?_ | refine RL.nil ?_ | refine Sim.seq ?_ | refine Sim.region ?_ | refine Sim.block ?_ | refine Sim.skip ?_ | refine Sim.inBlock ?_ | refine Sim.exit rfl ?_ | refine Sim.condT rfl ?_ | refine Sim.condF rfl ?_)
      exact next w3 _ hu3 sb
    have h0 : (printM (m + 1) q).2 = 0 := of_decide_eq_true ht
    have hpp := print_parse h0 hlv
    repeat (first | refine RL.vv ?_ | refine RL.p ?_ | refine RL.nil ?_ | refine Sim.seq ?_ | refine Sim.region ?_ | refine Sim.block ?_ | refine Sim.skip ?_ | refine Sim.inBlock ?_ | refine Sim.exit rfl ?_ | refine Sim.condT rfl ?_ | refine Sim.condF rfl ?_)
    refine RL.cx (Parse_any (printM (m + 1) q).1 w3) ?_
    rw [hpp]
    rintro _ w4 ⟨pv, rfl, h34, hsl⟩
    refine ⟨_, rfl, ?_⟩
    have hu4 := hu3.trans h34
    have hb1 := hb1.up h34
    have hsl : SliceOf (pckLay 8) (fun k => w3.heap.size ≤ k) w4 pv q.picks := hsl
    obtain ⟨va, vc, rfl, _⟩ := id hsl
    repeat (first | refine RL.vv ?_ | refine RL.p ?_ | refine RL.nil ?_ | refine Sim.seq ?_ | refine Sim.region ?_ | refine Sim.block ?_ | refine Sim.skip ?_ | refine Sim.inBlock ?_ | refine Sim.exit rfl ?_ | refine Sim.condT rfl ?_ | refine Sim.condF rfl ?_)
    refine RL.al hu4 fun b7 w5 he7 hB7 hu5 h45 hb7 => ?_
    refine RL.al hu5 fun b8 w6 he8 hB8 hu6 h56 hb8 => ?_
    have hn : b7 ≠ b8 := by have := hb7.lt; omega
    have hl1 := hb1.lt
    have hz5 := h45.size
    have hb1 := (hb1.up h45).up h56
    refine RL.st hu6 (hb7.up h56) hB7 fun w7 hu7 hbt7 hb7 => ?_
    have hb1 := hb1.but hbt7 (by omega)
    refine RL.st hu7 (hb8.but hbt7 hn.symm) hB8 fun w8 hu8 hbt8 hb8 => ?_
    have hb1 := hb1.but hbt8 (by omega)
    have hb7 : Box w8 b7 37 [.string q.type, .string q.key, .slice va q.picks.length vc] := hb7.but hbt8 hn
    have hb8 : Box w8 b8 41 [.int .i64 0, .int .i64 0] := hb8
    have hsl : SliceOf (pckLay 8) (fun b => w3.heap.size ≤ b ∧ b < w4.heap.size) w8 (.slice va q.picks.length vc) q.picks :=
      (((hsl.old.up h45).up h56).bt hbt7 (fun k hk => by have := hk.2; omega)).bt hbt8 (fun k hk => by have := hk.2; omega)
    have ha1 := hb1.at
    have ha7 := hb7.at
    have ha8 := hb8.at
    have k0 : ¬ ¬ (0 : Int) = 0 := fun h => h rfl
    clear hbt7 hbt8 h45 h56 h34 hu4 hu5 hu6 hu7
    repeat (first | refine RL.vv ?_ | refine RL.p ?_ | refine RL.nil ?_ | refine Sim.seq ?_ | refine Sim.region ?_ | refine Sim.block ?_ | refine Sim.skip ?_ | refine Sim.inBlock ?_ | refine Sim.exit rfl ?_ | refine Sim.condT rfl ?_ | refine Sim.condF rfl ?_)
    refine RL.cu hu8 (Same_any (m := m + 1 + 8) q w8 ((hps.up hu8).deep (by omega)) (hsl.deep (by omega))) fun w9 hu9 _ => ?_
    repeat (first | refine RL.vv ?_ | refine RL.p ?_ | refine RL.nil ?_ | refine Sim.seq ?_ | refine Sim.region ?_ | refine Sim.block ?_ | refine Sim.skip ?_ | refine Sim.inBlock ?_ | refine Sim.exit rfl ?_ | refine Sim.condT rfl ?_ | refine Sim.condF rfl ?_)
    exact next w9 _ hu9 sb
  clear hb1 ha1 h23 hu3 hu2 hu1 h12 hle1 he1 hlv hps hel hnc hcm
  intro w3 hu3
  repeat (first | refine RL.vv ?_ | refine RL.p ?_ | refine RL.nil ?_ | refine Sim.seq ?_ | refine Sim.region ?_ | refine Sim.block ?_ | refine Sim.skip ?_ | refine Sim.inBlock ?_ | refine Sim.exit rfl ?_ | refine Sim.condT rfl ?_ | refine Sim.condF rfl ?_)
  refine RL.cx (Parse_any s w3) ?_
  rintro _ w4 ⟨pv, rfl, h34, hsl⟩
  refine ⟨_, rfl, ?_⟩
  have hu4 := hu3.trans h34
  obtain ⟨va, vc, rfl, _⟩ := id hsl
  repeat (first | refine RL.vv ?_ | refine RL.p ?_ | refine RL.nil ?_ | refine Sim.seq ?_ | refine Sim.region ?_ | refine Sim.block ?_ | refine Sim.skip ?_ | refine Sim.inBlock ?_ | refine Sim.exit rfl ?_ | refine Sim.condT rfl ?_ | refine Sim.condF rfl ?_)
  refine RL.al hu4 fun b9 w5 he9 hB9 hu5 h45 hb9 => ?_
  refine RL.al hu5 fun b10 w6 he10 hB10 hu6 h56 hb10 => ?_
  have hn9 : b9 < b10 := by have := hb9.lt; omega
  have hn : b9 ≠ b10 := by omega
  have hz5 := h45.size
  refine RL.st hu6 (hb9.up h56) hB9 fun w7 hu7 hbt7 hb9 => ?_
  refine RL.st hu7 (hb10.but hbt7 hn.symm) hB10 fun w8 hu8 hbt8 hb10 => ?_
  have hb9 : Box w8 b9 37 [.string (parseM s).1.type, .string (parseM s).1.key, .slice va (parseM s).1.picks.length vc] := hb9.but hbt8 hn
  have hb10 : Box w8 b10 41 [.int .i64 (parseM s).2.1, .int .i64 (parseM s).2.2] := hb10
  have hsl : SliceOf (pckLay 8) (fun b => w3.heap.size ≤ b ∧ b < w4.heap.size) w8 (.slice va (parseM s).1.picks.length vc) (parseM s).1.picks :=
    (((hsl.old.up h45).up h56).bt hbt7 (fun k hk => by have := hk.2; omega)).bt hbt8 (fun k hk => by have := hk.2; omega)
  have ha9 := hb9.at
  have ha10 := hb10.at
  clear hbt7 hbt8 h45 h56 h34 hu4 hu5 hu6 hu7 hz5 he10
  by_cases h0 : (parseM s).2.1 = 0
  rotate_left
  · obtain ⟨g1, g2, g3⟩ := parse_bad h0
    repeat (first | refine RL.vv ?_ | refine RL.p ?_ | refine RL.nil ?_ | refine Sim.seq ?_ | refine Sim.region ?_ | refine Sim.block ?_ | refine Sim.skip ?_ | refine Sim.inBlock ?_ | refine Sim.exit rfl ?_ | refine Sim.condT rfl ?_ | refine Sim.condF rfl ?_)
    refine RL.val trivial rfl (y_build (v := .agg #[.string ⟨#[]⟩, .string ⟨#[]⟩, .slice none 0 0]) rfl (fun w => by kernel_rfl)) ?_
    rw [g1] at hsl
    have hs := Same_any (m := 8) (S' := fun _ => True) ⟨⟨#[]⟩, ⟨#[]⟩, []⟩ w8 hsl (SliceOf.nil _ _ _)
    rw [g1]
    refine RL.cu hu8 hs fun w9 hu9 h89 => ?_
    have ha10 := ha10.up h89
    repeat (first | refine RL.vv ?_ | refine RL.p ?_ | refine RL.nil ?_ | refine Sim.seq ?_ | refine Sim.region ?_ | refine Sim.block ?_ | refine Sim.skip ?_ | refine Sim.inBlock ?_ | refine Sim.exit rfl ?_ | refine Sim.condT rfl ?_ | refine Sim.condF rfl ?_)
    exact Sim.ret1 Try.func4 rfl rfl ⟨rfl, hu9⟩
  obtain ⟨g1, g2⟩ := parse_print h0
  have hlv := lvl_of hsl
  have k0 : ¬ ¬ (parseM s).2.1 = 0 := fun h => h h0
  generalize parseM s = pr at *
  obtain ⟨q, pe, pa⟩ := pr
  simp only at h0 k0 g1 g2 hlv hsl hb9 hb10 ha9 ha10 ⊢
  repeat (first | refine RL.vv ?_ | refine RL.p ?_ | refine RL.nil ?_ | refine Sim.seq ?_ | refine Sim.region ?_ | refine Sim.block ?_ | refine Sim.skip ?_ | refine Sim.inBlock ?_ | refine Sim.exit rfl ?_ | refine Sim.condT rfl ?_ | refine Sim.condF rfl ?_)
  refine RL.cu hu8 (WrongAsk_any (m := 7) q w8 hsl) fun w9 hu9 h89 => ?_
  rw [g1]
  have hb9 := hb9.up h89
  have ha9 := hb9.at
  have hb10 := hb10.up h89
  have hsl := hsl.up h89
  repeat (first | refine RL.vv ?_ | refine RL.p ?_ | refine RL.nil ?_ | refine Sim.seq ?_ | refine Sim.region ?_ | refine Sim.block ?_ | refine Sim.skip ?_ | refine Sim.inBlock ?_ | refine Sim.exit rfl ?_ | refine Sim.condT rfl ?_ | refine Sim.condF rfl ?_)
  refine RL.cu hu9 (Print_any (m := 7) q w9 hsl) fun w10 hu10 h910 => ?_
  have hb9 := hb9.up h910
  have ha9 := hb9.at
  have hb10 := hb10.up h910
  have hsl := hsl.up h910
  by_cases h3 : (printM 8 q).2 = 0
  rotate_left
  · have h3 : (printM 8 q).2 = 3 := g2.resolve_left h3
    rw [h3]
    have e3 : ¬ (3 : Int) = 0 := by decide
    have e4 : (3 : Int) = 3 := rfl
    repeat (first | refine RL.vv ?_ | refine RL.p ?_ | refine RL.nil ?_ | refine Sim.seq ?_ | refine Sim.region ?_ | refine Sim.block ?_ | refine Sim.skip ?_ | refine Sim.inBlock ?_ | refine Sim.exit rfl ?_ | refine Sim.condT rfl ?_ | refine Sim.condF rfl ?_)
    exact Sim.ret1 Try.func4 rfl rfl ⟨rfl, hu10⟩
  have hpp := print_parse h3 hlv
  have k3 : ¬ ¬ (printM 8 q).2 = 0 := fun h => h h3
  repeat (first | refine RL.vv ?_ | refine RL.p ?_ | refine RL.nil ?_ | refine Sim.seq ?_ | refine Sim.region ?_ | refine Sim.block ?_ | refine Sim.skip ?_ | refine Sim.inBlock ?_ | refine Sim.exit rfl ?_ | refine Sim.condT rfl ?_ | refine Sim.condF rfl ?_)
  refine RL.cx (Parse_any (printM 8 q).1 w10) ?_
  rw [hpp]
  rintro _ w11 ⟨pv, rfl, h1011, hs2⟩
  refine ⟨_, rfl, ?_⟩
  have hu11 := hu10.trans h1011
  have hs2 : SliceOf (pckLay 8) (fun k => w10.heap.size ≤ k) w11 pv q.picks := hs2
  obtain ⟨ya, yc, rfl, _⟩ := id hs2
  repeat (first | refine RL.vv ?_ | refine RL.p ?_ | refine RL.nil ?_ | refine Sim.seq ?_ | refine Sim.region ?_ | refine Sim.block ?_ | refine Sim.skip ?_ | refine Sim.inBlock ?_ | refine Sim.exit rfl ?_ | refine Sim.condT rfl ?_ | refine Sim.condF rfl ?_)
  refine RL.al hu11 fun b13 w12 he13 hB13 hu12 h1112 hb13 => ?_
  have hb9 := hb9.up h1011
  have hl9 := hb9.lt
  have hb9 := hb9.up h1112
  have hl10 := hb10.lt
  have hb10 := (hb10.up h1011).up h1112
  have hz10 := h1011.size
  refine RL.st hu12 hb13 hB13 fun w13 hu13 hbt13 hb13 => ?_
  have hb10 := hb10.but hbt13 (by omega)
  have hb9 := hb9.but hbt13 (by omega)
  refine RL.st hu13 hb10 hB10 fun w14 hu14 hbt14 hb10 => ?_
  have hb13 := hb13.but hbt14 (by omega)
  have hb9 := hb9.but hbt14 hn
  have hb10 : Box w14 b10 41 [.int .i64 0, .int .i64 0] := hb10
  have hb13 : Box w14 b13 37 [.string q.type, .string q.key, .slice ya q.picks.length yc] := hb13
  have hsl := (((hsl.up h1011).up h1112).bt hbt13 (fun k hk => by omega)).bt hbt14 (fun k hk => by omega)
  have hs2 := ((hs2.old.up h1112).bt hbt13 (fun k hk => by omega)).bt hbt14 (fun k hk => by omega)
  have ha9 := hb9.at
  have ha10 := hb10.at
  have ha13 := hb13.at
  have e0 : (0 : Int) = 0 := rfl
  clear hbt13 hbt14 h1011 h1112
  repeat (first | refine RL.vv ?_ | refine RL.p ?_ | refine RL.nil ?_ | refine Sim.seq ?_ | refine Sim.region ?_ | refine Sim.block ?_ | refine Sim.skip ?_ | refine Sim.inBlock ?_ | refine Sim.exit rfl ?_ | refine Sim.condT rfl ?_ | refine Sim.condF rfl ?_)
  refine RL.cu hu14 (Same_any (m := 8) q w14 hsl hs2) fun w15 hu15 _ => ?_
  repeat (first | refine RL.vv ?_ | refine RL.p ?_ | refine RL.nil ?_ | refine Sim.seq ?_ | refine Sim.region ?_ | refine Sim.block ?_ | refine Sim.skip ?_ | refine Sim.inBlock ?_ | refine Sim.exit rfl ?_ | refine Sim.condT rfl ?_ | refine Sim.condF rfl ?_)
  exact Sim.ret1 Try.func4 rfl rfl ⟨rfl, hu15⟩
end Go.Proofs.Ytgckpmcdlciibab
