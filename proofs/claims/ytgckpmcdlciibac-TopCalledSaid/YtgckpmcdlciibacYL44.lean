/- The walk of TopCalled. -/
import Derived.Test.YtgckpmcdlciibacZ5
namespace Go.Proofs.Ytgckpmcdlciibac
open Go.RowKit
theorem ok_called {f t x : Str} (hf : f.size ≤ 12) (ht : t.size ≤ 12) (hx : x.size ≤ 40) : ∀ s ∈ calledL f t x, okSvc s := fun s hs => by
  have hA : okS sA := okS_of (by decide)
  have hK : okS sK := okS_of (by decide)
  have hN : okS (⟨#[]⟩ : Str) := okS_of (by decide)
  have hf' : okS f := okS_of (by omega)
  have ht' : okS t := okS_of (by omega)
  have hx' : okS x := okS_of (by omega)
  simp only [calledL, List.mem_singleton] at hs
  subst hs
  refine ⟨⟨by simp, fun t ht => ?_⟩, ⟨by simp, fun c hc => ?_⟩, by simp, fun y hy => ?_⟩
  · simp only [List.mem_singleton] at ht
    subst ht
    refine ⟨hA, by simp, fun f hf => ?_⟩
    simp only [List.mem_singleton] at hf
    subst hf
    exact ⟨hf', hN⟩
  · simp only [List.mem_singleton] at hc
    subst hc
    exact ⟨hA, hf', ht'⟩
  · simp only [List.mem_singleton] at hy
    subst hy
    refine ⟨hA, hK, by simp, fun v hv => ?_⟩
    simp only [List.mem_singleton] at hv
    subst hv
    exact ⟨hf', hx', by simp, fun k hk => by simp at hk⟩
set_option maxHeartbeats 4000000 in
theorem TopCalled_walk (f t x : Str) (w : World) :
    Calls Try.prog 11 #[.string f, .string t, .string x] w fun en w' => en = .returned (.bool true) ∧ Up w w' := by
  refine calls_of_sim Try.func11 rfl (Nat.le_of_ble_eq_true rfl) ?_
  repeat (first | refine RL.vv ?_ | refine RL.p ?_ | refine RL.nil ?_ | refine Sim.seq ?_ | refine Sim.region ?_ | refine Sim.block ?_ | refine Sim.skip ?_ | refine Sim.inBlock ?_ | refine Sim.exit rfl ?_ | refine Sim.condT rfl ?_ | refine Sim.condF rfl ?_)
  refine RL.cu (.refl w) (aliveT_any w) fun w1 hu1 _ => ?_
  repeat (first | refine RL.vv ?_ | refine RL.p ?_ | refine RL.nil ?_ | refine Sim.seq ?_ | refine Sim.region ?_ | refine Sim.block ?_ | refine Sim.skip ?_ | refine Sim.inBlock ?_ | refine Sim.exit rfl ?_ | refine Sim.condT rfl ?_ | refine Sim.condF rfl ?_)
  refine RL.cu hu1 (Named_any f w1) fun w2 hu2 _ => ?_
  rcases Bool.eq_false_or_eq_true (named f) with hf | hf
  rotate_left
  · rw [hf]
    repeat (first | refine RL.vv ?_ | refine RL.p ?_ | refine RL.nil ?_ | refine Sim.seq ?_ | refine Sim.region ?_ | refine Sim.block ?_ | refine Sim.skip ?_ | refine Sim.inBlock ?_ | refine Sim.exit rfl ?_ | refine Sim.condT rfl ?_ | refine Sim.condF rfl ?_)
    exact Sim.ret1 Try.func11 rfl rfl ⟨rfl, hu2⟩
  rw [hf]
  repeat (first | refine RL.vv ?_ | refine RL.p ?_ | refine RL.nil ?_ | refine Sim.seq ?_ | refine Sim.region ?_ | refine Sim.block ?_ | refine Sim.skip ?_ | refine Sim.inBlock ?_ | refine Sim.exit rfl ?_ | refine Sim.condT rfl ?_ | refine Sim.condF rfl ?_)
  refine RL.cu hu2 (Named_any t w2) fun w3 hu3 _ => ?_
  rcases Bool.eq_false_or_eq_true (named t) with ht | ht
  rotate_left
  · rw [ht]
    repeat (first | refine RL.vv ?_ | refine RL.p ?_ | refine RL.nil ?_ | refine Sim.seq ?_ | refine Sim.region ?_ | refine Sim.block ?_ | refine Sim.skip ?_ | refine Sim.inBlock ?_ | refine Sim.exit rfl ?_ | refine Sim.condT rfl ?_ | refine Sim.condF rfl ?_)
    exact Sim.ret1 Try.func11 rfl rfl ⟨rfl, hu3⟩
  rw [ht]
  by_cases hne : f = t
  · repeat (first | refine RL.vv ?_ | refine RL.p ?_ | refine RL.nil ?_ | refine Sim.seq ?_ | refine Sim.region ?_ | refine Sim.block ?_ | refine Sim.skip ?_ | refine Sim.inBlock ?_ | refine Sim.exit rfl ?_ | refine Sim.condT rfl ?_ | refine Sim.condF rfl ?_)
    exact Sim.ret1 Try.func11 rfl rfl ⟨rfl, hu3⟩
  by_cases hbig : (40 : Int) < (x.size : Int)
  · repeat (first | refine RL.vv ?_ | refine RL.p ?_ | refine RL.nil ?_ | refine Sim.seq ?_ | refine Sim.region ?_ | refine Sim.block ?_ | refine Sim.skip ?_ | refine Sim.inBlock ?_ | refine Sim.exit rfl ?_ | refine Sim.condT rfl ?_ | refine Sim.condF rfl ?_)
    exact Sim.ret1 Try.func11 rfl rfl ⟨rfl, hu3⟩
  have hfs := ((named_iff f).1 hf).2.1
  have hts := ((named_iff t).1 ht).2.1
  have hxs : x.size ≤ 40 := by omega
  repeat (first | refine RL.vv ?_ | refine RL.p ?_ | refine RL.nil ?_ | refine Sim.seq ?_ | refine Sim.region ?_ | refine Sim.block ?_ | refine Sim.skip ?_ | refine Sim.inBlock ?_ | refine Sim.exit rfl ?_ | refine Sim.condT rfl ?_ | refine Sim.condF rfl ?_)
  refine RL.cu hu3 (word_any f w3) fun w4 hu4 _ => ?_
  refine RL.bu (el := 68) [.string f, .int .i64 1, .string ⟨#[]⟩] hu4 fun bf w5 _ _ hu5 h5 hbf => ?_
  refine RL.val trivial rfl (y_build (v := .agg #[.string sA, .slice (some ⟨bf, 0, none⟩) 1 1]) rfl (fun w => by kernel_rfl)) ?_
  refine RL.bu (el := 57) [.string sA, .slice (some ⟨bf, 0, none⟩) 1 1] hu5 fun bt w6 _ _ hu6 h6 hbt => ?_
  refine RL.vv ?_
  refine RL.vv ?_
  refine RL.val trivial rfl (y_build (v := .agg #[.int .i64 2, .string sA, .string f, .string t]) rfl (fun w => by kernel_rfl)) ?_
  refine RL.bu (el := 71) [.int .i64 2, .string sA, .string f, .string t] hu6 fun bc w7 _ _ hu7 h7 hbc => ?_
  refine RL.vv ?_
  refine RL.vv ?_
  refine RL.val trivial rfl (y_build (v := .agg #[.string f, .string x, .slice none 0 0]) rfl (fun w => by kernel_rfl)) ?_
  refine RL.bu (el := 73) [.string f, .string x, .slice none 0 0] hu7 fun bv w8 _ _ hu8 h8 hbv => ?_
  refine RL.val trivial rfl (y_build (v := .agg #[.string sA, .string sK, .slice (some ⟨bv, 0, none⟩) 1 1]) rfl (fun w => by kernel_rfl)) ?_
  refine RL.bu (el := 64) [.string sA, .string sK, .slice (some ⟨bv, 0, none⟩) 1 1] hu8 fun bx w9 _ _ hu9 h9 hbx => ?_
  refine RL.val trivial rfl (y_build (v := .agg #[.slice (some ⟨bt, 0, none⟩) 1 1, .slice (some ⟨bc, 0, none⟩) 1 1, .slice (some ⟨bx, 0, none⟩) 1 1]) rfl (fun w => by kernel_rfl)) ?_
  refine RL.bu (el := 31) [.slice (some ⟨bt, 0, none⟩) 1 1, .slice (some ⟨bc, 0, none⟩) 1 1, .slice (some ⟨bx, 0, none⟩) 1 1] hu9 fun bl w10 _ _ hu10 h10 hbl => ?_
  have hl : SliceOf svcLay (fun _ => True) w10 (.slice (some ⟨bl, 0, none⟩) 1 1) (calledL f t x) := SliceOf.one hbl trivial ⟨_, _, _, rfl,
    SliceOf.one (((((hbt.up h7).up h8).up h9).up h10)) trivial ⟨_, rfl, SliceOf.one ((((((hbf.up h6).up h7).up h8).up h9).up h10)) trivial rfl⟩,
    SliceOf.one (((hbc.up h8).up h9).up h10) trivial rfl,
    SliceOf.one (hbx.up h10) trivial ⟨_, rfl, SliceOf.one ((hbv.up h9).up h10) trivial ⟨_, rfl, SliceOf.nil _ _ _⟩⟩⟩
  have hok := ok_called hfs hts hxs
  clear hbf hbt hbc hbv hbx hbl h5 h6 h7 h8 h9 h10 hu1 hu2 hu3 hu4 hu5 hu6 hu7 hu8 hu9
  have hcat : ∀ n : Str, n.size ≤ 12 → (⟨#[97, 40, 107, 41, 123]⟩ : Str).size + n.size ≤ 9223372036854775807 := fun n hn => by show 5 + n.size ≤ _; omega
  have hcat2 : ∀ n : Str, n.size ≤ 12 → ((⟨#[97, 40, 107, 41, 123]⟩ : Str) ++ n).size + (⟨#[125]⟩ : Str).size ≤ 9223372036854775807 := fun n hn => by rw [ByteArray.size_append]; show 5 + n.size + 1 ≤ _; omega
  repeat (first | refine RL.vv ?_ | refine RL.p ?_ | refine RL.nil ?_ | refine Sim.seq ?_ | refine Sim.region ?_ | refine Sim.block ?_ | refine Sim.skip ?_ | refine Sim.inBlock ?_ | refine Sim.exit rfl ?_ | refine Sim.condT rfl ?_ | refine Sim.condF rfl ?_)
  refine RL.vv ?_ (hy := y_cat rfl rfl (hcat t hts))
  refine RL.vv ?_ (hy := y_cat rfl rfl (hcat2 t hts))
  refine RL.cx (run_top (tCA ++ t ++ tCE) w10 hl hok) ?_
  rintro _ w11 ⟨gv, rv, rfl, h11, hs, hr⟩
  refine ⟨_, rfl, ?_⟩
  have hu11 := hu10.trans h11
  have e1 : topM (calledL f t x) (tCA ++ t ++ tCE) = ([.mk t 1 false x [] []], [⟨0, sA, [sK], [f]⟩], 0) := by
    unfold topM
    rw [parse_called ht, if_pos rfl]
    exact run_called hf ht hne hxs
  rw [e1] at hs hr ⊢
  simp only at hs hr ⊢
  obtain ⟨ga, gc, rfl, _⟩ := id hs
  obtain ⟨ra, rc, rfl, _⟩ := id hr
  repeat (first | refine RL.vv ?_ | refine RL.p ?_ | refine RL.nil ?_ | refine Sim.seq ?_ | refine Sim.region ?_ | refine Sim.block ?_ | refine Sim.skip ?_ | refine Sim.inBlock ?_ | refine Sim.exit rfl ?_ | refine Sim.condT rfl ?_ | refine Sim.condF rfl ?_)
  refine RL.vv ?_ (hy := y_cat rfl rfl (hcat f hfs))
  refine RL.vv ?_ (hy := y_cat rfl rfl (hcat2 f hfs))
  refine RL.cx (run_top (tCA ++ f ++ tCE) w11 (hl.up h11) hok) ?_
  rintro _ w12 ⟨gv2, rv2, rfl, h12, _, _⟩
  refine ⟨_, rfl, ?_⟩
  have hu12 := hu11.trans h12
  have hs := hs.up h12
  have hr := hr.up h12
  have e2 : topM (calledL f t x) (tCA ++ f ++ tCE) = ([], [], 5) := by
    unfold topM
    rw [parse_called hf, if_pos rfl]
    exact miss_called hf ht hne hxs
  rw [e2]
  simp only
  obtain ⟨gb, go, cs, rfl, _, hgat, hgi, _⟩ := hs.at (i := 0) (x := .mk t 1 false x [] []) rfl
  obtain ⟨v1, v2, rfl, _, _⟩ := gt_succ.1 hgi
  have hgat : At w12 gb (go + 0 * 6) [.string t, .int .i64 1, .bool false, .string x, v1, v2] := hgat
  obtain ⟨rb, ro, cs, rfl, _, hrat, ⟨kv, fv, rfl, _, hfv⟩, _⟩ := hr.at (i := 0) (x := ⟨0, sA, [sK], [f]⟩) rfl
  have hrat : At w12 rb (ro + 0 * 4) _ := hrat
  obtain ⟨fa, fc, rfl, _⟩ := id hfv
  obtain ⟨fb, fo, cs, rfl, _, hfat, rfl, _⟩ := hfv.at (i := 0) (x := f) rfl
  have hfat : At w12 fb (fo + 0 * 1) _ := hfat
  clear hs hr hgi hfv hl e1 e2 h11 h12
  have k0 : (0 : Int) = 0 := rfl
  have k5 : (5 : Int) = 5 := rfl
  have k1 : (([.mk t 1 false x [] []] : List Gt).length : Int) = 1 := rfl
  have k2 : (([⟨0, sA, [sK], [f]⟩] : List Rq).length : Int) = 1 := rfl
  have k3 : ((⟨0, sA, [sK], [f]⟩ : Rq).fields.length : Int) = 1 := rfl
  have k4 : 0 < ([.mk t 1 false x [] []] : List Gt).length := Nat.zero_lt_one
  have k6 : 0 < ([⟨0, sA, [sK], [f]⟩] : List Rq).length := Nat.zero_lt_one
  have k7 : 0 < (⟨0, sA, [sK], [f]⟩ : Rq).fields.length := Nat.zero_lt_one
  have k8 : x = x := rfl
  have k9 : t = t := rfl
  have k10 : f = f := rfl
  repeat (first | refine RL.vv ?_ | refine RL.p ?_ | refine RL.nil ?_ | refine Sim.seq ?_ | refine Sim.region ?_ | refine Sim.block ?_ | refine Sim.skip ?_ | refine Sim.inBlock ?_ | refine Sim.exit rfl ?_ | refine Sim.condT rfl ?_ | refine Sim.condF rfl ?_)
  exact Sim.ret1 Try.func11 rfl rfl ⟨rfl, hu12⟩
end Go.Proofs.Ytgckpmcdlciibac
