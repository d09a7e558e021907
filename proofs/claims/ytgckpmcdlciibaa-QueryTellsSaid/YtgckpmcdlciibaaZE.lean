/- Several texts in one: Contracts of chapter 4: picks' form. Contracts of chapter 4: the reference's Shape; what is wrong with an Ask. -/
import Derived.Test.YtgckpmcdlciibaaZK
namespace Go.Proofs.Ytgckpmcdlciibaa
open Go.RowKit
theorem SliceOf.but {α : Type} {L : Lay α} {S : Nat → Prop} {w w' : World} {v : Value} {xs : List α} {b : Nat} (h : SliceOf L S w v xs) (hb : But b w w') (hS : ∀ k, S k → k ≠ b) : SliceOf L S w' v xs := h.keep fun k hk => hb.keep k (hS k hk)
theorem pck_zero {S : Nat → Prop} {w : World} {v : Value} {l : List Pck} (h : SliceOf (pckLay 0) S w v l) : ¬ 0 < l.length := fun hp => by
  obtain ⟨a, c, rfl, _, _, h3⟩ := h
  obtain ⟨b, o, _, _, he⟩ := h3 hp
  obtain ⟨cs, _, hi⟩ := he 0 l[0] (List.getElem?_eq_getElem hp)
  exact hi
set_option maxHeartbeats 2000000 in
theorem shape_step {m : Nat} {S : Nat → Prop} {v : Value} {l : List Pck} (deep n0 : Int) (bn : Nat) (w : World) (hl : SliceOf (pckLay (m + 1)) S w v l) (hS : ∀ k, S k → k ≠ bn) (hbn : Box w bn 3 [.int .i64 n0]) (hn0 : 0 ≤ n0) (hn60 : n0 ≤ 60) (hd : 0 ≤ deep) (hd9 : deep ≤ 9)
    (hsub : ∀ (kv : Value) (ps : List Pck) (k : Int) (w1 : World), SliceOf (pckLay m) S w1 kv ps → 0 < ps.length → Box w1 bn 3 [.int .i64 k] → 0 ≤ k → k ≤ 60 → deep + 1 ≤ 9 →
      Calls Try.prog 88 #[kv, .int .i64 (deep + 1), .pointer (some ⟨bn, 0, none⟩)] w1 fun en w' => en = .returned (.int .i64 (shapeM m ps (deep + 1) k).1) ∧ But bn w1 w' ∧ Box w' bn 3 [.int .i64 (shapeM m ps (deep + 1) k).2]) :
    Calls Try.prog 88 #[v, .int .i64 deep, .pointer (some ⟨bn, 0, none⟩)] w fun en w' => en = .returned (.int .i64 (shapeM (m + 1) l deep n0).1) ∧ But bn w w' ∧ Box w' bn 3 [.int .i64 (shapeM (m + 1) l deep n0).2] := by
  refine calls_of_sim Try.func88 rfl (Nat.le_of_ble_eq_true rfl) ?_
  obtain ⟨a, c, rfl, hnc, hcm, hel⟩ := id hl
  unfold maxLen at hcm
  by_cases h8 : 8 < deep
  · have hm : shapeM (m + 1) l deep n0 = (3, n0) := if_pos h8
    rw [hm]
    repeat (first | refine RL.vv ?_ | refine RL.p ?_ | refine RL.nil ?_ | refine Sim.seq ?_ | refine Sim.region ?_ | refine Sim.block ?_ | refine Sim.skip ?_ | refine Sim.inBlock ?_ | refine Sim.exit rfl ?_ | refine Sim.condT rfl ?_ | refine Sim.condF rfl ?_)
    exact Sim.ret1 Try.func88 rfl rfl ⟨rfl, .of_up (.refl _), hbn⟩
  by_cases h0 : (l.length : Int) = 0
  · have hm : shapeM (m + 1) l deep n0 = (4, n0) := by rw [shapeM, if_neg h8, if_pos (by omega)]
    rw [hm]
    repeat (first | refine RL.vv ?_ | refine RL.p ?_ | refine RL.nil ?_ | refine Sim.seq ?_ | refine Sim.region ?_ | refine Sim.block ?_ | refine Sim.skip ?_ | refine Sim.inBlock ?_ | refine Sim.exit rfl ?_ | refine Sim.condT rfl ?_ | refine Sim.condF rfl ?_)
    exact Sim.ret1 Try.func88 rfl rfl ⟨rfl, .of_up (.refl _), hbn⟩
  have hm : shapeM (m + 1) l deep n0 = shapeL (fun ps k => shapeM m ps (deep + 1) k) l n0 := by rw [shapeM, if_neg h8, if_neg (by omega)]
  rw [hm]
  have hmon := fun ps k => shapeM_le m ps (deep + 1) k
  generalize hsubE : (fun ps k => shapeM m ps (deep + 1) k) = sub at *
  have hsubA : ∀ ps k, shapeM m ps (deep + 1) k = sub ps k := fun ps k => congrFun (congrFun hsubE ps) k
  simp only [hsubA] at hsub hmon
  clear hsubE hsubA hm
  repeat (first | refine RL.vv ?_ | refine RL.p ?_ | refine RL.nil ?_ | refine Sim.seq ?_ | refine Sim.region ?_ | refine Sim.block ?_ | refine Sim.skip ?_ | refine Sim.inBlock ?_ | refine Sim.exit rfl ?_ | refine Sim.condT rfl ?_ | refine Sim.condF rfl ?_)
  refine Sim.loop (σ := Nat × Int) (fun s => [(0, .slice a l.length c), (1, .int .i64 deep), (2, .pointer (some ⟨bn, 0, none⟩)), (15, .slice a l.length c), (16, .int .i64 (l.length : Int)), (17, .int .i64 (s.1 : Int))])
    (fun s w' => s.1 ≤ l.length ∧ But bn w w' ∧ Box w' bn 3 [.int .i64 s.2] ∧ 0 ≤ s.2 ∧ s.2 ≤ 60 ∧ shapeL sub l n0 = shapeL sub (l.drop s.1) s.2) (fun s => l.length - s.1) (0, n0) sb ⟨Nat.zero_le _, .of_up (.refl _), hbn, hn0, hn60, rfl⟩ ?_
  clear hbn
  rintro ⟨i, n⟩ w1 ⟨hi, hc, hbn, hn1, hn2, htot⟩ next
  simp only at hi hbn hn1 hn2 htot next
  by_cases hlt : i < l.length
  · have hx : l[i]? = some l[i] := List.getElem?_eq_getElem hlt
    have hl1 := hl.but hc hS
    obtain ⟨b, o, cs, rfl, hSb, hat, hiS, _⟩ := hl1.at hx
    obtain ⟨kv, rfl, hkv⟩ := pckLay_succ hiS
    obtain ⟨ka, kc, rfl, hkn, hkm, _⟩ := id hkv
    have hat : At w1 b (o + i * 3) _ := hat
    rw [List.drop_eq_getElem_cons hlt] at htot
    generalize l[i] = p at *
    rw [shapeL] at htot
    repeat (first | refine RL.vv ?_ | refine RL.p ?_ | refine RL.nil ?_ | refine Sim.seq ?_ | refine Sim.region ?_ | refine Sim.block ?_ | refine Sim.skip ?_ | refine Sim.inBlock ?_ | refine Sim.exit rfl ?_ | refine Sim.condT rfl ?_ | refine Sim.condF rfl ?_)
    refine RL.alloc trivial rfl fun w2 hu2 hb8 hs2 => ?_
    refine RL.store trivial rfl rfl hb8 rfl rfl (by simp [Value.oneCell']) (Nat.le_of_ble_eq_true rfl) rfl fun w3 hc3 hb8 => ?_
    have hbl := hbn.lt
    have hu3 : Up w1 w3 := Up.but hu2 hc3 (Nat.le_refl _)
    have hbn := hbn.up hu3
    have hc := hc.trans (But.of_up hu3)
    have hkv := hkv.up hu3
    clear hu2 hc3 hat hiS hl1 hx hu3 hs2
    have h8n : w1.heap.size ≠ bn := by omega
    generalize w1.heap.size = b8 at *
    repeat (first | refine RL.vv ?_ | refine RL.p ?_ | refine RL.nil ?_ | refine Sim.seq ?_ | refine Sim.region ?_ | refine Sim.block ?_ | refine Sim.skip ?_ | refine Sim.inBlock ?_ | refine Sim.exit rfl ?_ | refine Sim.condT rfl ?_ | refine Sim.condF rfl ?_)
    refine RL.val trivial rfl (y_add (d := n + 1) rfl rfl rfl (by omega) (by omega)) ?_
    repeat (first | refine RL.vv ?_ | refine RL.p ?_ | refine RL.nil ?_ | refine Sim.seq ?_ | refine Sim.region ?_ | refine Sim.block ?_ | refine Sim.skip ?_ | refine Sim.inBlock ?_ | refine Sim.exit rfl ?_ | refine Sim.condT rfl ?_ | refine Sim.condF rfl ?_)
    refine RL.store trivial rfl rfl hbn rfl rfl (by simp [Value.oneCell']) (Nat.le_of_ble_eq_true rfl) rfl fun w4 hc4 hbn => ?_
    have hb8 := hb8.keep hc4.keep h8n
    have hc := hc.trans hc4
    have hkv := hkv.but hc4 hS
    clear hc4
    by_cases h60 : 60 < n + 1
    · rw [if_pos h60] at htot
      repeat (first | refine RL.vv ?_ | refine RL.p ?_ | refine RL.nil ?_ | refine Sim.seq ?_ | refine Sim.region ?_ | refine Sim.block ?_ | refine Sim.skip ?_ | refine Sim.inBlock ?_ | refine Sim.exit rfl ?_ | refine Sim.condT rfl ?_ | refine Sim.condF rfl ?_)
      exact Sim.ret1 Try.func88 rfl rfl ⟨by rw [htot], hc, by rw [htot]; exact hbn⟩
    rw [if_neg h60] at htot
    repeat (first | refine RL.vv ?_ | refine RL.p ?_ | refine RL.nil ?_ | refine Sim.seq ?_ | refine Sim.region ?_ | refine Sim.block ?_ | refine Sim.skip ?_ | refine Sim.inBlock ?_ | refine Sim.exit rfl ?_ | refine Sim.condT rfl ?_ | refine Sim.condF rfl ?_)
    refine RL.call trivial rfl (c_static rfl) (Named_any p.field w4) ?_
    rintro _ w5 ⟨rfl, hu5⟩
    refine ⟨_, rfl, ?_⟩
    have hb8 := hb8.up hu5
    have hc := hc.trans (But.of_up hu5)
    have hkv := hkv.up hu5
    have hbn := hbn.up hu5
    clear hu5
    rcases Bool.eq_false_or_eq_true (named p.field) with hn | hn
    · rw [hn]
      by_cases has : p.as = ⟨#[]⟩
      · rw [if_pos ⟨hn, fun h => h.1 has⟩] at htot
        by_cases hk0 : (0 : Int) < p.picks.length
        · rw [if_pos (by omega)] at htot
          repeat (first | refine RL.vv ?_ | refine RL.p ?_ | refine RL.nil ?_ | refine Sim.seq ?_ | refine Sim.region ?_ | refine Sim.block ?_ | refine Sim.skip ?_ | refine Sim.inBlock ?_ | refine Sim.exit rfl ?_ | refine Sim.condT rfl ?_ | refine Sim.condF rfl ?_)
          refine RL.val trivial rfl (y_add (d := deep + 1) rfl rfl rfl (by omega) (by omega)) ?_
          repeat (first | refine RL.vv ?_ | refine RL.p ?_ | refine RL.nil ?_ | refine Sim.seq ?_ | refine Sim.region ?_ | refine Sim.block ?_ | refine Sim.skip ?_ | refine Sim.inBlock ?_ | refine Sim.exit rfl ?_ | refine Sim.condT rfl ?_ | refine Sim.condF rfl ?_)
          refine RL.call trivial rfl (c_static rfl) (hsub _ p.picks (n + 1) w5 hkv (by omega) hbn (by omega) (by omega) (by omega)) ?_
          rintro _ w6 ⟨rfl, hc6, hbn⟩
          refine ⟨_, rfl, ?_⟩
          have hc := hc.trans hc6
          by_cases he : (sub p.picks (n + 1)).1 = 0
          · rw [if_pos he] at htot
            have hle := hmon p.picks (n + 1) (by omega) he
            repeat (first | refine RL.vv ?_ | refine RL.p ?_ | refine RL.nil ?_ | refine Sim.seq ?_ | refine Sim.region ?_ | refine Sim.block ?_ | refine Sim.skip ?_ | refine Sim.inBlock ?_ | refine Sim.exit rfl ?_ | refine Sim.condT rfl ?_ | refine Sim.condF rfl ?_)
            exact next (i + 1, (sub p.picks (n + 1)).2) _ _ ⟨by simp only; omega, hc, hbn, by simp only; omega, hle.1, htot⟩ (by simp only; omega) sb
          · rw [if_neg he] at htot
            repeat (first | refine RL.vv ?_ | refine RL.p ?_ | refine RL.nil ?_ | refine Sim.seq ?_ | refine Sim.region ?_ | refine Sim.block ?_ | refine Sim.skip ?_ | refine Sim.inBlock ?_ | refine Sim.exit rfl ?_ | refine Sim.condT rfl ?_ | refine Sim.condF rfl ?_)
            exact Sim.ret1 Try.func88 rfl rfl ⟨by rw [htot], hc, by rw [htot]; exact hbn⟩
        · rw [if_neg (by omega)] at htot
          repeat (first | refine RL.vv ?_ | refine RL.p ?_ | refine RL.nil ?_ | refine Sim.seq ?_ | refine Sim.region ?_ | refine Sim.block ?_ | refine Sim.skip ?_ | refine Sim.inBlock ?_ | refine Sim.exit rfl ?_ | refine Sim.condT rfl ?_ | refine Sim.condF rfl ?_)
          exact next (i + 1, n + 1) _ _ ⟨by simp only; omega, hc, hbn, by simp only; omega, by simp only; omega, htot⟩ (by simp only; omega) sb
      repeat (first | refine RL.vv ?_ | refine RL.p ?_ | refine RL.nil ?_ | refine Sim.seq ?_ | refine Sim.region ?_ | refine Sim.block ?_ | refine Sim.skip ?_ | refine Sim.inBlock ?_ | refine Sim.exit rfl ?_ | refine Sim.condT rfl ?_ | refine Sim.condF rfl ?_)
      refine RL.call ⟨_, _, rfl, rfl, rfl⟩ rfl (c_static rfl) (Named_any p.as w5) ?_
      rintro _ w6 ⟨rfl, hu6⟩
      refine ⟨_, rfl, ?_⟩
      have hb8 := hb8.up hu6
      have hc := hc.trans (But.of_up hu6)
      have hkv := hkv.up hu6
      have hbn := hbn.up hu6
      clear hu6
      rcases Bool.eq_false_or_eq_true (named p.as) with hna | hna
      · rw [if_pos ⟨hn, fun h => by rw [hna] at h; cases h.2⟩] at htot
        rw [hna]
        by_cases hk0 : (0 : Int) < p.picks.length
        · rw [if_pos (by omega)] at htot
          repeat (first | refine RL.vv ?_ | refine RL.p ?_ | refine RL.nil ?_ | refine Sim.seq ?_ | refine Sim.region ?_ | refine Sim.block ?_ | refine Sim.skip ?_ | refine Sim.inBlock ?_ | refine Sim.exit rfl ?_ | refine Sim.condT rfl ?_ | refine Sim.condF rfl ?_)
          refine RL.val trivial rfl (y_add (d := deep + 1) rfl rfl rfl (by omega) (by omega)) ?_
          repeat (first | refine RL.vv ?_ | refine RL.p ?_ | refine RL.nil ?_ | refine Sim.seq ?_ | refine Sim.region ?_ | refine Sim.block ?_ | refine Sim.skip ?_ | refine Sim.inBlock ?_ | refine Sim.exit rfl ?_ | refine Sim.condT rfl ?_ | refine Sim.condF rfl ?_)
          refine RL.call trivial rfl (c_static rfl) (hsub _ p.picks (n + 1) w6 hkv (by omega) hbn (by omega) (by omega) (by omega)) ?_
          rintro _ w7 ⟨rfl, hc6, hbn⟩
          refine ⟨_, rfl, ?_⟩
          have hc := hc.trans hc6
          by_cases he : (sub p.picks (n + 1)).1 = 0
          · rw [if_pos he] at htot
            have hle := hmon p.picks (n + 1) (by omega) he
            repeat (first | refine RL.vv ?_ | refine RL.p ?_ | refine RL.nil ?_ | refine Sim.seq ?_ | refine Sim.region ?_ | refine Sim.block ?_ | refine Sim.skip ?_ | refine Sim.inBlock ?_ | refine Sim.exit rfl ?_ | refine Sim.condT rfl ?_ | refine Sim.condF rfl ?_)
            exact next (i + 1, (sub p.picks (n + 1)).2) _ _ ⟨by simp only; omega, hc, hbn, by simp only; omega, hle.1, htot⟩ (by simp only; omega) sb
          · rw [if_neg he] at htot
            repeat (first | refine RL.vv ?_ | refine RL.p ?_ | refine RL.nil ?_ | refine Sim.seq ?_ | refine Sim.region ?_ | refine Sim.block ?_ | refine Sim.skip ?_ | refine Sim.inBlock ?_ | refine Sim.exit rfl ?_ | refine Sim.condT rfl ?_ | refine Sim.condF rfl ?_)
            exact Sim.ret1 Try.func88 rfl rfl ⟨by rw [htot], hc, by rw [htot]; exact hbn⟩
        · rw [if_neg (by omega)] at htot
          repeat (first | refine RL.vv ?_ | refine RL.p ?_ | refine RL.nil ?_ | refine Sim.seq ?_ | refine Sim.region ?_ | refine Sim.block ?_ | refine Sim.skip ?_ | refine Sim.inBlock ?_ | refine Sim.exit rfl ?_ | refine Sim.condT rfl ?_ | refine Sim.condF rfl ?_)
          exact next (i + 1, n + 1) _ _ ⟨by simp only; omega, hc, hbn, by simp only; omega, by simp only; omega, htot⟩ (by simp only; omega) sb
      · rw [if_neg fun h => h.2 ⟨has, hna⟩] at htot
        rw [hna]
        repeat (first | refine RL.vv ?_ | refine RL.p ?_ | refine RL.nil ?_ | refine Sim.seq ?_ | refine Sim.region ?_ | refine Sim.block ?_ | refine Sim.skip ?_ | refine Sim.inBlock ?_ | refine Sim.exit rfl ?_ | refine Sim.condT rfl ?_ | refine Sim.condF rfl ?_)
        exact Sim.ret1 Try.func88 rfl rfl ⟨by rw [htot], hc, by rw [htot]; exact hbn⟩
    · rw [if_neg fun h => by rw [hn] at h; cases h.1] at htot
      rw [hn]
      repeat (first | refine RL.vv ?_ | refine RL.p ?_ | refine RL.nil ?_ | refine Sim.seq ?_ | refine Sim.region ?_ | refine Sim.block ?_ | refine Sim.skip ?_ | refine Sim.inBlock ?_ | refine Sim.exit rfl ?_ | refine Sim.condT rfl ?_ | refine Sim.condF rfl ?_)
      exact Sim.ret1 Try.func88 rfl rfl ⟨by rw [htot], hc, by rw [htot]; exact hbn⟩
  · rw [List.drop_eq_nil_of_le (by omega)] at htot
    rw [htot]
    repeat (first | refine RL.vv ?_ | refine RL.p ?_ | refine RL.nil ?_ | refine Sim.seq ?_ | refine Sim.region ?_ | refine Sim.block ?_ | refine Sim.skip ?_ | refine Sim.inBlock ?_ | refine Sim.exit rfl ?_ | refine Sim.condT rfl ?_ | refine Sim.condF rfl ?_)
    exact Sim.ret1 Try.func88 rfl rfl ⟨rfl, hc, hbn⟩
theorem shape_any : ∀ (m : Nat) {S : Nat → Prop} {v : Value} {l : List Pck} (deep n0 : Int) (bn : Nat) (w : World), SliceOf (pckLay (m + 1)) S w v l → (∀ k, S k → k ≠ bn) → Box w bn 3 [.int .i64 n0] → 0 ≤ n0 → n0 ≤ 60 → 0 ≤ deep → deep ≤ 9 →
    Calls Try.prog 88 #[v, .int .i64 deep, .pointer (some ⟨bn, 0, none⟩)] w fun en w' => en = .returned (.int .i64 (shapeM (m + 1) l deep n0).1) ∧ But bn w w' ∧ Box w' bn 3 [.int .i64 (shapeM (m + 1) l deep n0).2]
  | 0, S, v, l, deep, n0, bn, w, hl, hS, hbn, h0, h60, hd, hd9 => shape_step deep n0 bn w hl hS hbn h0 h60 hd hd9 fun kv ps k w1 hk hp => absurd hp (pck_zero hk)
  | m + 1, S, v, l, deep, n0, bn, w, hl, hS, hbn, h0, h60, hd, hd9 => shape_step deep n0 bn w hl hS hbn h0 h60 hd hd9 fun kv ps k w1 hk _ hb hk0 hk60 hdd => shape_any m (deep + 1) k bn w1 hk hS hb hk0 hk60 (by omega) hdd
end Go.Proofs.Ytgckpmcdlciibaa

namespace Go.Proofs.Ytgckpmcdlciibaa
open Go.RowKit
set_option maxHeartbeats 2000000 in
theorem RShape_step {m : Nat} {S : Nat → Prop} {v : Value} {l : List Pck} (deep n0 : Int) (w : World) (hl : SliceOf (pckLay (m + 1)) S w v l) (hok : ∀ p ∈ l, okPck (m + 1) p) (hn0 : 0 ≤ n0) (hn60 : n0 ≤ 60) (hd : 0 ≤ deep) (hd9 : deep ≤ 9)
    (hsub : ∀ (kv : Value) (ps : List Pck) (k : Int) (w1 : World), SliceOf (pckLay m) S w1 kv ps → 0 < ps.length → (∀ p ∈ ps, okPck m p) → 0 ≤ k → k ≤ 60 → deep + 1 ≤ 9 →
      Calls Try.prog 89 #[kv, .int .i64 (deep + 1), .int .i64 k] w1 fun en w' => en = .returned (.tuple #[.int .i64 (shapeM m ps (deep + 1) k).1, .int .i64 (shapeM m ps (deep + 1) k).2]) ∧ Up w1 w') :
    Calls Try.prog 89 #[v, .int .i64 deep, .int .i64 n0] w fun en w' => en = .returned (.tuple #[.int .i64 (shapeM (m + 1) l deep n0).1, .int .i64 (shapeM (m + 1) l deep n0).2]) ∧ Up w w' := by
  refine calls_of_sim Try.func89 rfl (Nat.le_of_ble_eq_true rfl) ?_
  obtain ⟨a, c, rfl, hnc, hcm, hel⟩ := id hl
  unfold maxLen at hcm
  by_cases h8 : 8 < deep
  · have hm : shapeM (m + 1) l deep n0 = (3, n0) := if_pos h8
    rw [hm]
    repeat (first | refine RL.vv ?_ | refine RL.p ?_ | refine RL.nil ?_ | refine Sim.seq ?_ | refine Sim.region ?_ | refine Sim.block ?_ | refine Sim.skip ?_ | refine Sim.inBlock ?_ | refine Sim.exit rfl ?_ | refine Sim.condT rfl ?_ | refine Sim.condF rfl ?_)
    exact Sim.ret2 Try.func89 rfl rfl rfl ⟨rfl, .refl _⟩
  by_cases h0 : (l.length : Int) = 0
  · have hm : shapeM (m + 1) l deep n0 = (4, n0) := by rw [shapeM, if_neg h8, if_pos (by omega)]
    rw [hm]
    repeat (first | refine RL.vv ?_ | refine RL.p ?_ | refine RL.nil ?_ | refine Sim.seq ?_ | refine Sim.region ?_ | refine Sim.block ?_ | refine Sim.skip ?_ | refine Sim.inBlock ?_ | refine Sim.exit rfl ?_ | refine Sim.condT rfl ?_ | refine Sim.condF rfl ?_)
    exact Sim.ret2 Try.func89 rfl rfl rfl ⟨rfl, .refl _⟩
  have hm : shapeM (m + 1) l deep n0 = shapeL (fun ps k => shapeM m ps (deep + 1) k) l n0 := by rw [shapeM, if_neg h8, if_neg (by omega)]
  rw [hm]
  have hmon := fun ps k => shapeM_le m ps (deep + 1) k
  generalize hsubE : (fun ps k => shapeM m ps (deep + 1) k) = sub at *
  have hsubA : ∀ ps k, shapeM m ps (deep + 1) k = sub ps k := fun ps k => congrFun (congrFun hsubE ps) k
  simp only [hsubA] at hsub hmon
  clear hsubE hsubA hm
  repeat (first | refine RL.vv ?_ | refine RL.p ?_ | refine RL.nil ?_ | refine Sim.seq ?_ | refine Sim.region ?_ | refine Sim.block ?_ | refine Sim.skip ?_ | refine Sim.inBlock ?_ | refine Sim.exit rfl ?_ | refine Sim.condT rfl ?_ | refine Sim.condF rfl ?_)
  refine Sim.loop (σ := Nat × Int) (fun s => [(0, .slice a l.length c), (1, .int .i64 deep), (2, .int .i64 s.2), (18, .slice a l.length c), (19, .int .i64 (l.length : Int)), (20, .int .i64 (s.1 : Int))])
    (fun s w' => s.1 ≤ l.length ∧ Up w w' ∧ 0 ≤ s.2 ∧ s.2 ≤ 60 ∧ shapeL sub l n0 = shapeL sub (l.drop s.1) s.2) (fun s => l.length - s.1) (0, n0) sb ⟨Nat.zero_le _, .refl _, hn0, hn60, rfl⟩ ?_
  rintro ⟨i, n⟩ w1 ⟨hi, hu, hn1, hn2, htot⟩ next
  simp only at hi hn1 hn2 htot next
  by_cases hlt : i < l.length
  · have hx : l[i]? = some l[i] := List.getElem?_eq_getElem hlt
    obtain ⟨b, o, cs, rfl, hSb, hat, hiS, _⟩ := hl.at hx
    obtain ⟨kv, rfl, hkv⟩ := pckLay_succ hiS
    obtain ⟨ka, kc, rfl, hkn, hkm, _⟩ := id hkv
    have hat : At w b (o + i * 3) _ := hat
    have hokp := hok _ (List.getElem_mem hlt)
    rw [List.drop_eq_getElem_cons hlt] at htot
    generalize l[i] = p at *
    obtain ⟨ho1, ho2, ho3⟩ := hokp
    rw [shapeL] at htot
    repeat (first | refine RL.vv ?_ | refine RL.p ?_ | refine RL.nil ?_ | refine Sim.seq ?_ | refine Sim.region ?_ | refine Sim.block ?_ | refine Sim.skip ?_ | refine Sim.inBlock ?_ | refine Sim.exit rfl ?_ | refine Sim.condT rfl ?_ | refine Sim.condF rfl ?_)
    refine RL.alloc trivial rfl fun w2 hu2 hb8 hs2 => ?_
    refine RL.store trivial rfl rfl hb8 rfl rfl (by simp [Value.oneCell']) (Nat.le_of_ble_eq_true rfl) rfl fun w3 hc3 hb8 => ?_
    have hu3 : Up w1 w3 := Up.but hu2 hc3 (Nat.le_refl _)
    have hu := hu.trans hu3
    clear hu2 hc3 hiS hx hu3 hs2
    generalize w1.heap.size = b8 at *
    by_cases h60 : 60 < n + 1
    · rw [if_pos h60] at htot
      repeat (first | refine RL.vv ?_ | refine RL.p ?_ | refine RL.nil ?_ | refine Sim.seq ?_ | refine Sim.region ?_ | refine Sim.block ?_ | refine Sim.skip ?_ | refine Sim.inBlock ?_ | refine Sim.exit rfl ?_ | refine Sim.condT rfl ?_ | refine Sim.condF rfl ?_)
      refine RL.val trivial rfl (y_add (d := n + 1) rfl rfl rfl (by omega) (by omega)) ?_
      repeat (first | refine RL.vv ?_ | refine RL.p ?_ | refine RL.nil ?_ | refine Sim.seq ?_ | refine Sim.region ?_ | refine Sim.block ?_ | refine Sim.skip ?_ | refine Sim.inBlock ?_ | refine Sim.exit rfl ?_ | refine Sim.condT rfl ?_ | refine Sim.condF rfl ?_)
      exact Sim.ret2 Try.func89 rfl rfl rfl ⟨by rw [htot], hu⟩
    rw [if_neg h60] at htot
    repeat (first | refine RL.vv ?_ | refine RL.p ?_ | refine RL.nil ?_ | refine Sim.seq ?_ | refine Sim.region ?_ | refine Sim.block ?_ | refine Sim.skip ?_ | refine Sim.inBlock ?_ | refine Sim.exit rfl ?_ | refine Sim.condT rfl ?_ | refine Sim.condF rfl ?_)
    refine RL.val trivial rfl (y_add (d := n + 1) rfl rfl rfl (by omega) (by omega)) ?_
    repeat (first | refine RL.vv ?_ | refine RL.p ?_ | refine RL.nil ?_ | refine Sim.seq ?_ | refine Sim.region ?_ | refine Sim.block ?_ | refine Sim.skip ?_ | refine Sim.inBlock ?_ | refine Sim.exit rfl ?_ | refine Sim.condT rfl ?_ | refine Sim.condF rfl ?_)
    refine RL.call trivial rfl (c_static rfl) (RNamed_any p.field w3 ho2) ?_
    rintro _ w5 ⟨rfl, hu5⟩
    refine ⟨_, rfl, ?_⟩
    have hb8 := hb8.up hu5
    have hu := hu.trans hu5
    clear hu5
    rcases Bool.eq_false_or_eq_true (named p.field) with hn | hn
    · rw [hn]
      by_cases has : p.as = ⟨#[]⟩
      · rw [if_pos ⟨hn, fun h => h.1 has⟩] at htot
        by_cases hk0 : (0 : Int) < p.picks.length
        · rw [if_pos (by omega)] at htot
          repeat (first | refine RL.vv ?_ | refine RL.p ?_ | refine RL.nil ?_ | refine Sim.seq ?_ | refine Sim.region ?_ | refine Sim.block ?_ | refine Sim.skip ?_ | refine Sim.inBlock ?_ | refine Sim.exit rfl ?_ | refine Sim.condT rfl ?_ | refine Sim.condF rfl ?_)
          refine RL.val trivial rfl (y_add (d := deep + 1) rfl rfl rfl (by omega) (by omega)) ?_
          repeat (first | refine RL.vv ?_ | refine RL.p ?_ | refine RL.nil ?_ | refine Sim.seq ?_ | refine Sim.region ?_ | refine Sim.block ?_ | refine Sim.skip ?_ | refine Sim.inBlock ?_ | refine Sim.exit rfl ?_ | refine Sim.condT rfl ?_ | refine Sim.condF rfl ?_)
          refine RL.call trivial rfl (c_static rfl) (hsub _ p.picks (n + 1) w5 (hkv.up hu) (by omega) ho3 (by omega) (by omega) (by omega)) ?_
          rintro _ w6 ⟨rfl, hu6⟩
          refine ⟨_, rfl, ?_⟩
          have hu := hu.trans hu6
          by_cases he : (sub p.picks (n + 1)).1 = 0
          · rw [if_pos he] at htot
            have hle := hmon p.picks (n + 1) (by omega) he
            repeat (first | refine RL.vv ?_ | refine RL.p ?_ | refine RL.nil ?_ | refine Sim.seq ?_ | refine Sim.region ?_ | refine Sim.block ?_ | refine Sim.skip ?_ | refine Sim.inBlock ?_ | refine Sim.exit rfl ?_ | refine Sim.condT rfl ?_ | refine Sim.condF rfl ?_)
            exact next (i + 1, (sub p.picks (n + 1)).2) _ _ ⟨by simp only; omega, hu, by simp only; omega, hle.1, htot⟩ (by simp only; omega) sb
          · rw [if_neg he] at htot
            repeat (first | refine RL.vv ?_ | refine RL.p ?_ | refine RL.nil ?_ | refine Sim.seq ?_ | refine Sim.region ?_ | refine Sim.block ?_ | refine Sim.skip ?_ | refine Sim.inBlock ?_ | refine Sim.exit rfl ?_ | refine Sim.condT rfl ?_ | refine Sim.condF rfl ?_)
            exact Sim.ret2 Try.func89 rfl rfl rfl ⟨by rw [htot]; rfl, hu⟩
        · rw [if_neg (by omega)] at htot
          repeat (first | refine RL.vv ?_ | refine RL.p ?_ | refine RL.nil ?_ | refine Sim.seq ?_ | refine Sim.region ?_ | refine Sim.block ?_ | refine Sim.skip ?_ | refine Sim.inBlock ?_ | refine Sim.exit rfl ?_ | refine Sim.condT rfl ?_ | refine Sim.condF rfl ?_)
          exact next (i + 1, n + 1) _ _ ⟨by simp only; omega, hu, by simp only; omega, by simp only; omega, htot⟩ (by simp only; omega) sb
      repeat (first | refine RL.vv ?_ | refine RL.p ?_ | refine RL.nil ?_ | refine Sim.seq ?_ | refine Sim.region ?_ | refine Sim.block ?_ | refine Sim.skip ?_ | refine Sim.inBlock ?_ | refine Sim.exit rfl ?_ | refine Sim.condT rfl ?_ | refine Sim.condF rfl ?_)
      refine RL.call ⟨_, _, rfl, rfl, rfl⟩ rfl (c_static rfl) (RNamed_any p.as w5 ho1) ?_
      rintro _ w6 ⟨rfl, hu6⟩
      refine ⟨_, rfl, ?_⟩
      have hb8 := hb8.up hu6
      have hu := hu.trans hu6
      clear hu6
      rcases Bool.eq_false_or_eq_true (named p.as) with hna | hna
      · rw [if_pos ⟨hn, fun h => by rw [hna] at h; cases h.2⟩] at htot
        rw [hna]
        by_cases hk0 : (0 : Int) < p.picks.length
        · rw [if_pos (by omega)] at htot
          repeat (first | refine RL.vv ?_ | refine RL.p ?_ | refine RL.nil ?_ | refine Sim.seq ?_ | refine Sim.region ?_ | refine Sim.block ?_ | refine Sim.skip ?_ | refine Sim.inBlock ?_ | refine Sim.exit rfl ?_ | refine Sim.condT rfl ?_ | refine Sim.condF rfl ?_)
          refine RL.val trivial rfl (y_add (d := deep + 1) rfl rfl rfl (by omega) (by omega)) ?_
          repeat (first | refine RL.vv ?_ | refine RL.p ?_ | refine RL.nil ?_ | refine Sim.seq ?_ | refine Sim.region ?_ | refine Sim.block ?_ | refine Sim.skip ?_ | refine Sim.inBlock ?_ | refine Sim.exit rfl ?_ | refine Sim.condT rfl ?_ | refine Sim.condF rfl ?_)
          refine RL.call trivial rfl (c_static rfl) (hsub _ p.picks (n + 1) w6 (hkv.up hu) (by omega) ho3 (by omega) (by omega) (by omega)) ?_
          rintro _ w7 ⟨rfl, hu7⟩
          refine ⟨_, rfl, ?_⟩
          have hu := hu.trans hu7
          by_cases he : (sub p.picks (n + 1)).1 = 0
          · rw [if_pos he] at htot
            have hle := hmon p.picks (n + 1) (by omega) he
            repeat (first | refine RL.vv ?_ | refine RL.p ?_ | refine RL.nil ?_ | refine Sim.seq ?_ | refine Sim.region ?_ | refine Sim.block ?_ | refine Sim.skip ?_ | refine Sim.inBlock ?_ | refine Sim.exit rfl ?_ | refine Sim.condT rfl ?_ | refine Sim.condF rfl ?_)
            exact next (i + 1, (sub p.picks (n + 1)).2) _ _ ⟨by simp only; omega, hu, by simp only; omega, hle.1, htot⟩ (by simp only; omega) sb
          · rw [if_neg he] at htot
            repeat (first | refine RL.vv ?_ | refine RL.p ?_ | refine RL.nil ?_ | refine Sim.seq ?_ | refine Sim.region ?_ | refine Sim.block ?_ | refine Sim.skip ?_ | refine Sim.inBlock ?_ | refine Sim.exit rfl ?_ | refine Sim.condT rfl ?_ | refine Sim.condF rfl ?_)
            exact Sim.ret2 Try.func89 rfl rfl rfl ⟨by rw [htot]; rfl, hu⟩
        · rw [if_neg (by omega)] at htot
          repeat (first | refine RL.vv ?_ | refine RL.p ?_ | refine RL.nil ?_ | refine Sim.seq ?_ | refine Sim.region ?_ | refine Sim.block ?_ | refine Sim.skip ?_ | refine Sim.inBlock ?_ | refine Sim.exit rfl ?_ | refine Sim.condT rfl ?_ | refine Sim.condF rfl ?_)
          exact next (i + 1, n + 1) _ _ ⟨by simp only; omega, hu, by simp only; omega, by simp only; omega, htot⟩ (by simp only; omega) sb
      · rw [if_neg fun h => h.2 ⟨has, hna⟩] at htot
        rw [hna]
        repeat (first | refine RL.vv ?_ | refine RL.p ?_ | refine RL.nil ?_ | refine Sim.seq ?_ | refine Sim.region ?_ | refine Sim.block ?_ | refine Sim.skip ?_ | refine Sim.inBlock ?_ | refine Sim.exit rfl ?_ | refine Sim.condT rfl ?_ | refine Sim.condF rfl ?_)
        exact Sim.ret2 Try.func89 rfl rfl rfl ⟨by rw [htot], hu⟩
    · rw [if_neg fun h => by rw [hn] at h; cases h.1] at htot
      rw [hn]
      repeat (first | refine RL.vv ?_ | refine RL.p ?_ | refine RL.nil ?_ | refine Sim.seq ?_ | refine Sim.region ?_ | refine Sim.block ?_ | refine Sim.skip ?_ | refine Sim.inBlock ?_ | refine Sim.exit rfl ?_ | refine Sim.condT rfl ?_ | refine Sim.condF rfl ?_)
      exact Sim.ret2 Try.func89 rfl rfl rfl ⟨by rw [htot], hu⟩
  · rw [List.drop_eq_nil_of_le (by omega)] at htot
    rw [htot]
    repeat (first | refine RL.vv ?_ | refine RL.p ?_ | refine RL.nil ?_ | refine Sim.seq ?_ | refine Sim.region ?_ | refine Sim.block ?_ | refine Sim.skip ?_ | refine Sim.inBlock ?_ | refine Sim.exit rfl ?_ | refine Sim.condT rfl ?_ | refine Sim.condF rfl ?_)
    exact Sim.ret2 Try.func89 rfl rfl rfl ⟨rfl, hu⟩
theorem RShape_any : ∀ (m : Nat) {S : Nat → Prop} {v : Value} {l : List Pck} (deep n0 : Int) (w : World), SliceOf (pckLay (m + 1)) S w v l → (∀ p ∈ l, okPck (m + 1) p) → 0 ≤ n0 → n0 ≤ 60 → 0 ≤ deep → deep ≤ 9 →
    Calls Try.prog 89 #[v, .int .i64 deep, .int .i64 n0] w fun en w' => en = .returned (.tuple #[.int .i64 (shapeM (m + 1) l deep n0).1, .int .i64 (shapeM (m + 1) l deep n0).2]) ∧ Up w w'
  | 0, S, v, l, deep, n0, w, hl, hok, h0, h60, hd, hd9 => RShape_step deep n0 w hl hok h0 h60 hd hd9 fun kv ps k w1 hk hp => absurd hp (pck_zero hk)
  | m + 1, S, v, l, deep, n0, w, hl, hok, h0, h60, hd, hd9 => RShape_step deep n0 w hl hok h0 h60 hd hd9 fun kv ps k w1 hk _ hokp hk0 hk60 hdd => RShape_any m (deep + 1) k w1 hk hokp hk0 hk60 (by omega) hdd

theorem RWrongAsk_any {m : Nat} {S : Nat → Prop} {v : Value} (q : Ak) (w : World) (hl : SliceOf (pckLay (m + 1)) S w v q.picks) (hok : ∀ p ∈ q.picks, okPck (m + 1) p) (h1 : q.type.size ≤ maxLen) (h2 : q.key.size ≤ maxLen) :
    Calls Try.prog 46 #[.agg #[.string q.type, .string q.key, v]] w fun en w' => en = .returned (.int .i64 (wrongAsk (m + 1) q)) ∧ Up w w' := by
  refine calls_of_sim Try.func46 rfl (Nat.le_of_ble_eq_true rfl) ?_
  obtain ⟨a, c, rfl, hnc, hcm, hel⟩ := id hl
  repeat (first | refine RL.vv ?_ | refine RL.p ?_ | refine RL.nil ?_ | refine Sim.seq ?_ | refine Sim.region ?_ | refine Sim.block ?_ | refine Sim.skip ?_ | refine Sim.inBlock ?_ | refine Sim.exit rfl ?_ | refine Sim.condT rfl ?_ | refine Sim.condF rfl ?_)
  refine RL.box trivial rfl rfl fun w1 hu hb1 hsz => ?_
  repeat (first | refine RL.vv ?_ | refine RL.p ?_ | refine RL.nil ?_ | refine Sim.seq ?_ | refine Sim.region ?_ | refine Sim.block ?_ | refine Sim.skip ?_ | refine Sim.inBlock ?_ | refine Sim.exit rfl ?_ | refine Sim.condT rfl ?_ | refine Sim.condF rfl ?_)
  refine RL.call trivial rfl (c_static rfl) (RNamed_any q.type w1 h1) ?_
  rintro _ w2 ⟨rfl, hu2⟩
  refine ⟨_, rfl, ?_⟩
  have hb1 := hb1.up hu2
  have hu := hu.trans hu2
  unfold wrongAsk
  rcases Bool.eq_false_or_eq_true (named q.type) with hn | hn
  · rw [hn]
    repeat (first | refine RL.vv ?_ | refine RL.p ?_ | refine RL.nil ?_ | refine Sim.seq ?_ | refine Sim.region ?_ | refine Sim.block ?_ | refine Sim.skip ?_ | refine Sim.inBlock ?_ | refine Sim.exit rfl ?_ | refine Sim.condT rfl ?_ | refine Sim.condF rfl ?_)
    refine RL.call ⟨_, _, rfl, rfl, rfl⟩ rfl (c_static rfl) (RNamed_any q.key w2 h2) ?_
    rintro _ w3 ⟨rfl, hu3⟩
    refine ⟨_, rfl, ?_⟩
    have hb1 := hb1.up hu3
    have hu := hu.trans hu3
    rcases Bool.eq_false_or_eq_true (named q.key) with hk | hk
    · rw [hk, if_pos ⟨rfl, rfl⟩]
      repeat (first | refine RL.vv ?_ | refine RL.p ?_ | refine RL.nil ?_ | refine Sim.seq ?_ | refine Sim.region ?_ | refine Sim.block ?_ | refine Sim.skip ?_ | refine Sim.inBlock ?_ | refine Sim.exit rfl ?_ | refine Sim.condT rfl ?_ | refine Sim.condF rfl ?_)
      refine RL.call trivial rfl (c_static rfl) (RShape_any m 1 0 w3 (hl.up hu) hok (by omega) (by omega) (by omega) (by omega)) ?_
      rintro _ w4 ⟨rfl, hu4⟩
      refine ⟨_, rfl, ?_⟩
      repeat (first | refine RL.vv ?_ | refine RL.p ?_ | refine RL.nil ?_ | refine Sim.seq ?_ | refine Sim.region ?_ | refine Sim.block ?_ | refine Sim.skip ?_ | refine Sim.inBlock ?_ | refine Sim.exit rfl ?_ | refine Sim.condT rfl ?_ | refine Sim.condF rfl ?_)
      exact Sim.ret1 Try.func46 rfl rfl ⟨rfl, hu.trans hu4⟩
    · rw [hk, if_neg (fun h => by cases h.2)]
      repeat (first | refine RL.vv ?_ | refine RL.p ?_ | refine RL.nil ?_ | refine Sim.seq ?_ | refine Sim.region ?_ | refine Sim.block ?_ | refine Sim.skip ?_ | refine Sim.inBlock ?_ | refine Sim.exit rfl ?_ | refine Sim.condT rfl ?_ | refine Sim.condF rfl ?_)
      exact Sim.ret1 Try.func46 rfl rfl ⟨rfl, hu⟩
  · rw [hn, if_neg (fun h => by cases h.1)]
    repeat (first | refine RL.vv ?_ | refine RL.p ?_ | refine RL.nil ?_ | refine Sim.seq ?_ | refine Sim.region ?_ | refine Sim.block ?_ | refine Sim.skip ?_ | refine Sim.inBlock ?_ | refine Sim.exit rfl ?_ | refine Sim.condT rfl ?_ | refine Sim.condF rfl ?_)
    exact Sim.ret1 Try.func46 rfl rfl ⟨rfl, hu⟩
theorem WrongAsk_any {m : Nat} {S : Nat → Prop} {v : Value} (q : Ak) (w : World) (hl : SliceOf (pckLay (m + 1)) S w v q.picks) :
    Calls Try.prog 45 #[.agg #[.string q.type, .string q.key, v]] w fun en w' => en = .returned (.int .i64 (wrongAsk (m + 1) q)) ∧ Up w w' := by
  refine calls_of_sim Try.func45 rfl (Nat.le_of_ble_eq_true rfl) ?_
  obtain ⟨a, c, rfl, hnc, hcm, hel⟩ := id hl
  repeat (first | refine RL.vv ?_ | refine RL.p ?_ | refine RL.nil ?_ | refine Sim.seq ?_ | refine Sim.region ?_ | refine Sim.block ?_ | refine Sim.skip ?_ | refine Sim.inBlock ?_ | refine Sim.exit rfl ?_ | refine Sim.condT rfl ?_ | refine Sim.condF rfl ?_)
  refine RL.box trivial rfl rfl fun w1 hu hb1 hsz => ?_
  repeat (first | refine RL.vv ?_ | refine RL.p ?_ | refine RL.nil ?_ | refine Sim.seq ?_ | refine Sim.region ?_ | refine Sim.block ?_ | refine Sim.skip ?_ | refine Sim.inBlock ?_ | refine Sim.exit rfl ?_ | refine Sim.condT rfl ?_ | refine Sim.condF rfl ?_)
  refine RL.call trivial rfl (c_static rfl) (Named_any q.type w1) ?_
  rintro _ w2 ⟨rfl, hu2⟩
  refine ⟨_, rfl, ?_⟩
  have hb1 := hb1.up hu2
  have hu := hu.trans hu2
  unfold wrongAsk
  rcases Bool.eq_false_or_eq_true (named q.type) with hn | hn
  · rw [hn]
    repeat (first | refine RL.vv ?_ | refine RL.p ?_ | refine RL.nil ?_ | refine Sim.seq ?_ | refine Sim.region ?_ | refine Sim.block ?_ | refine Sim.skip ?_ | refine Sim.inBlock ?_ | refine Sim.exit rfl ?_ | refine Sim.condT rfl ?_ | refine Sim.condF rfl ?_)
    refine RL.call ⟨_, _, rfl, rfl, rfl⟩ rfl (c_static rfl) (Named_any q.key w2) ?_
    rintro _ w3 ⟨rfl, hu3⟩
    refine ⟨_, rfl, ?_⟩
    have hb1 := hb1.up hu3
    have hu := hu.trans hu3
    rcases Bool.eq_false_or_eq_true (named q.key) with hk | hk
    · rw [hk, if_pos ⟨rfl, rfl⟩]
      repeat (first | refine RL.vv ?_ | refine RL.p ?_ | refine RL.nil ?_ | refine Sim.seq ?_ | refine Sim.region ?_ | refine Sim.block ?_ | refine Sim.skip ?_ | refine Sim.inBlock ?_ | refine Sim.exit rfl ?_ | refine Sim.condT rfl ?_ | refine Sim.condF rfl ?_)
      refine RL.alloc trivial rfl fun w4 hu4 hb4 hs4 => ?_
      refine RL.store trivial rfl rfl hb4 rfl rfl (by simp [Value.oneCell']) (Nat.le_of_ble_eq_true rfl) rfl fun w5 hc5 hb4 => ?_
      have hb1 := (hb1.up hu4).keep hc5.keep (by have := hb1.lt; omega)
      have h3 := hu.size
      have hu5 := Up.but hu4 hc5 (Nat.le_refl _)
      repeat (first | refine RL.vv ?_ | refine RL.p ?_ | refine RL.nil ?_ | refine Sim.seq ?_ | refine Sim.region ?_ | refine Sim.block ?_ | refine Sim.skip ?_ | refine Sim.inBlock ?_ | refine Sim.exit rfl ?_ | refine Sim.condT rfl ?_ | refine Sim.condF rfl ?_)
      refine RL.call trivial rfl (c_static rfl) (shape_any m 1 0 _ w5 ((hl.old.up hu).up hu5) (fun k hk => by have := hk.2; omega) hb4 (by omega) (by omega) (by omega) (by omega)) ?_
      rintro _ w6 ⟨rfl, hc6, _⟩
      refine ⟨_, rfl, ?_⟩
      have hu := (hu.trans hu5).but hc6 h3
      repeat (first | refine RL.vv ?_ | refine RL.p ?_ | refine RL.nil ?_ | refine Sim.seq ?_ | refine Sim.region ?_ | refine Sim.block ?_ | refine Sim.skip ?_ | refine Sim.inBlock ?_ | refine Sim.exit rfl ?_ | refine Sim.condT rfl ?_ | refine Sim.condF rfl ?_)
      exact Sim.ret1 Try.func45 rfl rfl ⟨rfl, hu⟩
    · rw [hk, if_neg (fun h => by cases h.2)]
      repeat (first | refine RL.vv ?_ | refine RL.p ?_ | refine RL.nil ?_ | refine Sim.seq ?_ | refine Sim.region ?_ | refine Sim.block ?_ | refine Sim.skip ?_ | refine Sim.inBlock ?_ | refine Sim.exit rfl ?_ | refine Sim.condT rfl ?_ | refine Sim.condF rfl ?_)
      exact Sim.ret1 Try.func45 rfl rfl ⟨rfl, hu⟩
  · rw [hn, if_neg (fun h => by cases h.1)]
    repeat (first | refine RL.vv ?_ | refine RL.p ?_ | refine RL.nil ?_ | refine Sim.seq ?_ | refine Sim.region ?_ | refine Sim.block ?_ | refine Sim.skip ?_ | refine Sim.inBlock ?_ | refine Sim.exit rfl ?_ | refine Sim.condT rfl ?_ | refine Sim.condF rfl ?_)
    exact Sim.ret1 Try.func45 rfl rfl ⟨rfl, hu⟩
end Go.Proofs.Ytgckpmcdlciibaa
