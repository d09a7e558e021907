/- Several texts in one: Contracts of chapter 4: picks' form. Contracts of chapter 4: the reference's Shape; what is wrong with an Ask. Contracts of chapter 4: what is wrong with picks of a type (the program's). Contracts of chapter 4: what is wrong with picks of a type (the program's). Contracts of chapter 4: Check, of both; the walk of QueryChecks. -/
import Derived.Test.YtgckpmcdlciibabZK
namespace Go.Proofs.Ytgckpmcdlciibab
open Go.RowKit
theorem SliceOf.but {α : Type} {L : Lay α} {S : Nat → Prop} {w w' : World} {v : Value} {xs : List α} {b : Nat} (h : SliceOf L S w v xs) (hb : But b w w') (hS : ∀ k, S k → k ≠ b) : SliceOf L S w' v xs := h.keep fun k hk => hb.keep k (hS k hk)
theorem pck_zero {S : Nat → Prop} {w : World} {v : Value} {l : List Pck} (h : SliceOf (pckLay 0) S w v l) : ¬ 0 < l.length := fun hp => by
  obtain ⟨a, c, rfl, _, _, h3⟩ := h
  obtain ⟨b, o, _, _, he⟩ := h3 hp
  obtain ⟨cs, _, hi⟩ := he 0 l[0] (List.getElem?_eq_getElem hp)
  exact hi
set_option maxHeartbeats 2000000 in
theorem shape_step {m : Nat} {S : Nat → Prop} {v : Value} {l : List Pck} (deep n0 : Int) (bn : Nat) (w : World) (hl : SliceOf (pckLay (m + 1)) S w v l) (hS : ∀ k, S k → k ≠ bn) (hbn : Box w bn 3 [.int .i64 n0]) (hn0 : 0 ≤ n0) (hn60 : n0 ≤ 60) (hd : 0 ≤ deep) (hd9 : deep ≤ 9)
    (hsub : ∀ (kv : Value) (ps : List Pck) (k : Int) (w1 : World), SliceOf (pckLay m) S w1 kv ps → 0 < ps.length → Box w1 bn 3 [.int .i64 k] → 0 ≤ k → k ≤ 60 → deep + 1 ≤ 9 →
      Calls Try.prog 57 #[kv, .int .i64 (deep + 1), .pointer (some ⟨bn, 0, none⟩)] w1 fun en w' => en = .returned (.int .i64 (shapeM m ps (deep + 1) k).1) ∧ But bn w1 w' ∧ Box w' bn 3 [.int .i64 (shapeM m ps (deep + 1) k).2]) :
    Calls Try.prog 57 #[v, .int .i64 deep, .pointer (some ⟨bn, 0, none⟩)] w fun en w' => en = .returned (.int .i64 (shapeM (m + 1) l deep n0).1) ∧ But bn w w' ∧ Box w' bn 3 [.int .i64 (shapeM (m + 1) l deep n0).2] := by
  refine calls_of_sim Try.func57 rfl (Nat.le_of_ble_eq_true rfl) ?_
  obtain ⟨a, c, rfl, hnc, hcm, hel⟩ := id hl
  unfold maxLen at hcm
  by_cases h8 : 8 < deep
  · have hm : shapeM (m + 1) l deep n0 = (3, n0) := if_pos h8
    rw [hm]
    repeat (first | refine RL.vv ?_ | refine RL.p ?_ | refine RL.nil ?_ | refine Sim.seq ?_ | refine Sim.region ?_ | refine Sim.block ?_ | refine Sim.skip ?_ | refine Sim.inBlock ?_ | refine Sim.exit rfl ?_ | refine Sim.condT rfl ?_ | refine Sim.condF rfl ?_)
    exact Sim.ret1 Try.func57 rfl rfl ⟨rfl, .of_up (.refl _), hbn⟩
  by_cases h0 : (l.length : Int) = 0
  · have hm : shapeM (m + 1) l deep n0 = (4, n0) := by rw [shapeM, if_neg h8, if_pos (by omega)]
    rw [hm]
    repeat (first | refine RL.vv ?_ | refine RL.p ?_ | refine RL.nil ?_ | refine Sim.seq ?_ | refine Sim.region ?_ | refine Sim.block ?_ | refine Sim.skip ?_ | refine Sim.inBlock ?_ | refine Sim.exit rfl ?_ | refine Sim.condT rfl ?_ | refine Sim.condF rfl ?_)
    exact Sim.ret1 Try.func57 rfl rfl ⟨rfl, .of_up (.refl _), hbn⟩
  have hm : shapeM (m + 1) l deep n0 = shapeL (fun ps k => shapeM m ps (deep + 1) k) l n0 := by rw [shapeM, if_neg h8, if_neg (by omega)]
  rw [hm]
  have hmon := fun ps k => shapeM_le m ps (deep + 1) k
  generalize hsubE : (fun ps k => shapeM m ps (deep + 1) k) = sub at *
  have hsubA : ∀ ps k, shapeM m ps (deep + 1) k = sub ps k := fun ps k => congrFun (congrFun hsubE ps) k
  simp only [hsubA] at hsub hmon
  clear hsubE hsubA hm
  repeat (first | refine RL.vv ?_ | refine RL.p ?_ | refine RL.nil ?_ | refine Sim.seq ?_ | refine Sim.region ?_ | refine Sim.block ?_ | refine Sim.skip ?_ | refine Sim.inBlock ?_ | refine Sim.exit rfl ?_ | refine Sim.condT rfl ?_ | refine Sim.condF rfl ?_)
  refine Sim.loop (σ := Nat × Int) (fun s => [(0, .slice a l.length c), (1, .int .i64 deep), (2, .pointer (some ⟨bn, 0, none⟩)), (15, .slice a l.length c), (16, .int .i64 (l.length : Int)), (17, .int .i64 (s.1 : Int))])
    (fun s w' => s.1 ≤ l.length ∧ But bn w w' ∧ Box w' bn 3 [.int .i64 s.2] ∧ 0 ≤ s.2 ∧ s.2 ≤ 60 ∧ shapeL sub l n0 = shapeL sub (l.drop s.1) s.2) (fun s => l.length - s.1) (0, n0) sb ⟨Nat.zero_le _, .of_up (.refl _), hbn, hn0, hn60, rfl⟩ ?_
  clear hbn
  rintro ⟨i, n⟩ w1 ⟨hi, hc, hbn, hn1, hn2, htot⟩ next
  simp only at hi hbn hn1 hn2 htot next
  by_cases hlt : i < l.length
  · have hx : l[i]? = some l[i] := List.getElem?_eq_getElem hlt
    have hl1 := hl.but hc hS
    obtain ⟨b, o, cs, rfl, hSb, hat, hiS, _⟩ := hl1.at hx
    obtain ⟨kv, rfl, hkv⟩ := pckLay_succ hiS
    obtain ⟨ka, kc, rfl, hkn, hkm, _⟩ := id hkv
    have hat : At w1 b (o + i * 3) _ := hat
    rw [List.drop_eq_getElem_cons hlt] at htot
    generalize l[i] = p at *
    rw [shapeL] at htot
    repeat (first | refine RL.vv ?_ | refine RL.p ?_ | refine RL.nil ?_ | refine Sim.seq ?_ | refine Sim.region ?_ | refine Sim.block ?_ | refine Sim.skip ?_ | refine Sim.inBlock ?_ | refine Sim.exit rfl ?_ | refine Sim.condT rfl ?_ | refine Sim.condF rfl ?_)
    refine RL.alloc trivial rfl fun w2 hu2 hb8 hs2 => ?_
    refine RL.store trivial rfl rfl hb8 rfl rfl (by simp [Value.oneCell']) (Nat.le_of_ble_eq_true rfl) rfl fun w3 hc3 hb8 => ?_
    have hbl := hbn.lt
    have hu3 : Up w1 w3 := Up.but hu2 hc3 (Nat.le_refl _)
    have hbn := hbn.up hu3
    have hc := hc.trans (But.of_up hu3)
    have hkv := hkv.up hu3
    clear hu2 hc3 hat hiS hl1 hx hu3 hs2
    have h8n : w1.heap.size ≠ bn := by omega
    generalize w1.heap.size = b8 at *
    repeat (first | refine RL.vv ?_ | refine RL.p ?_ | refine RL.nil ?_ | refine Sim.seq ?_ | refine Sim.region ?_ | refine Sim.block ?_ | refine Sim.skip ?_ | refine Sim.inBlock ?_ | refine Sim.exit rfl ?_ | refine Sim.condT rfl ?_ | refine Sim.condF rfl ?_)
    refine RL.val trivial rfl (y_add (d := n + 1) rfl rfl rfl (by omega) (by omega)) ?_
    repeat (first | refine RL.vv ?_ | refine RL.p ?_ | refine RL.nil ?_ | refine Sim.seq ?_ | refine Sim.region ?_ | refine Sim.block ?_ | refine Sim.skip ?_ | refine Sim.inBlock ?_ | refine Sim.exit rfl ?_ | refine Sim.condT rfl ?_ | refine Sim.condF rfl ?_)
    refine RL.store trivial rfl rfl hbn rfl rfl (by simp [Value.oneCell']) (Nat.le_of_ble_eq_true rfl) rfl fun w4 hc4 hbn => ?_
    have hb8 := hb8.keep hc4.keep h8n
    have hc := hc.trans hc4
    have hkv := hkv.but hc4 hS
    clear hc4
    by_cases h60 : 60 < n + 1
    · rw [if_pos h60] at htot
      repeat (first | refine RL.vv ?_ | refine RL.p ?_ | refine RL.nil ?_ | refine Sim.seq ?_ | refine Sim.region ?_ | refine Sim.block ?_ | refine Sim.skip ?_ | refine Sim.inBlock ?_ | refine Sim.exit rfl ?_ | refine Sim.condT rfl ?_ | refine Sim.condF rfl ?_)
      exact Sim.ret1 Try.func57 rfl rfl ⟨by rw [htot], hc, by rw [htot]; exact hbn⟩
    rw [if_neg h60] at htot
    repeat (first | refine RL.vv ?_ | refine RL.p ?_ | refine RL.nil ?_ | refine Sim.seq ?_ | refine Sim.region ?_ | refine Sim.block ?_ | refine Sim.skip ?_ | refine Sim.inBlock ?_ | refine Sim.exit rfl ?_ | refine Sim.condT rfl ?_ | refine Sim.condF rfl ?_)
    refine RL.call trivial rfl (c_static rfl) (Named_any p.field w4) ?_
    rintro _ w5 ⟨rfl, hu5⟩
    refine ⟨_, rfl, ?_⟩
    have hb8 := hb8.up hu5
    have hc := hc.trans (But.of_up hu5)
    have hkv := hkv.up hu5
    have hbn := hbn.up hu5
    clear hu5
    rcases Bool.eq_false_or_eq_true (named p.field) with hn | hn
    · rw [hn]
      by_cases has : p.as = ⟨#[]⟩
      · rw [if_pos ⟨hn, fun h => h.1 has⟩] at htot
        by_cases hk0 : (0 : Int) < p.picks.length
        · rw [if_pos (by omega)] at htot
          repeat (first | refine RL.vv ?_ | refine RL.p ?_ | refine RL.nil ?_ | refine Sim.seq ?_ | refine Sim.region ?_ | refine Sim.block ?_ | refine Sim.skip ?_ | refine Sim.inBlock ?_ | refine Sim.exit rfl ?_ | refine Sim.condT rfl ?_ | refine Sim.condF rfl ?_)
          refine RL.val trivial rfl (y_add (d := deep + 1) rfl rfl rfl (by omega) (by omega)) ?_
          repeat (first | refine RL.vv ?_ | refine RL.p ?_ | refine RL.nil ?_ | refine Sim.seq ?_ | refine Sim.region ?_ | refine Sim.block ?_ | refine Sim.skip ?_ | refine Sim.inBlock ?_ | refine Sim.exit rfl ?_ | refine Sim.condT rfl ?_ | refine Sim.condF rfl ?_)
          refine RL.call trivial rfl (c_static rfl) (hsub _ p.picks (n + 1) w5 hkv (by omega) hbn (by omega) (by omega) (by omega)) ?_
          rintro _ w6 ⟨rfl, hc6, hbn⟩
          refine ⟨_, rfl, ?_⟩
          have hc := hc.trans hc6
          by_cases he : (sub p.picks (n + 1)).1 = 0
          · rw [if_pos he] at htot
            have hle := hmon p.picks (n + 1) (by omega) he
            repeat (first | refine RL.vv ?_ | refine RL.p ?_ | refine RL.nil ?_ | refine Sim.seq ?_ | refine Sim.region ?_ | refine Sim.block ?_ | refine Sim.skip ?_ | refine Sim.inBlock ?_ | refine Sim.exit rfl ?_ | refine Sim.condT rfl ?_ | refine Sim.condF rfl ?_)
            exact next (i + 1, (sub p.picks (n + 1)).2) _ _ ⟨by simp only; omega, hc, hbn, by simp only; omega, hle.1, htot⟩ (by simp only; omega) sb
          · rw [if_neg he] at htot
            repeat (first | refine RL.vv ?_ | refine RL.p ?_ | refine RL.nil ?_ | refine Sim.seq ?_ | refine Sim.region ?_ | refine Sim.block ?_ | refine Sim.skip ?_ | refine Sim.inBlock ?_ | refine Sim.exit rfl ?_ | refine Sim.condT rfl ?_ | refine Sim.condF rfl ?_)
            exact Sim.ret1 Try.func57 rfl rfl ⟨by rw [htot], hc, by rw [htot]; exact hbn⟩
        · rw [if_neg (by omega)] at htot
          repeat (first | refine RL.vv ?_ | refine RL.p ?_ | refine RL.nil ?_ | refine Sim.seq ?_ | refine Sim.region ?_ | refine Sim.block ?_ | refine Sim.skip ?_ | refine Sim.inBlock ?_ | refine Sim.exit rfl ?_ | refine Sim.condT rfl ?_ | refine Sim.condF rfl ?_)
          exact next (i + 1, n + 1) _ _ ⟨by simp only; omega, hc, hbn, by simp only; omega, by simp only; omega, htot⟩ (by simp only; omega) sb
      repeat (first | refine RL.vv ?_ | refine RL.p ?_ | refine RL.nil ?_ | refine Sim.seq ?_ | refine Sim.region ?_ | refine Sim.block ?_ | refine Sim.skip ?_ | refine Sim.inBlock ?_ | refine Sim.exit rfl ?_ | refine Sim.condT rfl ?_ | refine Sim.condF rfl ?_)
      refine RL.call ⟨_, _, rfl, rfl, rfl⟩ rfl (c_static rfl) (Named_any p.as w5) ?_
      rintro _ w6 ⟨rfl, hu6⟩
      refine ⟨_, rfl, ?_⟩
      have hb8 := hb8.up hu6
      have hc := hc.trans (But.of_up hu6)
      have hkv := hkv.up hu6
      have hbn := hbn.up hu6
      clear hu6
      rcases Bool.eq_false_or_eq_true (named p.as) with hna | hna
      · rw [if_pos ⟨hn, fun h => by rw [hna] at h; cases h.2⟩] at htot
        rw [hna]
        by_cases hk0 : (0 : Int) < p.picks.length
        · rw [if_pos (by omega)] at htot
          repeat (first | refine RL.vv ?_ | refine RL.p ?_ | refine RL.nil ?_ | refine Sim.seq ?_ | refine Sim.region ?_ | refine Sim.block ?_ | refine Sim.skip ?_ | refine Sim.inBlock ?_ | refine Sim.exit rfl ?_ | refine Sim.condT rfl ?_ | refine Sim.condF rfl ?_)
          refine RL.val trivial rfl (y_add (d := deep + 1) rfl rfl rfl (by omega) (by omega)) ?_
          repeat (first | refine RL.vv ?_ | refine RL.p ?_ | refine RL.nil ?_ | refine Sim.seq ?_ | refine Sim.region ?_ | refine Sim.block ?_ | refine Sim.skip ?_ | refine Sim.inBlock ?_ | refine Sim.exit rfl ?_ | refine Sim.condT rfl ?_ | refine Sim.condF rfl ?_)
          refine RL.call trivial rfl (c_static rfl) (hsub _ p.picks (n + 1) w6 hkv (by omega) hbn (by omega) (by omega) (by omega)) ?_
          rintro _ w7 ⟨rfl, hc6, hbn⟩
          refine ⟨_, rfl, ?_⟩
          have hc := hc.trans hc6
          by_cases he : (sub p.picks (n + 1)).1 = 0
          · rw [if_pos he] at htot
            have hle := hmon p.picks (n + 1) (by omega) he
            repeat (first | refine RL.vv ?_ | refine RL.p ?_ | refine RL.nil ?_ | refine Sim.seq ?_ | refine Sim.region ?_ | refine Sim.block ?_ | refine Sim.skip ?_ | refine Sim.inBlock ?_ | refine Sim.exit rfl ?_ | refine Sim.condT rfl ?_ | refine Sim.condF rfl ?_)
            exact next (i + 1, (sub p.picks (n + 1)).2) _ _ ⟨by simp only; omega, hc, hbn, by simp only; omega, hle.1, htot⟩ (by simp only; omega) sb
          · rw [if_neg he] at htot
            repeat (first | refine RL.vv ?_ | refine RL.p ?_ | refine RL.nil ?_ | refine Sim.seq ?_ | refine Sim.region ?_ | refine Sim.block ?_ | refine Sim.skip ?_ | refine Sim.inBlock ?_ | refine Sim.exit rfl ?_ | refine Sim.condT rfl ?_ | refine Sim.condF rfl ?_)
            exact Sim.ret1 Try.func57 rfl rfl ⟨by rw [htot], hc, by rw [htot]; exact hbn⟩
        · rw [if_neg (by omega)] at htot
          repeat (first | refine RL.vv ?_ | refine RL.p ?_ | refine RL.nil ?_ | refine Sim.seq ?_ | refine Sim.region ?_ | refine Sim.block ?_ | refine Sim.skip ?_ | refine Sim.inBlock ?_ | refine Sim.exit rfl ?_ | refine Sim.condT rfl ?_ | refine Sim.condF rfl ?_)
          exact next (i + 1, n + 1) _ _ ⟨by simp only; omega, hc, hbn, by simp only; omega, by simp only; omega, htot⟩ (by simp only; omega) sb
      · rw [if_neg fun h => h.2 ⟨has, hna⟩] at htot
        rw [hna]
        repeat (first | refine RL.vv ?_ | refine RL.p ?_ | refine RL.nil ?_ | refine Sim.seq ?_ | refine Sim.region ?_ | refine Sim.block ?_ | refine Sim.skip ?_ | refine Sim.inBlock ?_ | refine Sim.exit rfl ?_ | refine Sim.condT rfl ?_ | refine Sim.condF rfl ?_)
        exact Sim.ret1 Try.func57 rfl rfl ⟨by rw [htot], hc, by rw [htot]; exact hbn⟩
    · rw [if_neg fun h => by rw [hn] at h; cases h.1] at htot
      rw [hn]
      repeat (first | refine RL.vv ?_ | refine RL.p ?_ | refine RL.nil ?_ | refine Sim.seq ?_ | refine Sim.region ?_ | refine Sim.block ?_ | refine Sim.skip ?_ | refine Sim.inBlock ?_ | refine Sim.exit rfl ?_ | refine Sim.condT rfl ?_ | refine Sim.condF rfl ?_)
      exact Sim.ret1 Try.func57 rfl rfl ⟨by rw [htot], hc, by rw [htot]; exact hbn⟩
  · rw [List.drop_eq_nil_of_le (by omega)] at htot
    rw [htot]
    repeat (first | refine RL.vv ?_ | refine RL.p ?_ | refine RL.nil ?_ | refine Sim.seq ?_ | refine Sim.region ?_ | refine Sim.block ?_ | refine Sim.skip ?_ | refine Sim.inBlock ?_ | refine Sim.exit rfl ?_ | refine Sim.condT rfl ?_ | refine Sim.condF rfl ?_)
    exact Sim.ret1 Try.func57 rfl rfl ⟨rfl, hc, hbn⟩
theorem shape_any : ∀ (m : Nat) {S : Nat → Prop} {v : Value} {l : List Pck} (deep n0 : Int) (bn : Nat) (w : World), SliceOf (pckLay (m + 1)) S w v l → (∀ k, S k → k ≠ bn) → Box w bn 3 [.int .i64 n0] → 0 ≤ n0 → n0 ≤ 60 → 0 ≤ deep → deep ≤ 9 →
    Calls Try.prog 57 #[v, .int .i64 deep, .pointer (some ⟨bn, 0, none⟩)] w fun en w' => en = .returned (.int .i64 (shapeM (m + 1) l deep n0).1) ∧ But bn w w' ∧ Box w' bn 3 [.int .i64 (shapeM (m + 1) l deep n0).2]
  | 0, S, v, l, deep, n0, bn, w, hl, hS, hbn, h0, h60, hd, hd9 => shape_step deep n0 bn w hl hS hbn h0 h60 hd hd9 fun kv ps k w1 hk hp => absurd hp (pck_zero hk)
  | m + 1, S, v, l, deep, n0, bn, w, hl, hS, hbn, h0, h60, hd, hd9 => shape_step deep n0 bn w hl hS hbn h0 h60 hd hd9 fun kv ps k w1 hk _ hb hk0 hk60 hdd => shape_any m (deep + 1) k bn w1 hk hS hb hk0 hk60 (by omega) hdd
end Go.Proofs.Ytgckpmcdlciibab

namespace Go.Proofs.Ytgckpmcdlciibab
open Go.RowKit
theorem WrongAsk_any {m : Nat} {S : Nat → Prop} {v : Value} (q : Ak) (w : World) (hl : SliceOf (pckLay (m + 1)) S w v q.picks) :
    Calls Try.prog 23 #[.agg #[.string q.type, .string q.key, v]] w fun en w' => en = .returned (.int .i64 (wrongAsk (m + 1) q)) ∧ Up w w' := by
  refine calls_of_sim Try.func23 rfl (Nat.le_of_ble_eq_true rfl) ?_
  obtain ⟨a, c, rfl, hnc, hcm, hel⟩ := id hl
  repeat (first | refine RL.vv ?_ | refine RL.p ?_ | refine RL.nil ?_ | refine Sim.seq ?_ | refine Sim.region ?_ | refine Sim.block ?_ | refine Sim.skip ?_ | refine Sim.inBlock ?_ | refine Sim.exit rfl ?_ | refine Sim.condT rfl ?_ | refine Sim.condF rfl ?_)
  refine RL.box trivial rfl rfl fun w1 hu hb1 hsz => ?_
  repeat (first | refine RL.vv ?_ | refine RL.p ?_ | refine RL.nil ?_ | refine Sim.seq ?_ | refine Sim.region ?_ | refine Sim.block ?_ | refine Sim.skip ?_ | refine Sim.inBlock ?_ | refine Sim.exit rfl ?_ | refine Sim.condT rfl ?_ | refine Sim.condF rfl ?_)
  refine RL.call trivial rfl (c_static rfl) (Named_any q.type w1) ?_
  rintro _ w2 ⟨rfl, hu2⟩
  refine ⟨_, rfl, ?_⟩
  have hb1 := hb1.up hu2
  have hu := hu.trans hu2
  unfold wrongAsk
  rcases Bool.eq_false_or_eq_true (named q.type) with hn | hn
  · rw [hn]
    repeat (first | refine RL.vv ?_ | refine RL.p ?_ | refine RL.nil ?_ | refine Sim.seq ?_ | refine Sim.region ?_ | refine Sim.block ?_ | refine Sim.skip ?_ | refine Sim.inBlock ?_ | refine Sim.exit rfl ?_ | refine Sim.condT rfl ?_ | refine Sim.condF rfl ?_)
    refine RL.call ⟨_, _, rfl, rfl, rfl⟩ rfl (c_static rfl) (Named_any q.key w2) ?_
    rintro _ w3 ⟨rfl, hu3⟩
    refine ⟨_, rfl, ?_⟩
    have hb1 := hb1.up hu3
    have hu := hu.trans hu3
    rcases Bool.eq_false_or_eq_true (named q.key) with hk | hk
    · rw [hk, if_pos ⟨rfl, rfl⟩]
      repeat (first | refine RL.vv ?_ | refine RL.p ?_ | refine RL.nil ?_ | refine Sim.seq ?_ | refine Sim.region ?_ | refine Sim.block ?_ | refine Sim.skip ?_ | refine Sim.inBlock ?_ | refine Sim.exit rfl ?_ | refine Sim.condT rfl ?_ | refine Sim.condF rfl ?_)
      refine RL.alloc trivial rfl fun w4 hu4 hb4 hs4 => ?_
      refine RL.store trivial rfl rfl hb4 rfl rfl (by simp [Value.oneCell']) (Nat.le_of_ble_eq_true rfl) rfl fun w5 hc5 hb4 => ?_
      have hb1 := (hb1.up hu4).keep hc5.keep (by have := hb1.lt; omega)
      have h3 := hu.size
      have hu5 := Up.but hu4 hc5 (Nat.le_refl _)
      repeat (first | refine RL.vv ?_ | refine RL.p ?_ | refine RL.nil ?_ | refine Sim.seq ?_ | refine Sim.region ?_ | refine Sim.block ?_ | refine Sim.skip ?_ | refine Sim.inBlock ?_ | refine Sim.exit rfl ?_ | refine Sim.condT rfl ?_ | refine Sim.condF rfl ?_)
      refine RL.call trivial rfl (c_static rfl) (shape_any m 1 0 _ w5 ((hl.old.up hu).up hu5) (fun k hk => by have := hk.2; omega) hb4 (by omega) (by omega) (by omega) (by omega)) ?_
      rintro _ w6 ⟨rfl, hc6, _⟩
      refine ⟨_, rfl, ?_⟩
      have hu := (hu.trans hu5).but hc6 h3
      repeat (first | refine RL.vv ?_ | refine RL.p ?_ | refine RL.nil ?_ | refine Sim.seq ?_ | refine Sim.region ?_ | refine Sim.block ?_ | refine Sim.skip ?_ | refine Sim.inBlock ?_ | refine Sim.exit rfl ?_ | refine Sim.condT rfl ?_ | refine Sim.condF rfl ?_)
      exact Sim.ret1 Try.func23 rfl rfl ⟨rfl, hu⟩
    · rw [hk, if_neg (fun h => by cases h.2)]
      repeat (first | refine RL.vv ?_ | refine RL.p ?_ | refine RL.nil ?_ | refine Sim.seq ?_ | refine Sim.region ?_ | refine Sim.block ?_ | refine Sim.skip ?_ | refine Sim.inBlock ?_ | refine Sim.exit rfl ?_ | refine Sim.condT rfl ?_ | refine Sim.condF rfl ?_)
      exact Sim.ret1 Try.func23 rfl rfl ⟨rfl, hu⟩
  · rw [hn, if_neg (fun h => by cases h.1)]
    repeat (first | refine RL.vv ?_ | refine RL.p ?_ | refine RL.nil ?_ | refine Sim.seq ?_ | refine Sim.region ?_ | refine Sim.block ?_ | refine Sim.skip ?_ | refine Sim.inBlock ?_ | refine Sim.exit rfl ?_ | refine Sim.condT rfl ?_ | refine Sim.condF rfl ?_)
    exact Sim.ret1 Try.func23 rfl rfl ⟨rfl, hu⟩
end Go.Proofs.Ytgckpmcdlciibab

namespace Go.Proofs.Ytgckpmcdlciibab
open Go.RowKit
def calledAt (ps : List Pck) (s : Str) : Int := firstIdx ps fun q => decide (calledM q = s)
set_option maxHeartbeats 400000 in
theorem picks1_any (p q : Pck) (v v2 : Value) (b : Nat) (w : World) (hb : At w b 0 [.string q.as, .string q.field, v2]) :
    Calls Try.prog 91 #[.agg #[.string p.as, .string p.field, v], .pointer (some ⟨b, 0, none⟩)] w fun en w' => en = .returned (.bool (decide (calledM p = calledM q))) ∧ Up w w' := by
  refine calls_of_sim Try.func91 rfl (Nat.le_of_ble_eq_true rfl) ?_
  repeat (first | refine RL.vv ?_ | refine RL.p ?_ | refine RL.nil ?_ | refine Sim.seq ?_ | refine Sim.region ?_ | refine Sim.block ?_ | refine Sim.skip ?_ | refine Sim.inBlock ?_ | refine Sim.exit rfl ?_ | refine Sim.condT rfl ?_ | refine Sim.condF rfl ?_)
  refine RL.box trivial rfl rfl fun w1 hu hb1 hsz => ?_
  have hb := hb.up hu
  have hb1 := hb1.at
  repeat (first | refine RL.vv ?_ | refine RL.p ?_ | refine RL.nil ?_ | refine Sim.seq ?_ | refine Sim.region ?_ | refine Sim.block ?_ | refine Sim.skip ?_ | refine Sim.inBlock ?_ | refine Sim.exit rfl ?_ | refine Sim.condT rfl ?_ | refine Sim.condF rfl ?_)
  refine Sim.quiet (Up w1) mixed (by kernel_rfl) (Up.drew _) ?_
  repeat (first | refine RQ.vv ?_ | refine RQ.p ?_)
  refine RQ.call trivial rfl (fun wq hq => c_static rfl) (fun wq hq => q_call (Called_any p v wq) hq) ?_
  repeat (first | refine RQ.vv ?_ | refine RQ.p ?_)
  refine RQ.call trivial rfl (fun wq hq => c_static rfl) (fun wq hq => q_call (Called_any q v2 wq) hq) ?_
  repeat (first | refine RQ.vv ?_ | refine RQ.p ?_)
  refine RQ.nil fun w4 hq => ?_
  repeat (first | refine RL.vv ?_ | refine RL.p ?_ | refine RL.nil ?_ | refine Sim.seq ?_ | refine Sim.region ?_ | refine Sim.block ?_ | refine Sim.skip ?_ | refine Sim.inBlock ?_ | refine Sim.exit rfl ?_ | refine Sim.condT rfl ?_ | refine Sim.condF rfl ?_)
  exact Sim.ret1 Try.func91 rfl rfl ⟨rfl, hu.trans hq⟩
set_option maxHeartbeats 400000 in
theorem ContainsPick_any {m : Nat} {S : Nat → Prop} {v : Value} {l : List Pck} (q : Pck) (v2 : Value) (b : Nat) (w : World) (hl : SliceOf (pckLay (m + 1)) S w v l) (hb : At w b 0 [.string q.as, .string q.field, v2]) :
    Calls Try.prog 90 #[v, .func (.func 91) #[] #[.pointer (some ⟨b, 0, none⟩)]] w fun en w' => en = .returned (.bool (decide (0 ≤ calledAt l (calledM q)))) ∧ Up w w' := by
  obtain ⟨cells, hel, his⟩ := hl.elems
  refine (ContainsFunc_Pick (p := fun i => match l[i]? with | some x => decide (calledM x = calledM q) | none => false) hel fun i hi w' hu => ?_).mono ?_
  · obtain ⟨vs, hcs, _⟩ := pckLay_succ (his i l[i] (List.getElem?_eq_getElem hi))
    rw [hcs]
    refine c_val (picks1_any _ _ _ v2 _ _ (hb.up hu)) ?_
    simp only [List.getElem?_eq_getElem hi]
  · rintro _ w' ⟨rfl, hu⟩
    rw [idx_firstIdx l (fun x => decide (calledM x = calledM q)) _ (fun i x hx => by simp only [hx])]
    exact ⟨rfl, hu⟩
theorem fieldF_get {l : List Fld} {n : Str} (h : ¬ fieldF l n < 0) : ∃ (j : Nat) (t : Fld), fieldF l n = (j : Int) ∧ l[j]? = some t ∧ j < l.length := by
  obtain ⟨i, x, h1, h2, h3, h4⟩ := firstIdx_lt (l := l) (p := fun t => decide (t.name = n)) (by unfold fieldF at h; omega)
  exact ⟨i, x, h1, h2, h4⟩
theorem partF_get {l : List Prt} {n : Str} (h : ¬ partF l n < 0) : ∃ (j : Nat) (t : Prt), partF l n = (j : Int) ∧ l[j]? = some t ∧ j < l.length := by
  obtain ⟨i, x, h1, h2, h3, h4⟩ := firstIdx_lt (l := l) (p := fun t => decide (t.type.name = n)) (by unfold partF at h; omega)
  exact ⟨i, x, h1, h2, h4⟩
theorem picksErr_hit {sub : Str → List Pck → Int} {fs : List Fld} {ps : List Pck} {i : Nat} {x : Pck} (hx : ps[i]? = some x) (hno : ∀ (j : Nat) y, j < i → ps[j]? = some y → pickErr sub fs ps j y = 0) {r : Int} (hr : pickErr sub fs ps i x = r) (h : r ≠ 0) : picksErr sub fs ps = r := by
  unfold picksErr
  rw [firstBad_hit hx hno (by rw [hr]; exact h)]
  exact hr
theorem picksErr_none {sub : Str → List Pck → Int} {fs : List Fld} {ps : List Pck} (h : ∀ (j : Nat) y, ps[j]? = some y → pickErr sub fs ps j y = 0) : picksErr sub fs ps = 0 := by
  unfold picksErr
  rw [firstBad_none h]
theorem goesM_none {m : Nat} {l : List Prt} {n : Str} {ps : List Pck} (h : partF l n < 0) : goesM (m + 1) l n ps = 5 := by
  rw [goesM]
  split
  · rw [if_pos h]
  · rfl
theorem goesM_some {m : Nat} {l : List Prt} {n : Str} {ps : List Pck} {j : Nat} {t : Prt} (h : partF l n = (j : Int)) (ht : l[j]? = some t) : goesM (m + 1) l n ps = picksErr (goesM m l) t.type.fields ps := by
  rw [goesM, h, Int.toNat_natCast, ht]
  simp only
  rw [if_neg (by omega)]
end Go.Proofs.Ytgckpmcdlciibab

namespace Go.Proofs.Ytgckpmcdlciibab
open Go.RowKit
set_option maxHeartbeats 2000000 in
theorem picks_step {m : Nat} {S S' : Nat → Prop} {lv v : Value} {l : List Prt} {ps : List Pck} (n : Str) (w : World) (hl : SliceOf prtLay S' w lv l) (hps : SliceOf (pckLay (m + 1)) S w v ps)
    (hsub : ∀ (kv : Value) (nm : Str) (qs : List Pck) (w1 : World), SliceOf prtLay S' w1 lv l → SliceOf (pckLay m) S w1 kv qs → 0 < qs.length →
      Calls Try.prog 58 #[lv, .string nm, kv] w1 fun en w' => en = .returned (.int .i64 (goesM m l nm qs)) ∧ Up w1 w') :
    Calls Try.prog 58 #[lv, .string n, v] w fun en w' => en = .returned (.int .i64 (goesM (m + 1) l n ps)) ∧ Up w w' := by
  refine calls_of_sim Try.func58 rfl (Nat.le_of_ble_eq_true rfl) ?_
  obtain ⟨a, c, rfl, hnc, hcm, hel⟩ := id hps
  obtain ⟨la, lc, rfl, hlnc, hlcm, _⟩ := id hl
  unfold maxLen at hcm hlcm
  by_cases hk : partF l n < 0
  · rw [goesM_none hk]
    repeat (first | refine RL.vv ?_ | refine RL.p ?_ | refine RL.nil ?_ | refine Sim.seq ?_ | refine Sim.region ?_ | refine Sim.block ?_ | refine Sim.skip ?_ | refine Sim.inBlock ?_ | refine Sim.exit rfl ?_ | refine Sim.condT rfl ?_ | refine Sim.condF rfl ?_)
    refine RL.call trivial rfl (c_static rfl) (PFind_any n w hl) ?_
    rintro _ w1 ⟨rfl, hu⟩
    refine ⟨_, rfl, ?_⟩
    repeat (first | refine RL.vv ?_ | refine RL.p ?_ | refine RL.nil ?_ | refine Sim.seq ?_ | refine Sim.region ?_ | refine Sim.block ?_ | refine Sim.skip ?_ | refine Sim.inBlock ?_ | refine Sim.exit rfl ?_ | refine Sim.condT rfl ?_ | refine Sim.condF rfl ?_)
    exact Sim.ret1 Try.func58 rfl rfl ⟨rfl, hu⟩
  obtain ⟨j, t, hj, htj, hjl⟩ := partF_get hk
  rw [goesM_some hj htj]
  obtain ⟨tb, to, cs, rfl, _, hat, ⟨fv, v2, v3, rfl, hfv, _⟩, _⟩ := hl.at htj
  have hat : At w tb (to + j * 4) _ := hat
  obtain ⟨fa, fc, rfl, hfnc, hfcm, _⟩ := id hfv
  repeat (first | refine RL.vv ?_ | refine RL.p ?_ | refine RL.nil ?_ | refine Sim.seq ?_ | refine Sim.region ?_ | refine Sim.block ?_ | refine Sim.skip ?_ | refine Sim.inBlock ?_ | refine Sim.exit rfl ?_ | refine Sim.condT rfl ?_ | refine Sim.condF rfl ?_)
  refine RL.call trivial rfl (c_static rfl) (c_val (PFind_any n w hl) (by rw [hj])) ?_
  rintro _ w1 ⟨rfl, hu⟩
  refine ⟨_, rfl, ?_⟩
  repeat (first | refine RL.vv ?_ | refine RL.p ?_ | refine RL.nil ?_ | refine Sim.seq ?_ | refine Sim.region ?_ | refine Sim.block ?_ | refine Sim.skip ?_ | refine Sim.inBlock ?_ | refine Sim.exit rfl ?_ | refine Sim.condT rfl ?_ | refine Sim.condF rfl ?_)
  refine RL.val trivial rfl (y_loadA (cs := [.string t.type.name, .slice fa t.type.fields.length fc]) (k := 2) rfl (fun i v hi => by have := (hat.up hu) i v (by match i, hi with | 0, hi => exact hi | 1, hi => exact hi); exact this) rfl) ?_
  refine RL.alloc trivial rfl fun w2 hu2 hb8 hs2 => ?_
  refine RL.store trivial rfl rfl hb8 rfl rfl (by simp [Value.oneCell']) (Nat.le_of_ble_eq_true rfl) rfl fun w3 hc3 hb8 => ?_
  have hu := hu.trans (Up.but hu2 hc3 (Nat.le_refl _))
  generalize w1.heap.size = b8 at *
  clear hu2 hc3 hs2
  generalize hsubE : goesM m l = sub at *
  repeat (first | refine RL.vv ?_ | refine RL.p ?_ | refine RL.nil ?_ | refine Sim.seq ?_ | refine Sim.region ?_ | refine Sim.block ?_ | refine Sim.skip ?_ | refine Sim.inBlock ?_ | refine Sim.exit rfl ?_ | refine Sim.condT rfl ?_ | refine Sim.condF rfl ?_)
  refine Sim.loop (σ := Nat) (fun i => [(0, .slice (some ⟨tb, to, none⟩) l.length lc), (2, .slice a ps.length c), (8, .pointer (some ⟨b8, 0, none⟩)), (23, .slice a ps.length c), (24, .int .i64 (ps.length : Int)), (25, .int .i64 (i : Int))])
    (fun i w' => i ≤ ps.length ∧ Up w w' ∧ Box w' b8 80 [.string t.type.name, .slice fa t.type.fields.length fc] ∧ ∀ (j : Nat) x, j < i → ps[j]? = some x → pickErr sub t.type.fields ps j x = 0) (fun i => ps.length - i) 0 sb ⟨Nat.zero_le _, hu, hb8, fun j x hj => absurd hj (Nat.not_lt_zero _)⟩ ?_
  clear hu hb8
  rintro i w1 ⟨hi, hu, hb8, hno⟩ next
  by_cases hlt : i < ps.length
  · have hx : ps[i]? = some ps[i] := List.getElem?_eq_getElem hlt
    obtain ⟨b, o, cs, rfl, hSb, hat2, hiS, _⟩ := hps.at hx
    obtain ⟨kv, rfl, hkv⟩ := pckLay_succ hiS
    obtain ⟨ka, kc, rfl, hkn, hkm, _⟩ := id hkv
    have hat2 : At w b (o + i * 3) _ := hat2
    have bad : ∀ r, pickErr sub t.type.fields ps i ps[i] = r → r ≠ 0 → picksErr sub t.type.fields ps = r := fun r hr h => picksErr_hit hx hno hr h
    have good := goodTo (g := pickErr sub t.type.fields ps) hx hno
    have htk := hps.take (i := i) (by omega)
    unfold pickErr at bad good
    generalize ps[i] = p at *
    clear hno
    repeat (first | refine RL.vv ?_ | refine RL.p ?_ | refine RL.nil ?_ | refine Sim.seq ?_ | refine Sim.region ?_ | refine Sim.block ?_ | refine Sim.skip ?_ | refine Sim.inBlock ?_ | refine Sim.exit rfl ?_ | refine Sim.condT rfl ?_ | refine Sim.condF rfl ?_)
    refine RL.alloc trivial rfl fun w2 hu2 hb10 hs2 => ?_
    repeat (first | refine RL.vv ?_ | refine RL.p ?_ | refine RL.nil ?_ | refine Sim.seq ?_ | refine Sim.region ?_ | refine Sim.block ?_ | refine Sim.skip ?_ | refine Sim.inBlock ?_ | refine Sim.exit rfl ?_ | refine Sim.condT rfl ?_ | refine Sim.condF rfl ?_)
    refine RL.store trivial rfl rfl hb10 rfl rfl (by simp [Value.oneCell']) (Nat.le_of_ble_eq_true rfl) rfl fun w3 hc3 hb10 => ?_
    have hu3 : Up w1 w3 := Up.but hu2 hc3 (Nat.le_refl _)
    have hu := hu.trans hu3
    have hb8 := hb8.up hu3
    generalize w1.heap.size = b10 at *
    clear hu2 hc3 hs2 hu3 hiS hx
    repeat (first | refine RL.vv ?_ | refine RL.p ?_ | refine RL.nil ?_ | refine Sim.seq ?_ | refine Sim.region ?_ | refine Sim.block ?_ | refine Sim.skip ?_ | refine Sim.inBlock ?_ | refine Sim.exit rfl ?_ | refine Sim.condT rfl ?_ | refine Sim.condF rfl ?_)
    refine RL.call trivial rfl (c_static rfl) (Field_any p.field w3 (hfv.up hu)) ?_
    rintro _ w4 ⟨rfl, hu4⟩
    refine ⟨_, rfl, ?_⟩
    have hu := hu.trans hu4
    have hb8 := hb8.up hu4
    have hb10 := hb10.up hu4
    clear hu4
    by_cases hF : fieldF t.type.fields p.field < 0
    · have hbad := bad 5 (if_pos hF) (by decide)
      clear bad good next
      repeat (first | refine RL.vv ?_ | refine RL.p ?_ | refine RL.nil ?_ | refine Sim.seq ?_ | refine Sim.region ?_ | refine Sim.block ?_ | refine Sim.skip ?_ | refine Sim.inBlock ?_ | refine Sim.exit rfl ?_ | refine Sim.condT rfl ?_ | refine Sim.condF rfl ?_)
      exact Sim.ret1 Try.func58 rfl rfl ⟨by rw [hbad], hu⟩
    rw [if_neg hF] at bad good
    repeat (first | refine RL.vv ?_ | refine RL.p ?_ | refine RL.nil ?_ | refine Sim.seq ?_ | refine Sim.region ?_ | refine Sim.block ?_ | refine Sim.skip ?_ | refine Sim.inBlock ?_ | refine Sim.exit rfl ?_ | refine Sim.condT rfl ?_ | refine Sim.condF rfl ?_)
    refine RL.call trivial rfl (c_closure rfl rfl) (ContainsPick_any p _ b10 w4 (htk.up hu) hb10.at) ?_
    rintro _ w5 ⟨rfl, hu5⟩
    refine ⟨_, rfl, ?_⟩
    have hu := hu.trans hu5
    have hb8 := hb8.up hu5
    have hb10 := hb10.up hu5
    clear hu5
    by_cases hC : 0 ≤ calledAt (ps.take i) (calledM p)
    · have hbad := bad 6 (if_pos hC) (by decide)
      clear bad good next
      rw [decide_eq_true hC]
      repeat (first | refine RL.vv ?_ | refine RL.p ?_ | refine RL.nil ?_ | refine Sim.seq ?_ | refine Sim.region ?_ | refine Sim.block ?_ | refine Sim.skip ?_ | refine Sim.inBlock ?_ | refine Sim.exit rfl ?_ | refine Sim.condT rfl ?_ | refine Sim.condF rfl ?_)
      exact Sim.ret1 Try.func58 rfl rfl ⟨by rw [hbad], hu⟩
    rw [decide_eq_false hC]
    rw [if_neg (show ¬ 0 ≤ firstIdx (ps.take i) (fun q => decide (calledM q = calledM p)) from hC)] at bad good
    obtain ⟨f, fld, hfj, hfx, hfl⟩ := fieldF_get hF
    rw [hfj, Int.toNat_natCast, hfx] at bad good
    simp only at bad good
    obtain ⟨b3, o3, cs3, rfl, _, hat3, rfl, _⟩ := hfv.at hfx
    have hat3 : At w b3 (o3 + f * 3) _ := hat3
    have hF0 : (fieldF t.type.fields p.field) = (f : Int) := hfj
    rw [hfj]
    by_cases h1 : fld.kind = 1
    · by_cases h2 : (p.picks.length : Int) = 0
      · have good := good (by rw [if_neg (fun h => h ⟨fun _ => by omega, fun _ => h1⟩), if_pos (by omega)])
        clear bad
        repeat (first | refine RL.vv ?_ | refine RL.p ?_ | refine RL.nil ?_ | refine Sim.seq ?_ | refine Sim.region ?_ | refine Sim.block ?_ | refine Sim.skip ?_ | refine Sim.inBlock ?_ | refine Sim.exit rfl ?_ | refine Sim.condT rfl ?_ | refine Sim.condF rfl ?_)
        refine Sim.quiet (Up w5) mixed (by kernel_rfl) (Up.drew _) ?_
        repeat (first | refine RQ.vv ?_ | refine RQ.p ?_)
        refine RQ.nil fun w6 hq => ?_
        have hu := hu.trans hq
        have hb8 := hb8.up hq
        have hb10 := hb10.up hq
        repeat (first | refine RL.vv ?_ | refine RL.p ?_ | refine RL.nil ?_ | refine Sim.seq ?_ | refine Sim.region ?_ | refine Sim.block ?_ | refine Sim.skip ?_ | refine Sim.inBlock ?_ | refine Sim.exit rfl ?_ | refine Sim.condT rfl ?_ | refine Sim.condF rfl ?_)
        exact next (i + 1) _ _ ⟨by omega, hu, hb8, good⟩ (by omega) sb
      · have hbad := bad 7 (by rw [if_pos (fun h => h2 (by have := h.1 h1; omega))]) (by decide)
        clear bad good next
        repeat (first | refine RL.vv ?_ | refine RL.p ?_ | refine RL.nil ?_ | refine Sim.seq ?_ | refine Sim.region ?_ | refine Sim.block ?_ | refine Sim.skip ?_ | refine Sim.inBlock ?_ | refine Sim.exit rfl ?_ | refine Sim.condT rfl ?_ | refine Sim.condF rfl ?_)
        refine Sim.quiet (Up w5) mixed (by kernel_rfl) (Up.drew _) ?_
        repeat (first | refine RQ.vv ?_ | refine RQ.p ?_)
        refine RQ.val trivial rfl (fun wq hq => y_neqB rfl rfl) ?_
        repeat (first | refine RQ.vv ?_ | refine RQ.p ?_)
        refine RQ.nil fun w6 hq => ?_
        have hu := hu.trans hq
        repeat (first | refine RL.vv ?_ | refine RL.p ?_ | refine RL.nil ?_ | refine Sim.seq ?_ | refine Sim.region ?_ | refine Sim.block ?_ | refine Sim.skip ?_ | refine Sim.inBlock ?_ | refine Sim.exit rfl ?_ | refine Sim.condT rfl ?_ | refine Sim.condF rfl ?_)
        exact Sim.ret1 Try.func58 rfl rfl ⟨by rw [hbad], hu⟩
    · by_cases h2 : (p.picks.length : Int) = 0
      · have hbad := bad 7 (by rw [if_pos (fun h => h1 (h.2 (by omega)))]) (by decide)
        clear bad good next
        repeat (first | refine RL.vv ?_ | refine RL.p ?_ | refine RL.nil ?_ | refine Sim.seq ?_ | refine Sim.region ?_ | refine Sim.block ?_ | refine Sim.skip ?_ | refine Sim.inBlock ?_ | refine Sim.exit rfl ?_ | refine Sim.condT rfl ?_ | refine Sim.condF rfl ?_)
        refine Sim.quiet (Up w5) mixed (by kernel_rfl) (Up.drew _) ?_
        repeat (first | refine RQ.vv ?_ | refine RQ.p ?_)
        refine RQ.val trivial rfl (fun wq hq => y_neqB rfl rfl) ?_
        repeat (first | refine RQ.vv ?_ | refine RQ.p ?_)
        refine RQ.nil fun w6 hq => ?_
        have hu := hu.trans hq
        repeat (first | refine RL.vv ?_ | refine RL.p ?_ | refine RL.nil ?_ | refine Sim.seq ?_ | refine Sim.region ?_ | refine Sim.block ?_ | refine Sim.skip ?_ | refine Sim.inBlock ?_ | refine Sim.exit rfl ?_ | refine Sim.condT rfl ?_ | refine Sim.condF rfl ?_)
        exact Sim.ret1 Try.func58 rfl rfl ⟨by rw [hbad], hu⟩
      · rw [if_neg (fun h => h ⟨fun h => absurd h h1, fun h => absurd h (by omega)⟩), if_neg (by omega)] at bad good
        have h3 : (0 : Int) < p.picks.length := by omega
        repeat (first | refine RL.vv ?_ | refine RL.p ?_ | refine RL.nil ?_ | refine Sim.seq ?_ | refine Sim.region ?_ | refine Sim.block ?_ | refine Sim.skip ?_ | refine Sim.inBlock ?_ | refine Sim.exit rfl ?_ | refine Sim.condT rfl ?_ | refine Sim.condF rfl ?_)
        refine Sim.quiet (Up w5) mixed (by kernel_rfl) (Up.drew _) ?_
        repeat (first | refine RQ.vv ?_ | refine RQ.p ?_)
        refine RQ.nil fun w6 hq => ?_
        have hu := hu.trans hq
        have hb8 := hb8.up hq
        have hb10 := hb10.up hq
        repeat (first | refine RL.vv ?_ | refine RL.p ?_ | refine RL.nil ?_ | refine Sim.seq ?_ | refine Sim.region ?_ | refine Sim.block ?_ | refine Sim.skip ?_ | refine Sim.inBlock ?_ | refine Sim.exit rfl ?_ | refine Sim.condT rfl ?_ | refine Sim.condF rfl ?_)
        refine Sim.quiet (Up w6) mixed (by kernel_rfl) (Up.drew _) ?_
        repeat (first | refine RQ.vv ?_ | refine RQ.p ?_)
        refine RQ.call trivial rfl (fun wq hq => c_static rfl) (fun wq hq => q_call (hsub _ fld.type p.picks wq (hl.up (hu.trans hq)) (hkv.up (hu.trans hq)) (by omega)) hq) ?_
        repeat (first | refine RQ.vv ?_ | refine RQ.p ?_)
        refine RQ.nil fun w7 hq => ?_
        have hu := hu.trans hq
        have hb8 := hb8.up hq
        by_cases h0 : sub fld.type p.picks = 0
        · have good := good h0
          repeat (first | refine RL.vv ?_ | refine RL.p ?_ | refine RL.nil ?_ | refine Sim.seq ?_ | refine Sim.region ?_ | refine Sim.block ?_ | refine Sim.skip ?_ | refine Sim.inBlock ?_ | refine Sim.exit rfl ?_ | refine Sim.condT rfl ?_ | refine Sim.condF rfl ?_)
          exact next (i + 1) _ _ ⟨by omega, hu, hb8, good⟩ (by omega) sb
        · have hbad := bad _ rfl h0
          repeat (first | refine RL.vv ?_ | refine RL.p ?_ | refine RL.nil ?_ | refine Sim.seq ?_ | refine Sim.region ?_ | refine Sim.block ?_ | refine Sim.skip ?_ | refine Sim.inBlock ?_ | refine Sim.exit rfl ?_ | refine Sim.condT rfl ?_ | refine Sim.condF rfl ?_)
          exact Sim.ret1 Try.func58 rfl rfl ⟨by rw [hbad], hu⟩
  · have hbad := picksErr_none (goodAll hno hlt)
    repeat (first | refine RL.vv ?_ | refine RL.p ?_ | refine RL.nil ?_ | refine Sim.seq ?_ | refine Sim.region ?_ | refine Sim.block ?_ | refine Sim.skip ?_ | refine Sim.inBlock ?_ | refine Sim.exit rfl ?_ | refine Sim.condT rfl ?_ | refine Sim.condF rfl ?_)
    exact Sim.ret1 Try.func58 rfl rfl ⟨by rw [hbad], hu⟩
theorem picks_any : ∀ (m : Nat) {S S' : Nat → Prop} {lv v : Value} {l : List Prt} {ps : List Pck} (n : Str) (w : World), SliceOf prtLay S' w lv l → SliceOf (pckLay (m + 1)) S w v ps →
    Calls Try.prog 58 #[lv, .string n, v] w fun en w' => en = .returned (.int .i64 (goesM (m + 1) l n ps)) ∧ Up w w'
  | 0, _, _, _, _, _, _, n, w, hl, hps => picks_step n w hl hps fun _ _ _ _ _ hk hp => absurd hp (pck_zero hk)
  | m + 1, _, _, _, _, _, _, n, w, hl, hps => picks_step n w hl hps fun _ nm _ w1 hl1 hk _ => picks_any m nm w1 hl1 hk
end Go.Proofs.Ytgckpmcdlciibab

namespace Go.Proofs.Ytgckpmcdlciibab
open Go.RowKit
set_option maxHeartbeats 400000 in
theorem Check_any {m : Nat} {S S' : Nat → Prop} {lv v : Value} {l : List Prt} (q : Ak) (w : World) (hl : SliceOf prtLay S' w lv l) (hps : SliceOf (pckLay (m + 1)) S w v q.picks)  :
    Calls Try.prog 24 #[lv, .agg #[.string q.type, .string q.key, v]] w fun en w' => en = .returned (.int .i64 (checkM (m + 1) l q)) ∧ Up w w' := by
  refine calls_of_sim Try.func24 rfl (Nat.le_of_ble_eq_true rfl) ?_
  obtain ⟨a, c, rfl, hnc, hcm, hel⟩ := id hps
  obtain ⟨la, lc, rfl, hlnc, hlcm, _⟩ := id hl
  repeat (first | refine RL.vv ?_ | refine RL.p ?_ | refine RL.nil ?_ | refine Sim.seq ?_ | refine Sim.region ?_ | refine Sim.block ?_ | refine Sim.skip ?_ | refine Sim.inBlock ?_ | refine Sim.exit rfl ?_ | refine Sim.condT rfl ?_ | refine Sim.condF rfl ?_)
  refine RL.box trivial rfl rfl fun w1 hu hb1 hsz => ?_
  have ha1 := hb1.at
  repeat (first | refine RL.vv ?_ | refine RL.p ?_ | refine RL.nil ?_ | refine Sim.seq ?_ | refine Sim.region ?_ | refine Sim.block ?_ | refine Sim.skip ?_ | refine Sim.inBlock ?_ | refine Sim.exit rfl ?_ | refine Sim.condT rfl ?_ | refine Sim.condF rfl ?_)
  refine RL.call trivial rfl (c_static rfl) (WrongAsk_any q w1 (hps.up hu)) ?_
  rintro _ w2 ⟨rfl, hu2⟩
  refine ⟨_, rfl, ?_⟩
  have hb1 := hb1.up hu2
  have hu := hu.trans hu2
  unfold checkM
  by_cases h : wrongAsk (m + 1) q = 0
  · rw [if_pos h]
    repeat (first | refine RL.vv ?_ | refine RL.p ?_ | refine RL.nil ?_ | refine Sim.seq ?_ | refine Sim.region ?_ | refine Sim.block ?_ | refine Sim.skip ?_ | refine Sim.inBlock ?_ | refine Sim.exit rfl ?_ | refine Sim.condT rfl ?_ | refine Sim.condF rfl ?_)
    refine RL.call trivial rfl (c_static rfl) (picks_any m q.type w2 (hl.up hu) (hps.up hu)) ?_
    rintro _ w3 ⟨rfl, hu3⟩
    refine ⟨_, rfl, ?_⟩
    repeat (first | refine RL.vv ?_ | refine RL.p ?_ | refine RL.nil ?_ | refine Sim.seq ?_ | refine Sim.region ?_ | refine Sim.block ?_ | refine Sim.skip ?_ | refine Sim.inBlock ?_ | refine Sim.exit rfl ?_ | refine Sim.condT rfl ?_ | refine Sim.condF rfl ?_)
    exact Sim.ret1 Try.func24 rfl rfl ⟨rfl, hu.trans hu3⟩
  · rw [if_neg h]
    repeat (first | refine RL.vv ?_ | refine RL.p ?_ | refine RL.nil ?_ | refine Sim.seq ?_ | refine Sim.region ?_ | refine Sim.block ?_ | refine Sim.skip ?_ | refine Sim.inBlock ?_ | refine Sim.exit rfl ?_ | refine Sim.condT rfl ?_ | refine Sim.condF rfl ?_)
    exact Sim.ret1 Try.func24 rfl rfl ⟨rfl, hu⟩
end Go.Proofs.Ytgckpmcdlciibab
