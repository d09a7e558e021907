import Derived.Test.YtgckpmcdlciibaaC3
import Derived.Test.YtgckpmcdlciibaaEng5
import Derived.Test.YtgckpmcdlciibaaMod1
namespace Go.Proofs.Ytgckpmcdlciibaa
open Go.RowKit
set_option maxHeartbeats 1000000 in
theorem RNamed_any (s : Str) (w : World) (hs : s.size ≤ maxLen) : Calls Try.prog 24 #[.string s] w fun en w' => en = .returned (.bool (named s)) ∧ Up w w' := by
  have hs9 : s.size ≤ 9223372036854775807 := by simpa [maxLen] using hs
  refine calls_of_sim Try.func24 rfl (Nat.le_of_ble_eq_true rfl) ?_
  obtain ⟨c0, w0, he, hu0, hc1, hc2, hcells⟩ := e_bytes (P := Try.prog) (w := w) (t := 9) (u := 112) (ty := 112) (x := .tmp 6) (s := s) (e := [(6, .string s), (2, .bool false), (0, .string s)]) rfl hs
  repeat (first | refine RL.vv ?_ | refine RL.p ?_ | refine RL.nil ?_ | refine Sim.seq ?_ | refine Sim.region ?_ | refine Sim.block ?_ | refine Sim.skip ?_ | refine Sim.inBlock ?_ | refine Sim.exit rfl ?_ | refine Sim.condT rfl ?_ | refine Sim.condF rfl ?_)
  refine RL.eff trivial rfl he ?_
  repeat (first | refine RL.vv ?_ | refine RL.p ?_ | refine RL.nil ?_ | refine Sim.seq ?_ | refine Sim.region ?_ | refine Sim.block ?_ | refine Sim.skip ?_ | refine Sim.inBlock ?_ | refine Sim.exit rfl ?_ | refine Sim.condT rfl ?_ | refine Sim.condF rfl ?_)
  refine Sim.loop (σ := Nat) (fun i => [(0, .string s), (7, .slice (some ⟨w.heap.size, 0, none⟩) s.size c0), (8, .int .i64 (s.size : Int)), (9, .int .i64 (i : Int))]) (fun i w' => i ≤ s.size ∧ w' = w0 ∧ namedTo s i) (fun i => s.size - i) 0 sb ⟨Nat.zero_le _, rfl, fun j c hj => absurd hj (Nat.not_lt_zero _)⟩ ?_
  rintro i w1 ⟨hi, rfl, hno⟩ next
  by_cases hlt : i < s.size
  · obtain ⟨c, hc⟩ := str_get? s i hlt
    have hcell := hcells i c hc
    have go : okc i c = true → ∀ e', Env.Sub [(0, .string s), (7, .slice (some ⟨w.heap.size, 0, none⟩) s.size c0), (8, .int .i64 (s.size : Int)), (9, .int .i64 ((i + 1 : Nat) : Int))] e' → Sim Try.prog 24 _ _ e' w1 _ :=
      fun ho e' hs => next (i + 1) w1 e' ⟨by omega, rfl, namedTo_succ hno hc ho⟩ (by omega) hs
    clear next
    by_cases c1 : (c.toNat : Int) < 97
    · by_cases c3 : (i : Int) = 0
      · repeat (first | refine RL.vv ?_ | refine RL.p ?_ | refine RL.nil ?_ | refine Sim.seq ?_ | refine Sim.region ?_ | refine Sim.block ?_ | refine Sim.skip ?_ | refine Sim.inBlock ?_ | refine Sim.exit rfl ?_ | refine Sim.condT rfl ?_ | refine Sim.condF rfl ?_)
        exact Sim.ret1 Try.func24 rfl rfl ⟨by rw [not_named_at hc hlt (okc_f (.inl c1) (.inl c3))], hu0⟩
      by_cases c4 : (c.toNat : Int) < 48
      · repeat (first | refine RL.vv ?_ | refine RL.p ?_ | refine RL.nil ?_ | refine Sim.seq ?_ | refine Sim.region ?_ | refine Sim.block ?_ | refine Sim.skip ?_ | refine Sim.inBlock ?_ | refine Sim.exit rfl ?_ | refine Sim.condT rfl ?_ | refine Sim.condF rfl ?_)
        exact Sim.ret1 Try.func24 rfl rfl ⟨by rw [not_named_at hc hlt (okc_f (.inl c1) (.inr (.inl c4)))], hu0⟩
      by_cases c5 : (57 : Int) < c.toNat
      · repeat (first | refine RL.vv ?_ | refine RL.p ?_ | refine RL.nil ?_ | refine Sim.seq ?_ | refine Sim.region ?_ | refine Sim.block ?_ | refine Sim.skip ?_ | refine Sim.inBlock ?_ | refine Sim.exit rfl ?_ | refine Sim.condT rfl ?_ | refine Sim.condF rfl ?_)
        exact Sim.ret1 Try.func24 rfl rfl ⟨by rw [not_named_at hc hlt (okc_f (.inl c1) (.inr (.inr c5)))], hu0⟩
      · repeat (first | refine RL.vv ?_ | refine RL.p ?_ | refine RL.nil ?_ | refine Sim.seq ?_ | refine Sim.region ?_ | refine Sim.block ?_ | refine Sim.skip ?_ | refine Sim.inBlock ?_ | refine Sim.exit rfl ?_ | refine Sim.condT rfl ?_ | refine Sim.condF rfl ?_)
        exact go (okc_t2 c3 c4 c5) _ sb
    by_cases c2 : (122 : Int) < c.toNat
    · by_cases c3 : (i : Int) = 0
      · repeat (first | refine RL.vv ?_ | refine RL.p ?_ | refine RL.nil ?_ | refine Sim.seq ?_ | refine Sim.region ?_ | refine Sim.block ?_ | refine Sim.skip ?_ | refine Sim.inBlock ?_ | refine Sim.exit rfl ?_ | refine Sim.condT rfl ?_ | refine Sim.condF rfl ?_)
        exact Sim.ret1 Try.func24 rfl rfl ⟨by rw [not_named_at hc hlt (okc_f (.inr c2) (.inl c3))], hu0⟩
      have c5 : (57 : Int) < c.toNat := by omega
      · repeat (first | refine RL.vv ?_ | refine RL.p ?_ | refine RL.nil ?_ | refine Sim.seq ?_ | refine Sim.region ?_ | refine Sim.block ?_ | refine Sim.skip ?_ | refine Sim.inBlock ?_ | refine Sim.exit rfl ?_ | refine Sim.condT rfl ?_ | refine Sim.condF rfl ?_)
        exact Sim.ret1 Try.func24 rfl rfl ⟨by rw [not_named_at hc hlt (okc_f (.inr c2) (.inr (.inr c5)))], hu0⟩
    · repeat (first | refine RL.vv ?_ | refine RL.p ?_ | refine RL.nil ?_ | refine Sim.seq ?_ | refine Sim.region ?_ | refine Sim.block ?_ | refine Sim.skip ?_ | refine Sim.inBlock ?_ | refine Sim.exit rfl ?_ | refine Sim.condT rfl ?_ | refine Sim.condF rfl ?_)
      exact go (okc_t1 c1 c2) _ sb
  · have hn : namedTo s s.size := namedTo_mono hno (by omega)
    clear next
    by_cases h1 : (0 : Int) < s.size
    · by_cases h2 : (s.size : Int) ≤ 12
      · repeat (first | refine RL.vv ?_ | refine RL.p ?_ | refine RL.nil ?_ | refine Sim.seq ?_ | refine Sim.region ?_ | refine Sim.block ?_ | refine Sim.skip ?_ | refine Sim.inBlock ?_ | refine Sim.exit rfl ?_ | refine Sim.condT rfl ?_ | refine Sim.condF rfl ?_)
        exact Sim.ret1 Try.func24 rfl rfl ⟨by rw [named_of ⟨by omega, by omega, hn⟩], hu0⟩
      · repeat (first | refine RL.vv ?_ | refine RL.p ?_ | refine RL.nil ?_ | refine Sim.seq ?_ | refine Sim.region ?_ | refine Sim.block ?_ | refine Sim.skip ?_ | refine Sim.inBlock ?_ | refine Sim.exit rfl ?_ | refine Sim.condT rfl ?_ | refine Sim.condF rfl ?_)
        exact Sim.ret1 Try.func24 rfl rfl ⟨by rw [not_named_size (by omega)], hu0⟩
    · repeat (first | refine RL.vv ?_ | refine RL.p ?_ | refine RL.nil ?_ | refine Sim.seq ?_ | refine Sim.region ?_ | refine Sim.block ?_ | refine Sim.skip ?_ | refine Sim.inBlock ?_ | refine Sim.exit rfl ?_ | refine Sim.condT rfl ?_ | refine Sim.condF rfl ?_)
      exact Sim.ret1 Try.func24 rfl rfl ⟨by rw [not_named_size (by omega)], hu0⟩

/-- what IndexFunc's index is, of a list -/
theorem idx_firstIdx {α : Type} (l : List α) (q : α → Bool) (p : Nat → Bool) (h : ∀ (i : Nat) x, l[i]? = some x → p i = q x) : idx p l.length = firstIdx l q := by
  by_cases hex : 0 ≤ firstIdx l q
  · obtain ⟨i, x, hi, hx, hq, hlt⟩ := firstIdx_lt hex
    rw [hi]
    refine idx_hit hlt (by rw [h i x hx]; exact hq) fun j hj => ?_
    have hj' : j < l.length := by omega
    rw [h j l[j] (List.getElem?_eq_getElem hj')]
    cases hqj : q l[j] with
    | false => rfl
    | true =>
      exfalso
      have : firstIdx l q ≤ j := by
        unfold firstIdx at hi ⊢
        cases hf : l.findIdx? q with
        | none => simp [hf] at hi
        | some k =>
          obtain ⟨hk, _, hmin⟩ := List.findIdx?_eq_some_iff_getElem.1 hf
          simp only [Int.ofNat_le]
          by_cases hkj : k ≤ j
          · exact hkj
          · have := hmin j (by omega)
            rw [hqj] at this
            simp at this
      omega
  · rw [firstIdx_neg hex]
    refine idx_miss fun j hj => ?_
    rw [h j l[j] (List.getElem?_eq_getElem hj)]
    cases hqj : q l[j] with
    | false => rfl
    | true => exact absurd (firstIdx_nonneg_iff.2 (List.any_eq_true.2 ⟨_, List.getElem_mem hj, hqj⟩)) hex

set_option maxHeartbeats 400000 in
theorem Find1_any (nm nm2 : ByteArray) (fs : Value) (b : Nat) (w : World) (hb : At w b 0 [.string nm2]) :
    Calls Try.prog 60 #[.agg #[.string nm, fs], .pointer (some ⟨b, 0, none⟩)] w fun en w' => en = .returned (.bool (decide (nm = nm2))) ∧ Up w w' := by
  refine calls_of_sim Try.func60 rfl (Nat.le_of_ble_eq_true rfl) ?_
  repeat (first | refine RL.vv ?_ | refine RL.p ?_ | refine RL.nil ?_ | refine Sim.seq ?_ | refine Sim.region ?_ | refine Sim.block ?_ | refine Sim.skip ?_ | refine Sim.inBlock ?_ | refine Sim.exit rfl ?_ | refine Sim.condT rfl ?_ | refine Sim.condF rfl ?_)
  refine RL.eff trivial rfl (e_box rfl) ?_
  have h1 : At _ _ 0 [.string nm, fs] := At.box w (.agg #[.string nm, fs]) 55
  have hb := hb.up (Up.alloc w (.cells #[.string nm, fs] 55))
  repeat (first | refine RL.vv ?_ | refine RL.p ?_ | refine RL.nil ?_ | refine Sim.seq ?_ | refine Sim.region ?_ | refine Sim.block ?_ | refine Sim.skip ?_ | refine Sim.inBlock ?_ | refine Sim.exit rfl ?_ | refine Sim.condT rfl ?_ | refine Sim.condF rfl ?_)
  exact Sim.ret1 Try.func60 rfl rfl ⟨rfl, Up.alloc _ _⟩
set_option maxHeartbeats 400000 in
theorem Field1_any (nm nm2 ty : ByteArray) (k : Int) (b : Nat) (w : World) (hb : At w b 0 [.string nm2]) :
    Calls Try.prog 64 #[.agg #[.string nm, .int .i64 k, .string ty], .pointer (some ⟨b, 0, none⟩)] w fun en w' => en = .returned (.bool (decide (nm = nm2))) ∧ Up w w' := by
  refine calls_of_sim Try.func64 rfl (Nat.le_of_ble_eq_true rfl) ?_
  repeat (first | refine RL.vv ?_ | refine RL.p ?_ | refine RL.nil ?_ | refine Sim.seq ?_ | refine Sim.region ?_ | refine Sim.block ?_ | refine Sim.skip ?_ | refine Sim.inBlock ?_ | refine Sim.exit rfl ?_ | refine Sim.condT rfl ?_ | refine Sim.condF rfl ?_)
  refine RL.eff trivial rfl (e_box rfl) ?_
  have h1 : At _ _ 0 [.string nm, .int .i64 k, .string ty] := At.box w (.agg #[.string nm, .int .i64 k, .string ty]) 118
  have hb := hb.up (Up.alloc w (.cells #[.string nm, .int .i64 k, .string ty] 118))
  repeat (first | refine RL.vv ?_ | refine RL.p ?_ | refine RL.nil ?_ | refine Sim.seq ?_ | refine Sim.region ?_ | refine Sim.block ?_ | refine Sim.skip ?_ | refine Sim.inBlock ?_ | refine Sim.exit rfl ?_ | refine Sim.condT rfl ?_ | refine Sim.condF rfl ?_)
  exact Sim.ret1 Try.func64 rfl rfl ⟨rfl, Up.alloc _ _⟩


set_option maxHeartbeats 400000 in
theorem Find_any {S : Nat → Prop} {v : Value} {l : List Typ} (n : Str) (w : World) (hl : SliceOf typLay S w v l) :
    Calls Try.prog 25 #[v, .string n] w fun en w' => en = .returned (.int .i64 (findT l n)) ∧ Up w w' := by
  refine calls_of_sim Try.func25 rfl (Nat.le_of_ble_eq_true rfl) ?_
  repeat (first | refine RL.vv ?_ | refine RL.p ?_ | refine RL.nil ?_ | refine Sim.seq ?_ | refine Sim.region ?_ | refine Sim.block ?_ | refine Sim.skip ?_ | refine Sim.inBlock ?_ | refine Sim.exit rfl ?_ | refine Sim.condT rfl ?_ | refine Sim.condF rfl ?_)
  refine RL.eff trivial rfl (e_box rfl) ?_
  have h1 : At _ _ 0 [.string n] := At.box w (.string n) 9
  have hu := Up.alloc w (.cells (Value.string n).cells 9)
  have hl := hl.up hu
  generalize w.alloc (.cells (Value.string n).cells 9) = w1 at *
  repeat (first | refine RL.vv ?_ | refine RL.p ?_ | refine RL.nil ?_ | refine Sim.seq ?_ | refine Sim.region ?_ | refine Sim.block ?_ | refine Sim.skip ?_ | refine Sim.inBlock ?_ | refine Sim.exit rfl ?_ | refine Sim.condT rfl ?_ | refine Sim.condF rfl ?_)
  obtain ⟨cells, hel, his⟩ := hl.elems
  refine RL.call trivial rfl (c_static rfl) (IndexFunc_Type (p := fun i => match l[i]? with | some t => decide (t.name = n) | none => false) hel ?_) ?_
  · intro i hi w2 hu2
    obtain ⟨fs, hcs, hfs⟩ := his i l[i] (List.getElem?_eq_getElem hi)
    rw [hcs]
    refine (Find1_any _ n _ _ _ (h1.up hu2)).mono ?_
    rintro _ w3 ⟨rfl, hu3⟩
    exact ⟨by simp [List.getElem?_eq_getElem hi], hu3⟩
  rintro _ w2 ⟨rfl, hu2⟩
  refine ⟨_, rfl, ?_⟩
  repeat (first | refine RL.vv ?_ | refine RL.p ?_ | refine RL.nil ?_ | refine Sim.seq ?_ | refine Sim.region ?_ | refine Sim.block ?_ | refine Sim.skip ?_ | refine Sim.inBlock ?_ | refine Sim.exit rfl ?_ | refine Sim.condT rfl ?_ | refine Sim.condF rfl ?_)
  exact Sim.ret1 Try.func25 rfl rfl ⟨by rw [idx_firstIdx l (fun t => decide (t.name = n)) _ (fun i x hx => by simp only [hx])]; rfl, hu.trans hu2⟩
set_option maxHeartbeats 400000 in
theorem Field_any {S : Nat → Prop} {v : Value} {l : List Fld} (n : Str) (w : World) (hl : SliceOf fldLay S w v l) :
    Calls Try.prog 29 #[v, .string n] w fun en w' => en = .returned (.int .i64 (fieldF l n)) ∧ Up w w' := by
  refine calls_of_sim Try.func29 rfl (Nat.le_of_ble_eq_true rfl) ?_
  repeat (first | refine RL.vv ?_ | refine RL.p ?_ | refine RL.nil ?_ | refine Sim.seq ?_ | refine Sim.region ?_ | refine Sim.block ?_ | refine Sim.skip ?_ | refine Sim.inBlock ?_ | refine Sim.exit rfl ?_ | refine Sim.condT rfl ?_ | refine Sim.condF rfl ?_)
  refine RL.eff trivial rfl (e_box rfl) ?_
  have h1 : At _ _ 0 [.string n] := At.box w (.string n) 9
  have hu := Up.alloc w (.cells (Value.string n).cells 9)
  have hl := hl.up hu
  generalize w.alloc (.cells (Value.string n).cells 9) = w1 at *
  repeat (first | refine RL.vv ?_ | refine RL.p ?_ | refine RL.nil ?_ | refine Sim.seq ?_ | refine Sim.region ?_ | refine Sim.block ?_ | refine Sim.skip ?_ | refine Sim.inBlock ?_ | refine Sim.exit rfl ?_ | refine Sim.condT rfl ?_ | refine Sim.condF rfl ?_)
  obtain ⟨cells, hel, his⟩ := hl.elems
  refine RL.call trivial rfl (c_static rfl) (IndexFunc_Field (p := fun i => match l[i]? with | some t => decide (t.name = n) | none => false) hel ?_) ?_
  · intro i hi w2 hu2
    have hcs : cells i = _ := his i l[i] (List.getElem?_eq_getElem hi)
    rw [hcs]
    refine (Field1_any _ n _ _ _ _ (h1.up hu2)).mono ?_
    rintro _ w3 ⟨rfl, hu3⟩
    exact ⟨by simp [List.getElem?_eq_getElem hi], hu3⟩
  rintro _ w2 ⟨rfl, hu2⟩
  refine ⟨_, rfl, ?_⟩
  repeat (first | refine RL.vv ?_ | refine RL.p ?_ | refine RL.nil ?_ | refine Sim.seq ?_ | refine Sim.region ?_ | refine Sim.block ?_ | refine Sim.skip ?_ | refine Sim.inBlock ?_ | refine Sim.exit rfl ?_ | refine Sim.condT rfl ?_ | refine Sim.condF rfl ?_)
  exact Sim.ret1 Try.func29 rfl rfl ⟨by rw [idx_firstIdx l (fun t => decide (t.name = n)) _ (fun i x hx => by simp only [hx])]; rfl, hu.trans hu2⟩

/-- the address of an element, if there is one -/
def ptrAt (v : Value) (k : Nat) (i : Int) : Value := match v with
  | .slice (some ⟨b, o, _⟩) _ _ => if i < 0 then .pointer none else .pointer (some ⟨b, o + i.toNat * k, none⟩)
  | _ => .pointer none
theorem ptrAt_nat (b o n c k i : Nat) : ptrAt (.slice (some ⟨b, o, none⟩) n c) k (i : Int) = .pointer (some ⟨b, o + i * k, none⟩) := by
  simp only [ptrAt, Int.toNat_natCast]
  rw [if_neg (by omega)]
theorem ptrAt_neg (v : Value) (k : Nat) : ptrAt v k (-1) = .pointer none := by
  unfold ptrAt
  split <;> simp
set_option maxHeartbeats 400000 in
theorem RType_any {S : Nat → Prop} {v : Value} {l : List Typ} (n : Str) (w : World) (hl : SliceOf typLay S w v l) :
    Calls Try.prog 26 #[v, .string n] w fun en w' => en = .returned (ptrAt v 2 (findT l n)) ∧ w' = w := by
  refine calls_of_sim Try.func26 rfl (Nat.le_of_ble_eq_true rfl) ?_
  obtain ⟨a, c, rfl, hnc, hcm, hel⟩ := id hl
  unfold maxLen at hcm
  repeat (first | refine RL.vv ?_ | refine RL.p ?_ | refine RL.nil ?_ | refine Sim.seq ?_ | refine Sim.region ?_ | refine Sim.block ?_ | refine Sim.skip ?_ | refine Sim.inBlock ?_ | refine Sim.exit rfl ?_ | refine Sim.condT rfl ?_ | refine Sim.condF rfl ?_)
  refine Sim.loop (σ := Nat) (fun i => [(0, .slice a l.length c), (1, .string n), (6, .slice a l.length c), (7, .int .i64 (l.length : Int)), (8, .int .i64 (i : Int))]) (fun i w' => i ≤ l.length ∧ w' = w ∧ ∀ (j : Nat) x, j < i → l[j]? = some x → decide (x.name = n) = false) (fun i => l.length - i) 0 sb ⟨Nat.zero_le _, rfl, fun j x hj => absurd hj (Nat.not_lt_zero _)⟩ ?_
  rintro i w1 ⟨hi, rfl, hno⟩ next
  by_cases hlt : i < l.length
  · have hx : l[i]? = some l[i] := List.getElem?_eq_getElem hlt
    obtain ⟨b, o, cs, rfl, _, hat, ⟨fv, rfl, _⟩, _⟩ := hl.at hx
    by_cases hn : l[i].name = n
    · repeat (first | refine RL.vv ?_ | refine RL.p ?_ | refine RL.nil ?_ | refine Sim.seq ?_ | refine Sim.region ?_ | refine Sim.block ?_ | refine Sim.skip ?_ | refine Sim.inBlock ?_ | refine Sim.exit rfl ?_ | refine Sim.condT rfl ?_ | refine Sim.condF rfl ?_)
      exact Sim.ret1 Try.func26 rfl rfl ⟨by rw [findT, firstIdx_hit hx (decide_eq_true hn) hno, ptrAt_nat], rfl⟩
    · repeat (first | refine RL.vv ?_ | refine RL.p ?_ | refine RL.nil ?_ | refine Sim.seq ?_ | refine Sim.region ?_ | refine Sim.block ?_ | refine Sim.skip ?_ | refine Sim.inBlock ?_ | refine Sim.exit rfl ?_ | refine Sim.condT rfl ?_ | refine Sim.condF rfl ?_)
      refine next (i + 1) w1 _ ⟨by omega, rfl, fun j x hj hxj => ?_⟩ (by omega) sb
      by_cases hji : j = i
      · subst hji; rw [hx] at hxj; cases hxj; exact decide_eq_false hn
      · exact hno j x (by omega) hxj
  · repeat (first | refine RL.vv ?_ | refine RL.p ?_ | refine RL.nil ?_ | refine Sim.seq ?_ | refine Sim.region ?_ | refine Sim.block ?_ | refine Sim.skip ?_ | refine Sim.inBlock ?_ | refine Sim.exit rfl ?_ | refine Sim.condT rfl ?_ | refine Sim.condF rfl ?_)
    exact Sim.ret1 Try.func26 rfl rfl ⟨by rw [findT, firstIdx_miss (fun j x hxj => hno j x (by have := (List.getElem?_eq_some_iff.1 hxj).1; omega) hxj), ptrAt_neg], rfl⟩
end Go.Proofs.Ytgckpmcdlciibaa
