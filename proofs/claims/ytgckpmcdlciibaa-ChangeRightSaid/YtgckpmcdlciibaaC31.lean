/- Contracts of chapter 2: a type looked up in what is seen; a type called otherwise. -/
import Derived.Test.YtgckpmcdlciibaaC30
import Derived.Test.YtgckpmcdlciibaaC11
namespace Go.Proofs.Ytgckpmcdlciibaa
open Go.RowKit
set_option maxHeartbeats 400000 in
theorem IndexFunc_Seen {g : FuncId} [Fun Try.prog g] {caps : Array Value} {sv : Value} {n : Nat} {cells : Nat → List Value} {p : Nat → Bool} {w : World} (hs : Elems 4 w sv n cells)
    (hp : ∀ i, i < n → ∀ w', Up w w' → Calls Try.prog g (#[.agg (cells i).toArray] ++ caps) w' fun en w'' => en = .returned (.bool (p i)) ∧ Up w' w'') :
    Calls Try.prog 117 #[sv, .func (.func g) #[] caps] w fun en w' => en = .returned (.int .i64 (idx p n)) ∧ Up w w' := by
  obtain ⟨a, c, rfl, hnc, hcm, hel⟩ := hs
  unfold maxLen at hcm
  refine calls_of_sim Try.func117 rfl (Nat.le_of_ble_eq_true rfl) ?_
  repeat (first | refine RL.vv ?_ | refine RL.p ?_ | refine RL.nil ?_ | refine Sim.seq ?_ | refine Sim.region ?_ | refine Sim.block ?_ | refine Sim.skip ?_ | refine Sim.inBlock ?_ | refine Sim.exit rfl ?_ | refine Sim.condT rfl ?_ | refine Sim.condF rfl ?_)
  refine Sim.loop (σ := Nat) (fun i => [(0, .slice a n c), (1, .func (.func g) #[] caps), (6, .slice a n c), (7, .int .i64 (n : Int)), (8, .int .i64 (i : Int))]) (fun i w' => i ≤ n ∧ Up w w' ∧ ∀ j, j < i → p j = false) (fun i => n - i) 0 sb ⟨Nat.zero_le _, Up.refl _, fun j hj => absurd hj (Nat.not_lt_zero _)⟩ ?_
  rintro i w1 ⟨hi, hu, hno⟩ next
  by_cases hlt : i < n
  · obtain ⟨b, o, rfl, hc⟩ := hel (by omega)
    obtain ⟨hk, hcell⟩ := hc i hlt
    have hcell := hcell.up hu
    repeat (first | refine RL.vv ?_ | refine RL.p ?_ | refine RL.nil ?_ | refine Sim.seq ?_ | refine Sim.region ?_ | refine Sim.block ?_ | refine Sim.skip ?_ | refine Sim.inBlock ?_ | refine Sim.exit rfl ?_ | refine Sim.condT rfl ?_ | refine Sim.condF rfl ?_)
    refine RL.call trivial rfl (c_closure rfl rfl) (hp i hlt w1 hu) ?_
    rintro _ w2 ⟨rfl, hu2⟩
    refine ⟨_, rfl, ?_⟩
    refine RL.nil ?_
    refine Sim.cond rfl (fun ht => ?_) (fun hf => ?_)
    · repeat (first | refine RL.vv ?_ | refine RL.p ?_ | refine RL.nil ?_ | refine Sim.seq ?_ | refine Sim.region ?_ | refine Sim.block ?_ | refine Sim.skip ?_ | refine Sim.inBlock ?_ | refine Sim.exit rfl ?_ | refine Sim.condT rfl ?_ | refine Sim.condF rfl ?_)
      exact Sim.ret1 Try.func117 rfl rfl ⟨by rw [idx_hit hlt ht hno], hu.trans hu2⟩
    · repeat (first | refine RL.vv ?_ | refine RL.p ?_ | refine RL.nil ?_ | refine Sim.seq ?_ | refine Sim.region ?_ | refine Sim.block ?_ | refine Sim.skip ?_ | refine Sim.inBlock ?_ | refine Sim.exit rfl ?_ | refine Sim.condT rfl ?_ | refine Sim.condF rfl ?_)
      refine next (i + 1) w2 _ ⟨by omega, hu.trans hu2, fun j hj => ?_⟩ (by omega) sb
      by_cases hji : j = i
      · subst hji; exact hf
      · exact hno j (by omega)
  · repeat (first | refine RL.vv ?_ | refine RL.p ?_ | refine RL.nil ?_ | refine Sim.seq ?_ | refine Sim.region ?_ | refine Sim.block ?_ | refine Sim.skip ?_ | refine Sim.inBlock ?_ | refine Sim.exit rfl ?_ | refine Sim.condT rfl ?_ | refine Sim.condF rfl ?_)
    exact Sim.ret1 Try.func117 rfl rfl ⟨by rw [idx_miss (fun j hj => hno j (by omega))], hu⟩

set_option maxHeartbeats 400000 in
theorem vfind1_any (n n2 : Str) (v1 v2 v3 : Value) (b : Nat) (w : World) (hb : At w b 0 [.string n]) :
    Calls Try.prog 118 #[.agg #[.string n2, v1, v2, v3], .pointer (some ⟨b, 0, none⟩)] w fun en w' => en = .returned (.bool (decide (n2 = n))) ∧ Up w w' := by
  refine calls_of_sim Try.func118 rfl (Nat.le_of_ble_eq_true rfl) ?_
  repeat (first | refine RL.vv ?_ | refine RL.p ?_ | refine RL.nil ?_ | refine Sim.seq ?_ | refine Sim.region ?_ | refine Sim.block ?_ | refine Sim.skip ?_ | refine Sim.inBlock ?_ | refine Sim.exit rfl ?_ | refine Sim.condT rfl ?_ | refine Sim.condF rfl ?_)
  refine RL.bx (.refl w) fun b3 w1 _ _ hu _ hb3 => ?_
  have ha3 := hb3.at
  repeat (first | refine RL.vv ?_ | refine RL.p ?_ | refine RL.nil ?_ | refine Sim.seq ?_ | refine Sim.region ?_ | refine Sim.block ?_ | refine Sim.skip ?_ | refine Sim.inBlock ?_ | refine Sim.exit rfl ?_ | refine Sim.condT rfl ?_ | refine Sim.condF rfl ?_)
  exact Sim.ret1 Try.func118 rfl rfl ⟨rfl, hu⟩
def hdF (l : List Hd) (n : Str) : Int := firstIdx l fun h => decide (h.name = n)
set_option maxHeartbeats 400000 in
theorem vfind_any {S : Nat → Prop} {v : Value} {l : List Hd} (n : Str) (w : World) (hl : SliceOf hdLay S w v l) :
    Calls Try.prog 104 #[v, .string n] w fun en w' => en = .returned (.int .i64 (hdF l n)) ∧ Up w w' := by
  refine calls_of_sim Try.func104 rfl (Nat.le_of_ble_eq_true rfl) ?_
  repeat (first | refine RL.vv ?_ | refine RL.p ?_ | refine RL.nil ?_ | refine Sim.seq ?_ | refine Sim.region ?_ | refine Sim.block ?_ | refine Sim.skip ?_ | refine Sim.inBlock ?_ | refine Sim.exit rfl ?_ | refine Sim.condT rfl ?_ | refine Sim.condF rfl ?_)
  refine RL.bx (.refl w) fun b1 w1 _ _ hu _ hb1 => ?_
  repeat (first | refine RL.vv ?_ | refine RL.p ?_ | refine RL.nil ?_ | refine Sim.seq ?_ | refine Sim.region ?_ | refine Sim.block ?_ | refine Sim.skip ?_ | refine Sim.inBlock ?_ | refine Sim.exit rfl ?_ | refine Sim.condT rfl ?_ | refine Sim.condF rfl ?_)
  obtain ⟨cells, hel, his⟩ := (hl.up hu).elems
  refine RL.cu hu (IndexFunc_Seen (g := 118) (caps := #[.pointer (some ⟨b1, 0, none⟩)]) (p := fun i => match l[i]? with | some h => decide (h.name = n) | none => false) hel ?_) fun w2 hu _ => ?_
  · intro i hi w2 hu2
    obtain ⟨hcs, _⟩ := his i l[i] (List.getElem?_eq_getElem hi)
    rw [hcs]
    refine (vfind1_any n _ _ _ _ b1 w2 (hb1.at.up hu2)).mono ?_
    rintro _ w3 ⟨rfl, hu3⟩
    exact ⟨by simp [List.getElem?_eq_getElem hi], hu3⟩
  rw [idx_firstIdx l (fun h => decide (h.name = n)) _ (fun i x hx => by simp only [hx])]
  repeat (first | refine RL.vv ?_ | refine RL.p ?_ | refine RL.nil ?_ | refine Sim.seq ?_ | refine Sim.region ?_ | refine Sim.block ?_ | refine Sim.skip ?_ | refine Sim.inBlock ?_ | refine Sim.exit rfl ?_ | refine Sim.condT rfl ?_ | refine Sim.condF rfl ?_)
  exact Sim.ret1 Try.func104 rfl rfl ⟨rfl, hu⟩
theorem firstIdx_map {α β : Type} {l : List α} {m : List β} {p : α → Bool} {q : β → Bool} (hl : l.length = m.length) (h : ∀ (i : Nat) x y, l[i]? = some x → m[i]? = some y → p x = q y) : firstIdx l p = firstIdx m q := by
  by_cases h0 : 0 ≤ firstIdx l p
  · obtain ⟨i, x, h1, h2, h3, h4⟩ := firstIdx_lt h0
    rw [h1]
    have hy : m[i]? = some (m[i]'(by omega)) := List.getElem?_eq_getElem (by omega)
    refine (firstIdx_hit hy (by rw [← h i x _ h2 hy]; exact h3) fun j y hj hy2 => ?_).symm
    have hx2 : l[j]? = some (l[j]'(by omega)) := List.getElem?_eq_getElem (by omega)
    rw [← h j _ y hx2 hy2]
    unfold firstIdx at h1
    cases hf : l.findIdx? p with
    | none => rw [hf] at h1; simp at h1
    | some k =>
      rw [hf] at h1
      simp only [Int.natCast_inj] at h1
      subst h1
      obtain ⟨_, _, hno⟩ := List.findIdx?_eq_some_iff_getElem.1 hf
      have := hno j hj
      simpa using this
  · rw [firstIdx_neg h0]
    refine (firstIdx_miss fun j y hy => ?_).symm
    have hlt := (List.getElem?_eq_some_iff.1 hy).1
    have hx : l[j]? = some (l[j]'(by omega)) := List.getElem?_eq_getElem (by omega)
    rw [← h j _ y hx hy]
    cases hp : p (l[j]'(by omega)) with
    | false => rfl
    | true => exact absurd (firstIdx_nonneg_iff.2 (List.any_eq_true.2 ⟨_, List.mem_of_getElem? hx, hp⟩)) h0
theorem ViewAt.find {B : Nat} {w : World} {v : Value} {hds : List Hd} {sns : List Sn} {lab : Nat → Nat} (h : ViewAt B w v hds sns lab) (n : Str) : hdF hds n = snF sns n :=
  firstIdx_map h.len fun i a s h1 h2 => by rw [(h.name i a s h1 h2).1]
theorem ViewAt.slice {B : Nat} {w : World} {v : Value} {hds : List Hd} {sns : List Sn} {lab : Nat → Nat} (h : ViewAt B w v hds sns lab) : SliceOf hdLay (fun _ => True) w v hds := (h.row.no (S' := Nn)).sl (fun _ h _ _ => h.elim) (fun _ _ => trivial)
end Go.Proofs.Ytgckpmcdlciibaa
