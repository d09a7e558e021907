/- Regions that draw their order and store: until one of the operations D has come up, S1 holds; S2 always. -/
import Derived.Test.YtgckpmcdlciibaaEngB
namespace Go.Proofs.Ytgckpmcdlciibaa
open Go.RowKit
/-- none of D is listed -/
def Clean (D : List Nat) (listed : Array Bool) : Prop := ∀ d ∈ D, listed.getD d true = false
theorem Clean.set {D : List Nat} {listed : Array Bool} {i : Nat} (h : Clean D listed) (hi : i ∉ D) : Clean D (listed.setIfInBounds i true) := fun d hd => by
  rw [getD_set_ne true (fun x : i = d => hi (by rw [x]; exact hd))]
  exact h d hd
section
variable {P : Program} {f : FuncId} {N : Nat} {k : List Item} {e : Env} {w : World} {R : Ending → World → Prop}
variable {ops : Array Oper} {D : List Nat} {S1 S2 : World → Prop} {fuel : Nat} {listed : Array Bool} {K : Act → World → Prop}
def anyD (P : Program) (ops : Array Oper) (Q : Exit → Act → World → Prop) (D : List Nat) (S1 S2 : World → Prop) : Nat → Array Bool → Act → World → Prop
  | 0, listed, a, w => Region.ready .any ops listed = [] ∧ Q .normal a w
  | fuel + 1, listed, a, w => (Region.ready .any ops listed = [] → Q .normal a w) ∧
    ∀ i ∈ Region.ready .any ops listed, wpOp P ops Q i (fun a' w' => (S2 w' ∧ (Clean D (listed.setIfInBounds i true) → S1 w')) ∧ anyD P ops Q D S1 S2 fuel (listed.setIfInBounds i true) a' w') a w
theorem any_of_anyD {Q : Exit → Act → World → Prop} : ∀ (fuel : Nat) (listed : Array Bool) (a : Act) (w : World), anyD P ops Q D S1 S2 fuel listed a w → wpAny P .any ops Q fuel listed a w
  | 0, _, _, _, h => h
  | fuel + 1, _, _, _, h => ⟨h.1, fun i hi => wpOp_mono (fun a' w' h' => any_of_anyD fuel _ a' w' h'.2) (h.2 i hi)⟩
/-- all of D wait for i -/
def waits (ops : Array Oper) (D : List Nat) (i : Nat) : Bool := D.all fun d => d != i && match ops[d]? with
  | some o => o.after.any fun x => Region.binds .any x && x.on == i
  | none => false
theorem anyD_first {Q : Exit → Act → World → Prop} {i : Nat} {oi : Oper} {v : Value} (hi : ops[i]? = some oi) (hs : Region.noSelect ops = true) (hD : waits ops D i = true)
    (hQ : ∀ c a w, Q (.panic c) (a.put oi.dst v) w → Q (.panic c) a w) : ∀ (fuel : Nat) (listed : Array Bool) (a : Act) (w : World), Region.free .any ops listed i = true → i ∈ Region.ready .any ops listed → Clean D listed →
      YieldsIf P ops S1 oi v a → S1 w → S2 w → anyD P ops Q D S1 S2 fuel (listed.setIfInBounds i true) (a.put oi.dst v) w → anyD P ops Q D S1 S2 (fuel + 1) listed a w := by
  have hDi : i ∉ D := fun h => by
    have := List.all_eq_true.1 hD i h
    simp at this
  have hsel := Region.noSelect_spec hs
  intro fuel
  induction fuel with
  | zero =>
    intro listed a w _ hr hc hy h1 h2 H
    refine ⟨fun h => (by rw [h] at hr; cases hr), fun j hj => ?_⟩
    by_cases hji : j = i
    · subst hji
      exact hy.wpOp hi h1 ⟨⟨h2, fun _ => h1⟩, H⟩
    · have := ready_mono hj hji
      rw [H.1] at this
      cases this
  | succ fuel ih =>
    intro listed a w hf hr hc hy h1 h2 H
    refine ⟨fun h => (by rw [h] at hr; cases hr), fun j hj => ?_⟩
    by_cases hji : j = i
    · subst hji
      exact hy.wpOp hi h1 ⟨⟨h2, fun _ => h1⟩, H⟩
    · obtain ⟨hjun, oj, hoj, hall⟩ := mem_ready.1 hj
      have hiun := (mem_ready.1 hr).1
      have hno : ∀ x ∈ oj.after, Region.binds .any x = true → x.on ≠ i := fun x hx hb heq => by
        have h3 := hall x hx hb
        rw [heq] at h3
        rcases Nat.lt_or_ge i listed.size with h' | h'
        · simp [h'] at hiun h3
          rw [hiun] at h3
          cases h3
        · simp [Array.getElem?_eq_none h'] at h3
      have hjD : j ∉ D := fun h => by
        have h3 := List.all_eq_true.1 hD j h
        rw [hoj, Bool.and_eq_true] at h3
        obtain ⟨x, hx, hb⟩ := Array.any_eq_true'.1 h3.2
        simp only [Bool.and_eq_true, beq_iff_eq] at hb
        exact hno x hx hb.1 hb.2
      have hap := Region.free_spec hi hf j oj hoj hji hjun hno
      have h4 := wpOp_putIf hoj hap (fun cs b => hsel i oi cs b hi) (fun cs b => hsel j oj cs b hoj) hQ hy (H.2 j (ready_mono hj hji))
      have hf' : Region.free .any ops (listed.setIfInBounds j true) i = true := by
        simp only [Region.free, hi, List.all_eq_true, List.mem_range] at hf ⊢
        intro m hm
        have h5 := hf m hm
        by_cases hmj : m = j
        · subst hmj
          have : (listed.setIfInBounds m true).getD m true = true := by
            rw [Array.getD_eq_getD_getElem?]
            by_cases hlt : m < listed.size
            · simp [hlt]
            · simp [hlt]
          simp [this]
        · rw [getD_set_ne true (fun e => hmj e.symm)]
          exact h5
      refine wpOp_mono (fun a' w' h6 => ?_) h4
      obtain ⟨hy', ⟨h7, h8⟩, h9⟩ := h6
      have hc' := hc.set hjD
      have h10 : S1 w' := h8 ((hc.set hDi).set hjD)
      refine ⟨⟨h7, fun _ => h10⟩, ih _ a' w' hf' (ready_mono hr (Ne.symm hji)) hc' hy' h10 h7 ?_⟩
      rw [Array.setIfInBounds_comm _ _ hji]
      exact h9
/-- an operation that needs of the world only what always holds -/
theorem anyD_any {Q : Exit → Act → World → Prop} {i : Nat} {oi : Oper} {v : Value} (hi : ops[i]? = some oi) (hs : Region.noSelect ops = true) (hDi : i ∉ D)
    (hQ : ∀ c a w, Q (.panic c) (a.put oi.dst v) w → Q (.panic c) a w) : ∀ (fuel : Nat) (listed : Array Bool) (a : Act) (w : World), Region.free .any ops listed i = true → i ∈ Region.ready .any ops listed →
      YieldsIf P ops S2 oi v a → (Clean D listed → S1 w) → S2 w → anyD P ops Q D S1 S2 fuel (listed.setIfInBounds i true) (a.put oi.dst v) w → anyD P ops Q D S1 S2 (fuel + 1) listed a w := by
  have hun : ∀ {l : Array Bool}, Clean D (l.setIfInBounds i true) → Clean D l := fun h d hd => by
    have := h d hd
    rwa [getD_set_ne true (fun x : i = d => hDi (by rw [x]; exact hd))] at this
  have hsel := Region.noSelect_spec hs
  intro fuel
  induction fuel with
  | zero =>
    intro listed a w _ hr hy h1 h2 H
    refine ⟨fun h => (by rw [h] at hr; cases hr), fun j hj => ?_⟩
    by_cases hji : j = i
    · subst hji
      exact hy.wpOp hi h2 ⟨⟨h2, fun h => h1 (hun h)⟩, H⟩
    · have := ready_mono hj hji
      rw [H.1] at this
      cases this
  | succ fuel ih =>
    intro listed a w hf hr hy h1 h2 H
    refine ⟨fun h => (by rw [h] at hr; cases hr), fun j hj => ?_⟩
    by_cases hji : j = i
    · subst hji
      exact hy.wpOp hi h2 ⟨⟨h2, fun h => h1 (hun h)⟩, H⟩
    · obtain ⟨hjun, oj, hoj, hall⟩ := mem_ready.1 hj
      have hiun := (mem_ready.1 hr).1
      have hno : ∀ x ∈ oj.after, Region.binds .any x = true → x.on ≠ i := fun x hx hb heq => by
        have h3 := hall x hx hb
        rw [heq] at h3
        rcases Nat.lt_or_ge i listed.size with h' | h'
        · simp [h'] at hiun h3
          rw [hiun] at h3
          cases h3
        · simp [Array.getElem?_eq_none h'] at h3
      have hap := Region.free_spec hi hf j oj hoj hji hjun hno
      have h4 := wpOp_putIf hoj hap (fun cs b => hsel i oi cs b hi) (fun cs b => hsel j oj cs b hoj) hQ hy (H.2 j (ready_mono hj hji))
      have hf' : Region.free .any ops (listed.setIfInBounds j true) i = true := by
        simp only [Region.free, hi, List.all_eq_true, List.mem_range] at hf ⊢
        intro m hm
        have h5 := hf m hm
        by_cases hmj : m = j
        · subst hmj
          have : (listed.setIfInBounds m true).getD m true = true := by
            rw [Array.getD_eq_getD_getElem?]
            by_cases hlt : m < listed.size
            · simp [hlt]
            · simp [hlt]
          simp [this]
        · rw [getD_set_ne true (fun e => hmj e.symm)]
          exact h5
      refine wpOp_mono (fun a' w' h6 => ?_) h4
      obtain ⟨hy', ⟨h7, h8⟩, h9⟩ := h6
      have h10 : Clean D (listed.setIfInBounds j true) → S1 w' := fun hc => h8 (by
        rw [Array.setIfInBounds_comm _ _ (Ne.symm hji)]
        exact hc.set hDi)
      refine ⟨⟨h7, h10⟩, ih _ a' w' hf' (ready_mono hr (Ne.symm hji)) hy' h10 h7 ?_⟩
      rw [Array.setIfInBounds_comm _ _ hji]
      exact h9
def RD (P : Program) (f : FuncId) (N : Nat) (ops : Array Oper) (D : List Nat) (S1 S2 : World → Prop) (fuel : Nat) (listed : Array Bool) (K : Act → World → Prop) (e : Env) (w : World) (R : Ending → World → Prop) : Prop :=
  ∀ tm, Env.Ok N e tm → anyD P ops (QX P f K R) D S1 S2 fuel listed ⟨tm, []⟩ w
def DK (P : Program) (f : FuncId) (ops : Array Oper) (D : List Nat) (S1 S2 : World → Prop) (fuel : Nat) (listed : Array Bool) (K : Act → World → Prop) (R : Ending → World → Prop) (a : Act) (w : World) : Prop :=
  (S2 w ∧ (Clean D listed → S1 w)) ∧ anyD P ops (QX P f K R) D S1 S2 fuel listed a w
theorem Sim.ordD {id n : Nat} {l : List Oper} (D : List Nat) (S1 S2 : World → Prop) (h : RD P f N l.toArray D S1 S2 n (Array.replicate n false) (SK P f k R) e w.drew R) (hm : P.follows .mixedOrders = true) (hn : l.toArray.size = n := by rfl) : Sim P f N (.code (.region id l.toArray true) :: k) e w R :=
  Sim.mk fun tm hok => SimA.of_wp (wp_region_any hm (any_of_anyD _ _ _ _ (by rw [hn]; exact h tm hok)))
theorem RD.take {i d : Nat} {op : Op} {ty : TypeId} {ps : String} {af : Array Edge} {g : Option (Nat × Bool)} {v : Value}
    (hi : ops[i]? = some { dst := some d, op := op, type := ty, pos := ps, after := af, guard := g }) (hs : Region.noSelect ops = true) (hD : waits ops D i = true) (hf : Region.free .any ops listed i = true) (hr : (Region.ready .any ops listed).contains i = true) (hc : Clean D listed)
    (h1 : S1 w) (h2 : S2 w) (hw : Wants ops e g) (hd : Nat.blt d N = true) (hy : ∀ w, S1 w → Yld P op ty e w v) (h : RD P f N ops D S1 S2 fuel (listed.setIfInBounds i true) K ((d, v) :: e) w R) : RD P f N ops D S1 S2 (fuel + 1) listed K e w R := fun tm hok =>
  anyD_first hi hs hD (fun c a w => QX.put c _ _ a w) fuel listed _ w hf (by simpa using hr) hc (.inl ⟨Wants.wanted (o := { dst := some d, op := op, type := ty, pos := ps, after := af, guard := g }) hw hok, fun w hw => by rw [execOp_eq]; exact (hy w hw).out _ (hok.sees [])⟩) h1 h2 (h _ (hok.put hd v))
theorem RD.each {is : List Nat} (hr : Region.ready .any ops listed = is) (hne : is ≠ []) (h : ∀ i ∈ is, ∃ o, ops[i]? = some o ∧ RL P f N ops [o] (DK P f ops D S1 S2 fuel (listed.setIfInBounds i true) K R) e w R) : RD P f N ops D S1 S2 (fuel + 1) listed K e w R := fun tm hok =>
  ⟨fun h0 => absurd (hr ▸ h0) hne, hr ▸ fun i hi => by
    obtain ⟨o, ho, hl⟩ := h i hi
    have h1 := hl.out tm hok
    unfold wpList at h1
    unfold wpOp
    rw [ho]
    simp only
    split
    · rename_i hw
      rw [if_pos hw] at h1
      refine h1.imp (fun h1 => ?_) (fun h1 => h1)
      exact upon_QX (fun a w h => h.2) h1
    · rename_i hw
      rw [if_neg hw] at h1
      exact h1.2⟩
theorem RD.one (i : Nat) {o : Oper} (h : RL P f N ops [o] (DK P f ops D S1 S2 fuel (listed.setIfInBounds i true) K R) e w R) (hr : Region.ready .any ops listed = [i] := by kernel_rfl) (ho : ops[i]? = some o := by rfl) : RD P f N ops D S1 S2 (fuel + 1) listed K e w R :=
  RD.each hr (by simp) fun j hj => by simp only [List.mem_singleton] at hj; subst hj; exact ⟨o, ho, h⟩
theorem RD.two (i j : Nat) {o o' : Oper} (h : RL P f N ops [o] (DK P f ops D S1 S2 fuel (listed.setIfInBounds i true) K R) e w R) (h' : RL P f N ops [o'] (DK P f ops D S1 S2 fuel (listed.setIfInBounds j true) K R) e w R) (hr : Region.ready .any ops listed = [i, j] := by kernel_rfl) (ho : ops[i]? = some o := by rfl) (ho' : ops[j]? = some o' := by rfl) : RD P f N ops D S1 S2 (fuel + 1) listed K e w R :=
  RD.each hr (by simp) fun m hm => by
    simp only [List.mem_cons, List.not_mem_nil, or_false] at hm
    rcases hm with rfl | rfl
    · exact ⟨o, ho, h⟩
    · exact ⟨o', ho', h'⟩
/-- before D -/
theorem RL.od (h2 : S2 w) (h1 : S1 w) (h : RD P f N ops D S1 S2 fuel listed K e w R) : RL P f N ops [] (DK P f ops D S1 S2 fuel listed K R) e w R := RL.nilK fun tm hok => ⟨⟨h2, fun _ => h1⟩, h tm hok⟩
/-- behind one of D -/
theorem RL.ox (h2 : S2 w) (h : RD P f N ops D S1 S2 fuel listed K e w R) (hc : (D.all fun d => !listed.getD d true) = false := by kernel_rfl) : RL P f N ops [] (DK P f ops D S1 S2 fuel listed K R) e w R := RL.nilK fun tm hok => ⟨⟨h2, fun hcl => by
  have : (D.all fun d => !listed.getD d true) = true := List.all_eq_true.2 fun d hd => by rw [hcl d hd]; rfl
  rw [hc] at this
  cases this⟩, h tm hok⟩
theorem RD.done (h : RL P f N ops [] K e w R) (hr : Region.ready .any ops listed = [] := by kernel_rfl) : RD P f N ops D S1 S2 fuel listed K e w R := fun tm hok => by
  have h1 := h.out tm hok
  cases fuel with
  | zero => exact ⟨hr, h1⟩
  | succ n => exact ⟨fun _ => h1, by rw [hr]; simp⟩
theorem clean_of (h : (D.all fun d => !listed.getD d true) = true) : Clean D listed := fun d hd => by
  have := List.all_eq_true.1 h d hd
  simpa using this
theorem RD.tk (i : Nat) {d : Nat} {op : Op} {ty : TypeId} {ps : String} {af : Array Edge} {g : Option (Nat × Bool)} {v : Value}
    (h : RD P f N ops D S1 S2 fuel (listed.setIfInBounds i true) K ((d, v) :: e) w R) (hi : ops[i]? = some { dst := some d, op := op, type := ty, pos := ps, after := af, guard := g } := by rfl) (hw : Wants ops e g := by first | exact trivial | exact ⟨_, _, rfl, rfl, rfl⟩) (hd : Nat.blt d N = true := by rfl)
    (hy : ∀ w, S1 w → Yld P op ty e w v := by (intro wq hq; (first | exact y_move rfl | exact y_assign rfl | exact y_pickT rfl rfl | exact y_pickF rfl rfl | exact y_nilCheck rfl | exact y_notT rfl | exact y_notF rfl | exact y_not rfl | exact y_len rfl | exact y_lenS rfl | exact y_fieldAddr rfl | exact y_makeFunc rfl | exact y_neqNilF rfl | exact y_neqBF rfl rfl | exact y_neqNilT rfl | exact y_eqlNilF rfl | exact y_eqlNilT rfl | exact y_loadF rfl (by assumption) rfl | exact y_loadF rfl (Box.at (by assumption)) rfl | exact y_loadF rfl (At.up (by assumption) hq) rfl | exact y_loadF rfl (Box.at (Box.up (by assumption) hq)) rfl | exact y_loadF rfl (At.up (w := w) (by assumption) hu) rfl | exact y_loadF rfl (At.up (w := w) (by assumption) (hu.trans hq)) rfl | exact y_load0 rfl (by assumption) rfl | exact y_load0 rfl (Box.at (by assumption)) rfl | exact y_load0 rfl (At.up (by assumption) hq) rfl | exact y_load0 rfl (Box.at (Box.up (by assumption) hq)) rfl | exact y_load0 rfl (At.up (w := w) (by assumption) hu) rfl | exact y_load0 rfl (At.up (w := w) (by assumption) (hu.trans hq)) rfl | exact y_load1 rfl (by assumption) | exact y_loadA rfl (by assumption) (by first | rfl | assumption) | exact y_loadA rfl (Box.at (by assumption)) rfl | exact y_loadA rfl (At.up (by assumption) hq) (by first | rfl | assumption) | exact y_loadA rfl (At.up (w := w) (by assumption) hu) (by first | rfl | assumption) | exact y_loadA rfl (At.up (w := w) (by assumption) (hu.trans hq)) (by first | rfl | assumption) | exact y_extract rfl rfl | exact dT (by (first | assumption | omega)) (y_lss rfl rfl) | exact dF (by (first | assumption | omega)) (y_lss rfl rfl) | exact dT (by (first | assumption | omega)) (y_gtr rfl rfl) | exact dF (by (first | assumption | omega)) (y_gtr rfl rfl) | exact dT (by (first | assumption | omega)) (y_geq rfl rfl) | exact dF (by (first | assumption | omega)) (y_geq rfl rfl) | exact dT (by (first | assumption | omega)) (y_leq rfl rfl) | exact dF (by (first | assumption | omega)) (y_leq rfl rfl) | exact dT (by (first | assumption | omega)) (y_eql rfl rfl) | exact dF (by (first | assumption | omega)) (y_eql rfl rfl) | exact dT (by (first | assumption | omega)) (y_neq rfl rfl) | exact dF (by (first | assumption | omega)) (y_neq rfl rfl) | exact y_lss rfl rfl | exact y_gtr rfl rfl | exact y_geq rfl rfl | exact y_leq rfl rfl | exact y_eql rfl rfl | exact y_neq rfl rfl | exact y_indexAddr rfl rfl (by omega) | exact y_inc rfl rfl (by omega) | exact dT (by assumption) (y_eqlS rfl rfl) | exact dF (by assumption) (y_eqlS rfl rfl) | exact dT (by assumption) (y_neqS rfl rfl) | exact y_neqSF (by assumption) rfl rfl | exact y_eqlS rfl rfl | exact y_neqS rfl rfl | exact y_indexS rfl rfl (by assumption) | exact y_sliceHi rfl rfl (by omega)))) (h1 : S1 w := by assumption) (h2 : S2 w := by assumption) (hs : Region.noSelect ops = true := by kernel_rfl) (hD : waits ops D i = true := by kernel_rfl) (hf : Region.free .any ops listed i = true := by kernel_rfl) (hr : (Region.ready .any ops listed).contains i = true := by kernel_rfl) (hc : (D.all fun d => !listed.getD d true) = true := by kernel_rfl) :
    RD P f N ops D S1 S2 (fuel + 1) listed K e w R := RD.take hi hs hD hf hr (clean_of hc) h1 h2 hw hd hy h
theorem RD.any {i d : Nat} {op : Op} {ty : TypeId} {ps : String} {af : Array Edge} {g : Option (Nat × Bool)} {v : Value}
    (hi : ops[i]? = some { dst := some d, op := op, type := ty, pos := ps, after := af, guard := g }) (hs : Region.noSelect ops = true) (hD : i ∉ D) (hf : Region.free .any ops listed i = true) (hr : (Region.ready .any ops listed).contains i = true)
    (h1 : Clean D listed → S1 w) (h2 : S2 w) (hw : Wants ops e g) (hd : Nat.blt d N = true) (hy : ∀ w, S2 w → Yld P op ty e w v) (h : RD P f N ops D S1 S2 fuel (listed.setIfInBounds i true) K ((d, v) :: e) w R) : RD P f N ops D S1 S2 (fuel + 1) listed K e w R := fun tm hok =>
  anyD_any hi hs hD (fun c a w => QX.put c _ _ a w) fuel listed _ w hf (by simpa using hr) (.inl ⟨Wants.wanted (o := { dst := some d, op := op, type := ty, pos := ps, after := af, guard := g }) hw hok, fun w hw => by rw [execOp_eq]; exact (hy w hw).out _ (hok.sees [])⟩) h1 h2 (h _ (hok.put hd v))
/-- ahead of the stores -/
theorem RD.tm (i : Nat) {d : Nat} {op : Op} {ty : TypeId} {ps : String} {af : Array Edge} {g : Option (Nat × Bool)} {v : Value}
    (h : RD P f N ops D S1 S2 fuel (listed.setIfInBounds i true) K ((d, v) :: e) w R) (hi : ops[i]? = some { dst := some d, op := op, type := ty, pos := ps, after := af, guard := g } := by rfl) (hw : Wants ops e g := by first | exact trivial | exact ⟨_, _, rfl, rfl, rfl⟩) (hd : Nat.blt d N = true := by rfl)
    (hy : ∀ w, S2 w → Yld P op ty e w v := by (intro wq hq; (first | exact y_move rfl | exact y_assign rfl | exact y_pickT rfl rfl | exact y_pickF rfl rfl | exact y_nilCheck rfl | exact y_notT rfl | exact y_notF rfl | exact y_not rfl | exact y_len rfl | exact y_lenS rfl | exact y_fieldAddr rfl | exact y_makeFunc rfl | exact y_neqNilF rfl | exact y_neqBF rfl rfl | exact y_neqNilT rfl | exact y_eqlNilF rfl | exact y_eqlNilT rfl | exact y_loadF rfl (by assumption) rfl | exact y_loadF rfl (Box.at (by assumption)) rfl | exact y_loadF rfl (At.up (by assumption) hq) rfl | exact y_loadF rfl (Box.at (Box.up (by assumption) hq)) rfl | exact y_loadF rfl (At.up (w := w) (by assumption) hu) rfl | exact y_loadF rfl (At.up (w := w) (by assumption) (hu.trans hq)) rfl | exact y_load0 rfl (by assumption) rfl | exact y_load0 rfl (Box.at (by assumption)) rfl | exact y_load0 rfl (At.up (by assumption) hq) rfl | exact y_load0 rfl (Box.at (Box.up (by assumption) hq)) rfl | exact y_load0 rfl (At.up (w := w) (by assumption) hu) rfl | exact y_load0 rfl (At.up (w := w) (by assumption) (hu.trans hq)) rfl | exact y_load1 rfl (by assumption) | exact y_loadA rfl (by assumption) (by first | rfl | assumption) | exact y_loadA rfl (Box.at (by assumption)) rfl | exact y_loadA rfl (At.up (by assumption) hq) (by first | rfl | assumption) | exact y_loadA rfl (At.up (w := w) (by assumption) hu) (by first | rfl | assumption) | exact y_loadA rfl (At.up (w := w) (by assumption) (hu.trans hq)) (by first | rfl | assumption) | exact y_extract rfl rfl | exact dT (by (first | assumption | omega)) (y_lss rfl rfl) | exact dF (by (first | assumption | omega)) (y_lss rfl rfl) | exact dT (by (first | assumption | omega)) (y_gtr rfl rfl) | exact dF (by (first | assumption | omega)) (y_gtr rfl rfl) | exact dT (by (first | assumption | omega)) (y_geq rfl rfl) | exact dF (by (first | assumption | omega)) (y_geq rfl rfl) | exact dT (by (first | assumption | omega)) (y_leq rfl rfl) | exact dF (by (first | assumption | omega)) (y_leq rfl rfl) | exact dT (by (first | assumption | omega)) (y_eql rfl rfl) | exact dF (by (first | assumption | omega)) (y_eql rfl rfl) | exact dT (by (first | assumption | omega)) (y_neq rfl rfl) | exact dF (by (first | assumption | omega)) (y_neq rfl rfl) | exact y_lss rfl rfl | exact y_gtr rfl rfl | exact y_geq rfl rfl | exact y_leq rfl rfl | exact y_eql rfl rfl | exact y_neq rfl rfl | exact y_indexAddr rfl rfl (by omega) | exact y_inc rfl rfl (by omega) | exact dT (by assumption) (y_eqlS rfl rfl) | exact dF (by assumption) (y_eqlS rfl rfl) | exact dT (by assumption) (y_neqS rfl rfl) | exact y_neqSF (by assumption) rfl rfl | exact y_eqlS rfl rfl | exact y_neqS rfl rfl | exact y_indexS rfl rfl (by assumption) | exact y_sliceHi rfl rfl (by omega)))) (h1 : S1 w := by assumption) (h2 : S2 w := by assumption) (hs : Region.noSelect ops = true := by kernel_rfl) (hD : i ∉ D := by decide) (hf : Region.free .any ops listed i = true := by kernel_rfl) (hr : (Region.ready .any ops listed).contains i = true := by kernel_rfl) :
    RD P f N ops D S1 S2 (fuel + 1) listed K e w R := RD.any hi hs hD hf hr (fun _ => h1) h2 hw hd hy h
end
attribute [irreducible] RD
/-- in a region that stores, once the stores have begun: an operation that needs nothing of the world, alone ready -/
theorem RD.on {P : Program} {f : FuncId} {N : Nat} {e : Env} {w : World} {R : Ending → World → Prop} {ops : Array Oper} {D : List Nat} {S1 S2 : World → Prop} {fuel : Nat} {listed : Array Bool} {K : Act → World → Prop} (i : Nat) {d : Nat} {op : Op} {ty : TypeId} {ps : String} {af : Array Edge} {g : Option (Nat × Bool)} {v : Value}
    (h2 : S2 w) (h : RD P f N ops D S1 S2 fuel (listed.setIfInBounds i true) K ((d, v) :: e) w R) (hr : Region.ready .any ops listed = [i] := by kernel_rfl) (hi : ops[i]? = some { dst := some d, op := op, type := ty, pos := ps, after := af, guard := g } := by rfl) (hw : Wants ops e g := by first | exact trivial | exact ⟨_, _, rfl, rfl, rfl⟩) (hd : Nat.blt d N = true := by rfl)
    (hy : Yld P op ty e w v := by (first | exact y_move rfl | exact y_assign rfl | exact y_pickT rfl rfl | exact y_pickF rfl rfl | exact y_nilCheck rfl | exact y_notT rfl | exact y_notF rfl | exact y_not rfl | exact y_len rfl | exact y_lenS rfl | exact y_fieldAddr rfl | exact y_makeFunc rfl | exact y_neqNilF rfl | exact y_neqBF rfl rfl | exact y_neqNilT rfl | exact y_eqlNilF rfl | exact y_eqlNilT rfl | exact y_loadF rfl (by assumption) rfl | exact y_loadF rfl (Box.at (by assumption)) rfl | exact y_loadF rfl (At.up (by assumption) hq) rfl | exact y_loadF rfl (Box.at (Box.up (by assumption) hq)) rfl | exact y_loadF rfl (At.up (w := w) (by assumption) hu) rfl | exact y_loadF rfl (At.up (w := w) (by assumption) (hu.trans hq)) rfl | exact y_load0 rfl (by assumption) rfl | exact y_load0 rfl (Box.at (by assumption)) rfl | exact y_load0 rfl (At.up (by assumption) hq) rfl | exact y_load0 rfl (Box.at (Box.up (by assumption) hq)) rfl | exact y_load0 rfl (At.up (w := w) (by assumption) hu) rfl | exact y_load0 rfl (At.up (w := w) (by assumption) (hu.trans hq)) rfl | exact y_load1 rfl (by assumption) | exact y_loadA rfl (by assumption) (by first | rfl | assumption) | exact y_loadA rfl (Box.at (by assumption)) rfl | exact y_loadA rfl (At.up (by assumption) hq) (by first | rfl | assumption) | exact y_loadA rfl (At.up (w := w) (by assumption) hu) (by first | rfl | assumption) | exact y_loadA rfl (At.up (w := w) (by assumption) (hu.trans hq)) (by first | rfl | assumption) | exact y_extract rfl rfl | exact dT (by (first | assumption | omega)) (y_lss rfl rfl) | exact dF (by (first | assumption | omega)) (y_lss rfl rfl) | exact dT (by (first | assumption | omega)) (y_gtr rfl rfl) | exact dF (by (first | assumption | omega)) (y_gtr rfl rfl) | exact dT (by (first | assumption | omega)) (y_geq rfl rfl) | exact dF (by (first | assumption | omega)) (y_geq rfl rfl) | exact dT (by (first | assumption | omega)) (y_leq rfl rfl) | exact dF (by (first | assumption | omega)) (y_leq rfl rfl) | exact dT (by (first | assumption | omega)) (y_eql rfl rfl) | exact dF (by (first | assumption | omega)) (y_eql rfl rfl) | exact dT (by (first | assumption | omega)) (y_neq rfl rfl) | exact dF (by (first | assumption | omega)) (y_neq rfl rfl) | exact y_lss rfl rfl | exact y_gtr rfl rfl | exact y_geq rfl rfl | exact y_leq rfl rfl | exact y_eql rfl rfl | exact y_neq rfl rfl | exact y_indexAddr rfl rfl (by omega) | exact y_inc rfl rfl (by omega) | exact dT (by assumption) (y_eqlS rfl rfl) | exact dF (by assumption) (y_eqlS rfl rfl) | exact dT (by assumption) (y_neqS rfl rfl) | exact y_neqSF (by assumption) rfl rfl | exact y_eqlS rfl rfl | exact y_neqS rfl rfl | exact y_indexS rfl rfl (by assumption) | exact y_sliceHi rfl rfl (by omega))) (hc : (D.all fun d => !(listed.setIfInBounds i true).getD d true) = false := by kernel_rfl) : RD P f N ops D S1 S2 (fuel + 1) listed K e w R :=
  RD.one i (RL.val hw hd hy (RL.ox h2 h hc)) hr hi
end Go.Proofs.Ytgckpmcdlciibaa
