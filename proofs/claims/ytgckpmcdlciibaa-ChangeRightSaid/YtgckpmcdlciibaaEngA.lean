/- More rules: calls, memory and rows with the worlds led along; an append's finer bound. -/
import Derived.Test.YtgckpmcdlciibaaEng7
import Derived.Test.YtgckpmcdlciibaaEngO
import Derived.Deep.DeepAppendWide
namespace Go.Proofs.Ytgckpmcdlciibaa
open Go.RowKit
theorem append_wide {P : Program} {α : Type} {L : Lay α} [OneC L] {t el : TypeId} (ty : TypeId) {by_ : Nat} {z : Value} [h1 : Sli P t el] [h2 : Siz P el L.k] [h3 : Byt P el by_] [h4 : Zer P el z] (hz : z.cells.size = L.k) (hb0 : 0 < by_) {w : World} {B : Nat} {S : Nat → Prop} {v xv : Value} {xs ys : List α}
    (ho : Own L el B S w v xs) (hy : SliceOf L (fun b => S b ∧ some b ≠ v.ownBlock) w xv ys) (hsz : ((xs.length + ys.length) + (xs.length + ys.length) / 4 + 192) * by_ ≤ 281474976710656) (hB : B ≤ w.heap.size) :
    ∃ v' w', (Builtin.append_ #[t, t] ty #[v, xv]).run P w = .ok v' w' ∧ Own L el B S w' v' (xs ++ ys) ∧ w.grownBy w' v.ownBlock ∧ (∀ g, v'.ownBlock = some g → v.ownBlock = some g ∨ g = w.heap.size) := by
  by_cases hp : 0 < ys.length
  · obtain ⟨b, o, c, css2, rfl, hl2, hat, hk2, hi2⟩ := hy.flat hp
    obtain ⟨css, hown, hl, hi⟩ := ho
    obtain ⟨i, hinf, hsize⟩ := h2.h
    have hby : i.bytes = by_ := by
      obtain ⟨i', h, he⟩ := h3.h
      rw [hinf] at h
      cases h
      exact he
    have hzz : i.zero = some z := by
      obtain ⟨i', h, he⟩ := h4.h
      rw [hinf] at h
      cases h
      exact he
    have hpos : 0 < L.k := L.pos
    have hk1 : ∀ c ∈ css, c.length = L.k := fun cs hcs => by
      obtain ⟨m, hm', rfl⟩ := List.getElem_of_mem hcs
      exact L.len (hi m _ xs[m] (List.getElem?_eq_getElem hm') (List.getElem?_eq_getElem (by omega)))
    have hnl : css2.flatten.length = ys.length * L.k := by rw [flat_len hk2, hl2]
    have hnews : ∀ j u, css2.flatten[j]? = some u → w.cell? ((⟨b, o, none⟩ : Addr).add j) = some u := fun j u hj => by rw [addr_add]; exact hat j u hj
    have hone : ∀ u ∈ css2.flatten, u.oneCell' = true := fun u hu => by
      obtain ⟨cs, hcs, hu⟩ := List.mem_flatten.1 hu
      obtain ⟨m, hm', rfl⟩ := List.getElem_of_mem hcs
      exact OneC.h (hi2 m _ ys[m] (List.getElem?_eq_getElem hm') (List.getElem?_eq_getElem (by omega))) u hu
    have hnm : xs.length + ys.length ≤ 281474976710656 := by
      have h1 : xs.length + ys.length + (xs.length + ys.length) / 4 + 192 ≤ 281474976710656 := Nat.le_trans (Nat.le_mul_of_pos_right _ hb0) hsz
      omega
    have h63 : xs.length + ys.length ≤ maxLen := by simp only [maxLen]; omega
    obtain ⟨v', w', hr, hown2, hg, _⟩ := run_append_own_wide (P := P) w B t ty el i z L.k by_ h1.h hinf hzz hsize hby hz hpos v xs.length css.flatten hown ⟨b, o, none⟩ ys.length c css2.flatten hnl hnews hone h63 hsz hB
    have hwhere : v'.ownBlock = v.ownBlock ∨ v'.ownBlock = some w.heap.size := by
      rcases hown.2 with ⟨rfl, h0⟩ | ⟨g, cap, cur, rfl, hbg, hgg, hnc, hcm, hcs, htake⟩
      · have hx := run_append_nil (P := P) w t ty el i z h1.h hinf hzz ⟨b, o, none⟩ ys.length c css2.flatten (by rw [hsize]; exact hnl) hnews hp (by omega) (by rw [hby]; rw [h0] at hsz; simp only [Nat.zero_add] at hsz; exact Nat.le_trans (Nat.mul_le_mul_right _ (by omega)) hsz)
        rw [hx] at hr
        simp only [Result.ok.injEq] at hr
        exact .inr (by rw [← hr.1]; rfl)
      · by_cases hroom : xs.length + ys.length ≤ cap
        · have hx := run_append_room (P := P) w t ty el i h1.h hinf g xs.length cap cur hgg ⟨b, o, none⟩ ys.length c css2.flatten (by rw [hsize]; exact hnl) hnews hone hroom (by rw [hsize, hnl, hcs, ← Nat.add_mul]; exact Nat.mul_le_mul_right _ hroom)
          rw [hx] at hr
          simp only [Result.ok.injEq] at hr
          exact .inl (by rw [← hr.1]; rfl)
        · have hx := run_append_grow (P := P) w t ty el i z h1.h hinf hzz ⟨g, 0, none⟩ xs.length cap css.flatten (by rw [hsize]; exact hown.1) (hown.cells (g := g) rfl) ⟨b, o, none⟩ ys.length c css2.flatten (by rw [hsize]; exact hnl) hnews (by omega) (by omega) (growslice_fits_wide (by omega) (by rw [hby]; exact hsz))
          rw [hx] at hr
          simp only [Result.ok.injEq] at hr
          exact .inr (by rw [← hr.1]; rfl)
    have hmove : ∀ {cs : List Value} {x : α}, L.is (fun b => S b ∧ some b ≠ v.ownBlock) w cs x → L.is (fun b => S b ∧ some b ≠ v'.ownBlock) w' cs x := fun h =>
      L.mono (L.keep (L.old h) fun b hb _ => hg.block b hb.2 hb.1.2) fun b hb => ⟨hb.1.1, by
        rcases hwhere with h | h
        · rw [h]; exact hb.1.2
        · rw [h]; intro hh; simp only [Option.some.injEq] at hh; have := hb.2; omega⟩
    refine ⟨v', w', hr, ⟨css ++ css2, ?_, by simp [hl, hl2], fun i cs x hcs hx => ?_⟩, hg, fun g hh => ?_⟩
    · rw [List.length_append, List.flatten_append]
      exact hown2
    · by_cases hlt : i < css.length
      · rw [List.getElem?_append_left hlt] at hcs
        rw [List.getElem?_append_left (by omega)] at hx
        exact hmove (hi i cs x hcs hx)
      · rw [List.getElem?_append_right (by omega)] at hcs
        rw [List.getElem?_append_right (by omega), ← hl] at hx
        exact hmove (hi2 _ cs x hcs hx)
    · rcases hwhere with h | h
      · rw [h] at hh; exact .inl hh
      · rw [h] at hh; simp only [Option.some.injEq] at hh; exact .inr hh.symm
  · have : ys = [] := List.eq_nil_of_length_eq_zero (by omega)
    subst this
    obtain ⟨a2, c2, rfl, _⟩ := hy
    have hrun : (Builtin.append_ #[t, t] ty #[v, .slice a2 ([] : List α).length c2]).run P w = .ok v w := by
      obtain ⟨css, hown, _⟩ := ho
      rcases hown.2 with ⟨rfl, h0⟩ | ⟨g, cap, cur, rfl, hbg, hgg, hnc, hcm, hcs, htake⟩
      · exact run_append_none (el := el) (k := L.k) none 0 0 c2 (Nat.le_refl _) a2
      · exact run_append_none (el := el) (k := L.k) _ xs.length cap c2 hnc a2
    exact ⟨v, w, hrun, by simpa using ho, ⟨rfl, rfl, rfl, Nat.le_refl _, fun _ _ _ => rfl⟩, fun g hh => .inl hh⟩


section
variable {P : Program} {f : FuncId} {N : Nat} {k : List Item} {K : Act → World → Prop} {e : Env} {w w0 : World} {R : Ending → World → Prop}
variable {ops : Array Oper} {rest : List Oper} {d : Nat} {op : Op} {ty : TypeId} {ps : String} {af : Array Edge} {g : Option (Nat × Bool)} {v : Value}
/-- append to a row of one's own; the worlds led along -/
theorem RL.app {α : Type} {L : Lay α} [OneC L] {t el : TypeId} {by_ : Nat} {z : Value} [Sli P t el] [Siz P el L.k] [Byt P el by_] [Zer P el z] {x y : Operand} {B : Nat} {S : Nat → Prop} {xv : Value} {xs ys : List α} (hu : Up w0 w)
    (ho : Own L el B S w v xs) (hs : SliceOf L (fun b => S b ∧ some b ≠ v.ownBlock) w xv ys) (hsz : ((xs.length + ys.length) + (xs.length + ys.length) / 4 + 192) * by_ ≤ 281474976710656) (hB : w0.heap.size ≤ B) (hBw : B ≤ w.heap.size)
    (h : ∀ v' w1, Up w0 w1 → Own L el B S w1 v' (xs ++ ys) → w.grownBy w1 v.ownBlock → (∀ g, v'.ownBlock = some g → v.ownBlock = some g ∨ g = w.heap.size) → RL P f N ops rest K ((d, v') :: e) w1 R)
    (hw : Wants ops e g := by first | exact trivial | exact ⟨_, _, rfl, rfl, rfl⟩) (hd : Nat.blt d N = true := by rfl) (hx : e.ev x = some v := by rfl) (hy : e.ev y = some xv := by rfl) (hz : z.cells.size = L.k := by rfl) (hb0 : 0 < by_ := by decide) :
    RL P f N ops ({ dst := some d, op := .call { callee := .builtin .append, args := #[x, y], argTypes := #[t, t] }, type := ty, pos := ps, after := af, guard := g } :: rest) K e w R := by
  obtain ⟨v', w1, hr, h1, h2, h3⟩ := append_wide (P := P) (t := t) (el := el) ty hz hb0 ho hs hsz hBw
  exact RL.eff hw hd (e_append hx hy hr) (h v' w1 (Grown.up h2 hu fun k hk => Nat.le_trans hB (ho.lt k hk).1) h1 h2 h3)
/-- a call that reads only, or makes memory -/
theorem RL.cu {c : FuncId} {args : Array Value} (hu : Up w0 w) (hc : Calls P c args w fun en w' => en = .returned v ∧ Up w w') (h : ∀ w1, Up w0 w1 → Up w w1 → RL P f N ops rest K ((d, v) :: e) w1 R)
    (hw : Wants ops e g := by first | exact trivial | exact ⟨_, _, rfl, rfl, rfl⟩) (hd : Nat.blt d N = true := by rfl) (hy : Ent P op ty e w c args := by first | exact c_static rfl | exact c_closure rfl rfl) :
    RL P f N ops ({ dst := some d, op := op, type := ty, pos := ps, after := af, guard := g } :: rest) K e w R :=
  RL.call hw hd hy hc fun _ w' ⟨he, hu'⟩ => ⟨v, he, h w' (hu.trans hu') hu'⟩
/-- a call that leaves the world as it is -/
theorem RL.cs {c : FuncId} {args : Array Value} (hc : Calls P c args w fun en w' => en = .returned v ∧ w' = w) (h : RL P f N ops rest K ((d, v) :: e) w R)
    (hw : Wants ops e g := by first | exact trivial | exact ⟨_, _, rfl, rfl, rfl⟩) (hd : Nat.blt d N = true := by rfl) (hy : Ent P op ty e w c args := by first | exact c_static rfl | exact c_closure rfl rfl) :
    RL P f N ops ({ dst := some d, op := op, type := ty, pos := ps, after := af, guard := g } :: rest) K e w R :=
  RL.call hw hd hy hc fun _ _ ⟨he, hw'⟩ => ⟨v, he, hw' ▸ h⟩
/-- a call of which more is known -/
theorem RL.cx {c : FuncId} {args : Array Value} {R' : Ending → World → Prop} (hc : Calls P c args w R') (h : ∀ en w', R' en w' → ∃ v, en = .returned v ∧ RL P f N ops rest K ((d, v) :: e) w' R)
    (hw : Wants ops e g := by first | exact trivial | exact ⟨_, _, rfl, rfl, rfl⟩) (hd : Nat.blt d N = true := by rfl) (hy : Ent P op ty e w c args := by first | exact c_static rfl | exact c_closure rfl rfl) :
    RL P f N ops ({ dst := some d, op := op, type := ty, pos := ps, after := af, guard := g } :: rest) K e w R := RL.call hw hd hy hc h
theorem RL.al {t : TypeId} {z : Value} [Zer P t z] (hu : Up w0 w) (h : ∀ b w1, b = w.heap.size → w0.heap.size ≤ b → Up w0 w1 → Up w w1 → Box w1 b t z.cells.toList → RL P f N ops rest K ((d, .pointer (some ⟨b, 0, none⟩)) :: e) w1 R)
    (hw : Wants ops e g := by first | exact trivial | exact ⟨_, _, rfl, rfl, rfl⟩) (hd : Nat.blt d N = true := by rfl) :
    RL P f N ops ({ dst := some d, op := .alloc t, type := ty, pos := ps, after := af, guard := g } :: rest) K e w R :=
  RL.alloc hw hd fun w1 h1 h2 _ => h _ w1 rfl hu.size (hu.trans h1) h1 h2
theorem RL.bx {t : TypeId} {x : Operand} (hu : Up w0 w) (h : ∀ b w1, b = w.heap.size → w0.heap.size ≤ b → Up w0 w1 → Up w w1 → Box w1 b t v.cells.toList → RL P f N ops rest K ((d, .pointer (some ⟨b, 0, none⟩)) :: e) w1 R)
    (hw : Wants ops e g := by first | exact trivial | exact ⟨_, _, rfl, rfl, rfl⟩) (hd : Nat.blt d N = true := by rfl) (hx : e.ev x = some v := by rfl) :
    RL P f N ops ({ dst := some d, op := .box t x, type := ty, pos := ps, after := af, guard := g } :: rest) K e w R :=
  RL.box hw hd hx fun w1 h1 h2 _ => h _ w1 rfl hu.size (hu.trans h1) h1 h2
theorem RL.st {t u : TypeId} {x y : Operand} {b o : Nat} {cs cs' news : List Value} {n : Nat} [Siz P t n] (hu : Up w0 w) (hb : Box w b u cs) (hB : w0.heap.size ≤ b) (h : ∀ w1, Up w0 w1 → But b w w1 → Box w1 b u cs' → RL P f N ops rest K e w1 R)
    (hw : Wants ops e g := by first | exact trivial | exact ⟨_, _, rfl, rfl, rfl⟩) (hx : e.ev x = some (.pointer (some ⟨b, o, none⟩)) := by rfl) (hy : e.ev y = some v := by rfl) (hv : v.cells = news.toArray := by rfl) (hk : news.length = n := by rfl)
    (h1 : ∀ c ∈ news, c.oneCell' = true := by (simp [Value.oneCell'])) (hfit : o + news.length ≤ cs.length := by exact Nat.le_of_ble_eq_true rfl) (hcs : cs.take o ++ news ++ cs.drop (o + news.length) = cs' := by rfl) :
    RL P f N ops ({ dst := none, op := .store t x y, type := ty, pos := ps, after := af, guard := g } :: rest) K e w R :=
  RL.store hw hx hy hb hv hk h1 hfit hcs fun w1 h1 h2 => h w1 (Up.but hu h1 hB) h1 h2
theorem RL.bu {n : Nat} {t el : TypeId} {parts : Array (Nat × Operand)} {qs : List (Nat × Value)} (cs : List Value) (hu : Up w0 w) (h : ∀ b w1, b = w.heap.size → w0.heap.size ≤ b → Up w0 w1 → Up w w1 → Box w1 b el cs → RL P f N ops rest K ((d, .slice (some ⟨b, 0, none⟩) n n) :: e) w1 R)
    (hb : ∀ w, (Instr.buildSlice t n qs.toArray).run P w = .ok (.slice (some ⟨w.heap.size, 0, none⟩) n n) (w.alloc (.cells cs.toArray el)) := by (intro w; kernel_rfl))
    (hw : Wants ops e g := by first | exact trivial | exact ⟨_, _, rfl, rfl, rfl⟩) (hd : Nat.blt d N = true := by rfl) (hp : e.parts parts.toList = some qs := by rfl) :
    RL P f N ops ({ dst := some d, op := .buildSlice t n parts, type := ty, pos := ps, after := af, guard := g } :: rest) K e w R :=
  RL.build cs hw hd hp hb fun w1 h1 h2 _ => h _ w1 rfl hu.size (hu.trans h1) h1 h2
/-- a region that draws its order: one operation that reads only is taken first -/
theorem RO.tk (i : Nat) {d : Nat} {op : Op} {ty : TypeId} {ps : String} {af : Array Edge} {g : Option (Nat × Bool)} {v : Value} {S : World → Prop} {fuel : Nat} {listed : Array Bool}
    (h : RO P f N ops S fuel (listed.setIfInBounds i true) K ((d, v) :: e) w R) (hi : ops[i]? = some { dst := some d, op := op, type := ty, pos := ps, after := af, guard := g } := by rfl) (hw : Wants ops e g := by first | exact trivial | exact ⟨_, _, rfl, rfl, rfl⟩) (hd : Nat.blt d N = true := by rfl)
    (hy : ∀ w, S w → Yld P op ty e w v := by (intro wq hq; (first | exact y_move rfl | exact y_assign rfl | exact y_pickT rfl rfl | exact y_pickF rfl rfl | exact y_nilCheck rfl | exact y_notT rfl | exact y_notF rfl | exact y_not rfl | exact y_len rfl | exact y_lenS rfl | exact y_fieldAddr rfl | exact y_makeFunc rfl | exact y_neqNilF rfl | exact y_neqBF rfl rfl | exact y_neqNilT rfl | exact y_eqlNilF rfl | exact y_eqlNilT rfl | exact y_loadF rfl (by assumption) rfl | exact y_loadF rfl (Box.at (by assumption)) rfl | exact y_loadF rfl (At.up (by assumption) hq) rfl | exact y_loadF rfl (Box.at (Box.up (by assumption) hq)) rfl | exact y_loadF rfl (At.up (w := w) (by assumption) hu) rfl | exact y_loadF rfl (At.up (w := w) (by assumption) (hu.trans hq)) rfl | exact y_load0 rfl (by assumption) rfl | exact y_load0 rfl (Box.at (by assumption)) rfl | exact y_load0 rfl (At.up (by assumption) hq) rfl | exact y_load0 rfl (Box.at (Box.up (by assumption) hq)) rfl | exact y_load0 rfl (At.up (w := w) (by assumption) hu) rfl | exact y_load0 rfl (At.up (w := w) (by assumption) (hu.trans hq)) rfl | exact y_load1 rfl (by assumption) | exact y_loadA rfl (by assumption) (by first | rfl | assumption) | exact y_loadA rfl (Box.at (by assumption)) rfl | exact y_loadA rfl (At.up (by assumption) hq) (by first | rfl | assumption) | exact y_loadA rfl (At.up (w := w) (by assumption) hu) (by first | rfl | assumption) | exact y_loadA rfl (At.up (w := w) (by assumption) (hu.trans hq)) (by first | rfl | assumption) | exact y_extract rfl rfl | exact dT (by (first | assumption | omega)) (y_lss rfl rfl) | exact dF (by (first | assumption | omega)) (y_lss rfl rfl) | exact dT (by (first | assumption | omega)) (y_gtr rfl rfl) | exact dF (by (first | assumption | omega)) (y_gtr rfl rfl) | exact dT (by (first | assumption | omega)) (y_geq rfl rfl) | exact dF (by (first | assumption | omega)) (y_geq rfl rfl) | exact dT (by (first | assumption | omega)) (y_leq rfl rfl) | exact dF (by (first | assumption | omega)) (y_leq rfl rfl) | exact dT (by (first | assumption | omega)) (y_eql rfl rfl) | exact dF (by (first | assumption | omega)) (y_eql rfl rfl) | exact dT (by (first | assumption | omega)) (y_neq rfl rfl) | exact dF (by (first | assumption | omega)) (y_neq rfl rfl) | exact y_lss rfl rfl | exact y_gtr rfl rfl | exact y_geq rfl rfl | exact y_leq rfl rfl | exact y_eql rfl rfl | exact y_neq rfl rfl | exact y_indexAddr rfl rfl (by omega) | exact y_inc rfl rfl (by omega) | exact dT (by assumption) (y_eqlS rfl rfl) | exact dF (by assumption) (y_eqlS rfl rfl) | exact dT (by assumption) (y_neqS rfl rfl) | exact y_neqSF (by assumption) rfl rfl | exact y_eqlS rfl rfl | exact y_neqS rfl rfl | exact y_indexS rfl rfl (by assumption) | exact y_sliceHi rfl rfl (by omega)))) (hS : S w := by first | assumption | exact Up.refl _ | exact Up.drew _) (hs : Region.noSelect ops = true := by kernel_rfl) (hf : Region.free .any ops listed i = true := by kernel_rfl) (hr : (Region.ready .any ops listed).contains i = true := by kernel_rfl) :
    RO P f N ops S (fuel + 1) listed K e w R := RO.take hi hs hf hr hS hw hd hy h
theorem RO.sk (i : Nat) {d : Nat} {op : Op} {ty : TypeId} {ps : String} {af : Array Edge} {g : Option (Nat × Bool)} {S : World → Prop} {fuel : Nat} {listed : Array Bool}
    (h : RO P f N ops S fuel (listed.setIfInBounds i true) K ((d, undef) :: e) w R) (hi : ops[i]? = some { dst := some d, op := op, type := ty, pos := ps, after := af, guard := g } := by rfl) (hw : Spurns ops e g := by first | exact ⟨_, _, rfl, rfl, .inl rfl⟩ | exact ⟨_, _, rfl, rfl, .inr rfl⟩) (hd : Nat.blt d N = true := by rfl)
    (hS : S w := by first | assumption | exact Up.refl _ | exact Up.drew _) (hs : Region.noSelect ops = true := by kernel_rfl) (hf : Region.free .any ops listed i = true := by kernel_rfl) (hr : (Region.ready .any ops listed).contains i = true := by kernel_rfl) :
    RO P f N ops S (fuel + 1) listed K e w R := RO.pass hi hs hf hr hS hw hd h
theorem Sim.ord {id n : Nat} {l : List Oper} (S : World → Prop) (h : RO P f N l.toArray S n (Array.replicate n false) (SK P f k R) e w.drew R) (hm : P.follows .mixedOrders = true := by exact mixed) (hn : l.toArray.size = n := by rfl) : Sim P f N (.code (.region id l.toArray true) :: k) e w R :=
  Sim.ordered S hm (by rw [hn]; exact h)
theorem RQ.cu {C : World → Prop} {c : FuncId} {args : Array Value} {v : Value} (hc : ∀ w, C w → Calls P c args w fun en w' => en = .returned v ∧ C w') (h : RQ P f N ops C rest k ((d, v) :: e) R)
    (hw : Wants ops e g := by first | exact trivial | exact ⟨_, _, rfl, rfl, rfl⟩) (hd : Nat.blt d N = true := by rfl) (hy : ∀ w, C w → Ent P op ty e w c args := by (intro wq hq; first | exact c_static rfl | exact c_closure rfl rfl)) :
    RQ P f N ops C ({ dst := some d, op := op, type := ty, pos := ps, after := af, guard := g } :: rest) k e R := RQ.call hw hd hy hc h
theorem Sim.q {id : Nat} {l : List Oper} (h : RQ P f N l.toArray (Up w) l k e R) (hm : P.follows .mixedOrders = true := by exact mixed) (hB : Region.lexB .any l.toArray = true := by kernel_rfl) : Sim P f N (.code (.region id l.toArray true) :: k) e w R := Sim.quiet (Up w) hm hB (Up.drew _) h
theorem Box.but {b b' : Nat} {t : TypeId} {cs : List Value} {w1 : World} (h : Box w b' t cs) (hb : But b w w1) (hne : b' ≠ b) : Box w1 b' t cs := h.keep hb.keep hne
theorem Own.but {α : Type} {L : Lay α} {el : TypeId} {B : Nat} {S : Nat → Prop} {xs : List α} {b : Nat} {w1 : World} (h : Own L el B S w v xs) (hb : But b w w1) (hS : ∀ i, S i → i ≠ b) (hv : ∀ g, v.ownBlock = some g → g ≠ b) : Own L el B S w1 v xs := h.keep hb.keep hS hv
end
end Go.Proofs.Ytgckpmcdlciibaa
