/- Maps: an association list in a block of its own. -/
import Derived.Test.YtgckpmcdlciibabZB
import Derived.MapKept
namespace Go.Proofs.Ytgckpmcdlciibab
open Go.RowKit Go.MapKept
theorem list_modify_set {α : Type} : ∀ {l : List α} {i : Nat} {x : α}, l[i]? = some x → ∀ f : α → α, l.modify i f = l.set i (f x)
  | [], _, _, h, _ => by simp at h
  | y :: l, 0, x, h, f => by simp at h; subst h; rfl
  | y :: l, i + 1, x, h, f => by simp only [List.modify_succ_cons, List.set_cons_succ, list_modify_set (l := l) (by simpa using h) f]
class KeyOf (κ : Type) (d : outParam TypeDesc) [DecidableEq κ] where
  v : κ → Value
  inj : ∀ {a b : κ}, v a = v b → a = b
  key : ∀ a : κ, IsKey d (v a)
instance : KeyOf Str .string := ⟨Value.string, fun h => by cases h; rfl, fun _ => trivial⟩
section
variable {κ : Type} [DecidableEq κ]
def mget (es : List (κ × Value)) (k : κ) : Option Value := (es.find? fun x => decide (x.1 = k)).map (·.2)
def mput : List (κ × Value) → κ → Value → List (κ × Value)
  | [], k, v => [(k, v)]
  | x :: r, k, v => if x.1 = k then (k, v) :: r else x :: mput r k v
theorem mget_mem {es : List (κ × Value)} {k : κ} {v : Value} (h : (es.map (·.1)).Nodup) (hm : (k, v) ∈ es) : mget es k = some v := by
  induction es with
  | nil => simp at hm
  | cons x r ih =>
    rw [List.map_cons, List.nodup_cons] at h
    unfold mget
    rw [List.find?_cons]
    rcases List.mem_cons.1 hm with rfl | hm
    · simp
    · have hne : ¬ x.1 = k := fun e => h.1 (by rw [e]; exact List.mem_map.2 ⟨(k, v), hm, rfl⟩)
      simp only [hne, decide_false]
      exact ih h.2 hm
theorem mget_none {es : List (κ × Value)} {k : κ} (h : ∀ x ∈ es, x.1 ≠ k) : mget es k = none := by
  unfold mget
  rw [List.find?_eq_none.2 fun x hx => by simpa using h x hx]
  rfl
theorem mput_new {es : List (κ × Value)} {k : κ} {v : Value} (h : ∀ x ∈ es, x.1 ≠ k) : mput es k v = es ++ [(k, v)] := by
  induction es with
  | nil => rfl
  | cons x r ih => simp only [mput, if_neg (h x (by simp)), List.cons_append, ih fun y hy => h y (by simp [hy])]
theorem mput_old {es : List (κ × Value)} {k : κ} {v u : Value} {j : Nat} (hn : (es.map (·.1)).Nodup) (h : es[j]? = some (k, u)) : mput es k v = es.set j (k, v) := by
  induction es generalizing j with
  | nil => simp at h
  | cons x r ih =>
    rw [List.map_cons, List.nodup_cons] at hn
    cases j with
    | zero =>
      simp at h
      subst h
      simp [mput]
    | succ j =>
      have h : r[j]? = some (k, u) := by simpa using h
      have hne : ¬ x.1 = k := fun e => hn.1 (by rw [e]; exact List.mem_map.2 ⟨(k, u), List.mem_of_getElem? h, rfl⟩)
      simp only [mput, if_neg hne, List.set_cons_succ, ih hn.2 h]
theorem mput_keys {es : List (κ × Value)} {k : κ} {v : Value} : ∀ x, x ∈ (mput es k v).map (·.1) ↔ x = k ∨ x ∈ es.map (·.1) := by
  induction es with
  | nil => intro x; simp [mput]
  | cons y r ih =>
    intro x
    simp only [mput]
    split
    · rename_i h
      simp [h]
    · simp only [List.map_cons, List.mem_cons, ih]
      constructor
      · rintro (h | h | h) <;> simp [h]
      · rintro (h | h | h) <;> simp [h]
theorem mput_nodup {es : List (κ × Value)} {k : κ} {v : Value} (h : (es.map (·.1)).Nodup) : ((mput es k v).map (·.1)).Nodup := by
  induction es with
  | nil => simp [mput]
  | cons y r ih =>
    rw [List.map_cons, List.nodup_cons] at h
    simp only [mput]
    split
    · rename_i hy
      rw [List.map_cons, List.nodup_cons]
      exact ⟨hy ▸ h.1, h.2⟩
    · rename_i hy
      rw [List.map_cons, List.nodup_cons]
      refine ⟨fun hm => ?_, ih h.2⟩
      rcases (mput_keys _).1 hm with e | e
      · exact hy e
      · exact h.1 e
theorem mget_mput {es : List (κ × Value)} {k k' : κ} {v : Value} : mget (mput es k v) k' = if k = k' then some v else mget es k' := by
  induction es with
  | nil =>
    simp only [mput, mget, List.find?_cons, List.find?_nil]
    by_cases h : k = k' <;> simp [h]
  | cons y r ih =>
    simp only [mput]
    split
    · rename_i hy
      simp only [mget, List.find?_cons]
      by_cases h : k = k'
      · simp [h]
      · simp [h, hy]
    · rename_i hy
      by_cases h2 : y.1 = k'
      · simp only [mget, List.find?_cons, h2, decide_true]
        rw [if_neg (fun e => hy (h2.trans e.symm))]
      · have : mget (y :: mput r k v) k' = mget (mput r k v) k' := by simp only [mget, List.find?_cons, h2, decide_false]
        rw [this, ih]
        have : mget (y :: r) k' = mget r k' := by simp only [mget, List.find?_cons, h2, decide_false]
        rw [this]
end
section
variable {κ : Type} [DecidableEq κ] {d : TypeDesc} [KeyOf κ d]
/-- a map, its entries in the order in which they came -/
def MapAt (w : World) (b : Nat) (es : List (κ × Value)) : Prop := (es.map (·.1)).Nodup ∧ ∃ (ents : Array MapEntry) (clock : Nat), w.heap[b]? = some (.map ents clock) ∧ ents.toList.map (fun e => (e.key, e.val)) = es.map fun x => (KeyOf.v x.1, x.2)
variable {w w' : World} {b : Nat} {es : List (κ × Value)}
theorem MapAt.keep {S : Nat → Prop} (h : MapAt w b es) (hk : Keep S w w') (hb : S b) : MapAt w' b es := by
  obtain ⟨h0, ents, clock, h1, h2⟩ := h
  exact ⟨h0, ents, clock, (hk b hb (Array.getElem?_eq_some_iff.1 h1).1).trans h1, h2⟩
theorem MapAt.up (h : MapAt w b es) (hu : Up w w') : MapAt w' b es := h.keep (S := fun _ => True) (.of_up hu) trivial
theorem MapAt.but {k : Nat} (h : MapAt w b es) (hb : But k w w') (hne : b ≠ k) : MapAt w' b es := h.keep hb.keep hne
theorem MapAt.lt (h : MapAt w b es) : b < w.heap.size := by
  obtain ⟨_, ents, clock, h1, _⟩ := h
  exact (Array.getElem?_eq_some_iff.1 h1).1
theorem MapAt.grown {r : Option Nat} (h : MapAt w b es) (hg : w.grownBy w' r) (hb : some b ≠ r) : MapAt w' b es := h.keep (Grown.keep hg) hb
theorem MapAt.find {P : Program} {kt : TypeId} (hk : P.underlying kt = some d) (h : MapAt w b es) (k : κ) : ∃ (ents : Array MapEntry) (clock : Nat), w.heap[b]? = some (.map ents clock) ∧ ents.toList.map (fun e => (e.key, e.val)) = es.map (fun x => (KeyOf.v x.1, x.2)) ∧
    ((Instr.findKey kt (KeyOf.v k) ents.toList).run P w = .ok none w ∧ (∀ x ∈ es, x.1 ≠ k) ∨ ∃ (j : Nat) (v : Value) (e0 : MapEntry), (Instr.findKey kt (KeyOf.v k) ents.toList).run P w = .ok (some (j, v)) w ∧ es[j]? = some (k, v) ∧ ents.toList[j]? = some e0 ∧ e0.key = KeyOf.v k) := by
  obtain ⟨h0, ents, clock, h1, h2⟩ := h
  refine ⟨ents, clock, h1, h2, ?_⟩
  have hks : ∀ x ∈ ents.toList, IsKey d x.key := fun x hx => by
    have : (x.key, x.val) ∈ es.map fun x => (KeyOf.v x.1, x.2) := by rw [← h2]; exact List.mem_map.2 ⟨x, hx, rfl⟩
    obtain ⟨y, _, he⟩ := List.mem_map.1 this
    simp only [Prod.mk.injEq] at he
    rw [← he.1]
    exact KeyOf.key y.1
  rcases findNow_spec (d := d) (k := KeyOf.v k) (KeyOf.key k) ents.toList 0 hks with ⟨h3, h4⟩ | ⟨j, e0, h3, h4, h5⟩
  · refine .inl ⟨MapKept.run_findKey hk h3, fun x hx e => ?_⟩
    have : (KeyOf.v x.1, x.2) ∈ ents.toList.map fun e => (e.key, e.val) := by rw [h2]; exact List.mem_map.2 ⟨x, hx, rfl⟩
    obtain ⟨y, hy, he⟩ := List.mem_map.1 this
    simp only [Prod.mk.injEq] at he
    exact h4 y hy (by rw [he.1, e])
  · refine .inr ⟨j, e0.val, e0, by simpa using MapKept.run_findKey hk h3, ?_, h4, h5⟩
    have h6 : (ents.toList.map fun e => (e.key, e.val))[j]? = some (KeyOf.v k, e0.val) := by rw [List.getElem?_map, h4, ← h5]; rfl
    rw [h2, List.getElem?_map] at h6
    obtain ⟨y, hy, he⟩ := Option.map_eq_some_iff.1 h6
    simp only [Prod.mk.injEq] at he
    rw [hy]
    obtain ⟨y1, y2⟩ := y
    simp only at he
    rw [KeyOf.inj he.1, he.2]
end
section
variable {κ : Type} [DecidableEq κ] {d : TypeDesc} [KeyOf κ d]
variable {P : Program} {f : FuncId} {N : Nat} {K : Act → World → Prop} {e : Env} {w w0 : World} {R : Ending → World → Prop}
variable {ops : Array Oper} {rest : List Oper} {dd : Nat} {op : Op} {ty : TypeId} {ps : String} {af : Array Edge} {g : Option (Nat × Bool)} {b : Nat} {es : List (κ × Value)}
theorem run_lookup (c : Bool) {t kt el : TypeId} {z : Value} [IsMap P t kt el] [Zer P el z] (hk : P.underlying kt = some d) (h : MapAt w b es) (k : κ) :
    (Instr.lookup t (.map (some b)) (KeyOf.v k) c).run P w = .ok (if c then .tuple #[(mget es k).getD z, .bool (mget es k).isSome] else (mget es k).getD z) w := by
  have h1 := run_underlying (IsMap.h (P := P) (t := t) (k := kt) (el := el)) w
  have hz := Zer.run P el (z := z) w
  have hn := h.1
  obtain ⟨ents, clock, h2, _, h3⟩ := h.find hk k
  have hc := MapKept.run_checkKey (P := P) (w := w) hk (d := d) (k := KeyOf.v k) (KeyOf.key k) ents.isEmpty 9999
  rcases h3 with ⟨h3, h4⟩ | ⟨j, v, e0, h3, h4, _⟩
  · rw [mget_none h4]
    cases c <;> simp [Instr.lookup, h1, MapKept.run_getObj_map h2, hc, h3, hz, Result.andThen]
  · rw [mget_mem hn (List.mem_of_getElem? h4)]
    cases c <;> simp [Instr.lookup, h1, MapKept.run_getObj_map h2, hc, h3, Result.andThen]
theorem run_mapUpdate {t kt el : TypeId} [IsMap P t kt el] (hk : P.underlying kt = some d) (h : MapAt w b es) (k : κ) (v : Value) :
    ∃ w', (Instr.mapUpdate t (.map (some b)) (KeyOf.v k) v).run P w = .ok () w' ∧ MapAt w' b (mput es k v) ∧ But b w w' := by
  have h1 := run_underlying (IsMap.h (P := P) (t := t) (k := kt) (el := el)) w
  have hn := h.1
  obtain ⟨ents, clock, h2, hmap, h3⟩ := h.find hk k
  have hc := MapKept.run_checkKey (P := P) (w := w) hk (d := d) (k := KeyOf.v k) (KeyOf.key k) false 9999
  have hlt := (Array.getElem?_eq_some_iff.1 h2).1
  have hbut : ∀ o, But b w { w with heap := w.heap.setIfInBounds b o } := fun o => ⟨rfl, rfl, rfl, by simp, fun k _ hne => Array.getElem?_setIfInBounds_ne (Ne.symm hne)⟩
  rcases h3 with ⟨h3, h4⟩ | ⟨j, u, e0, h3, h4, h5, h6⟩
  · refine ⟨_, by simp [Instr.mapUpdate, h1, MapKept.run_getObj_map h2, hc, h3, MapKept.run_setObj_map _ h2, Result.andThen]; rfl, ⟨mput_nodup hn, ents.push { key := KeyOf.v k, val := v, born := clock }, clock + 1, by simp [hlt], ?_⟩, hbut _⟩
    rw [mput_new h4, Array.toList_push, List.map_append, hmap, List.map_append]
    rfl
  · have h7 := MapKept.run_keyThatStays (P := P) (w := w) (d := d) (k := KeyOf.v k) (KeyOf.key k)
    have hj : ents[j]? = some e0 := by simpa using h5
    refine ⟨_, by simp [Instr.mapUpdate, h1, MapKept.run_getObj_map h2, hc, h3, hj, h6, h7, MapKept.run_setObj_map _ h2, Result.andThen]; rfl, ⟨mput_nodup hn, ents.modify j (fun e => { e with key := KeyOf.v k, val := v }), clock, by simp [hlt], ?_⟩, hbut _⟩
    rw [mput_old hn h4, Array.toList_modify, list_modify_set h5, List.map_set, hmap, List.map_set]
theorem y_lookupV {t kt el : TypeId} {m x : Operand} {z v : Value} {k : κ} [IsMap P t kt el] [Zer P el z] (hk : P.underlying kt = some d) (h : MapAt w b es) (hm : e.ev m = some (.map (some b))) (hx : e.ev x = some (KeyOf.v k)) (hv : (mget es k).getD z = v) : Yld P (.lookup t m x false) ty e w v := Yld.mk fun ρ hρ => by
  have := run_lookup (t := t) (z := z) false hk h k
  subst hv
  simp [xop, execOp, hρ m _ hm, hρ x _ hx, this]
theorem y_lookupOk {t kt el : TypeId} {m x : Operand} {z v : Value} {k : κ} {c : Bool} [IsMap P t kt el] [Zer P el z] (hk : P.underlying kt = some d) (h : MapAt w b es) (hm : e.ev m = some (.map (some b))) (hx : e.ev x = some (KeyOf.v k)) (hv : (mget es k).getD z = v) (hc : (mget es k).isSome = c) : Yld P (.lookup t m x true) ty e w (.tuple #[v, .bool c]) := Yld.mk fun ρ hρ => by
  have := run_lookup (t := t) (z := z) true hk h k
  subst hv
  subst hc
  simp [xop, execOp, hρ m _ hm, hρ x _ hx, this]
/-- m[k] = v -/
theorem RL.mset {t kt el : TypeId} {m x y : Operand} {v : Value} {k : κ} [IsMap P t kt el] (hk : P.underlying kt = some d) (hu : Up w0 w) (h : MapAt w b es) (hB : w0.heap.size ≤ b) (hh : ∀ w1, Up w0 w1 → But b w w1 → MapAt w1 b (mput es k v) → RL P f N ops rest K e w1 R)
    (hw : Wants ops e g := by first | exact trivial | exact ⟨_, _, rfl, rfl, rfl⟩) (hm : e.ev m = some (.map (some b)) := by rfl) (hx : e.ev x = some (KeyOf.v k) := by rfl) (hy : e.ev y = some v := by rfl) :
    RL P f N ops ({ dst := none, op := .mapUpdate t m x y, type := ty, pos := ps, after := af, guard := g } :: rest) K e w R := by
  obtain ⟨w1, hr, h1, h2⟩ := run_mapUpdate (t := t) hk h k v
  exact RL.sto hw (Sto.mk fun ρ hρ => by simp [xop, execOp, hρ m _ hm, hρ x _ hx, hρ y _ hy, hr]) (hh w1 (Up.but hu h2 hB) h2 h1)
/-- a new map -/
theorem RL.mmap {t : TypeId} (hu : Up w0 w) (h : ∀ b w1, b = w.heap.size → w0.heap.size ≤ b → Up w0 w1 → Up w w1 → MapAt w1 b ([] : List (κ × Value)) → RL P f N ops rest K ((dd, .map (some b)) :: e) w1 R)
    (hw : Wants ops e g := by first | exact trivial | exact ⟨_, _, rfl, rfl, rfl⟩) (hd : Nat.blt dd N = true := by rfl) :
    RL P f N ops ({ dst := some dd, op := .makeMap t none, type := ty, pos := ps, after := af, guard := g } :: rest) K e w R :=
  RL.eff hw hd (Eff.mk fun ρ _ => by simp [xop, execOp, Instr.makeMap]) (h w.heap.size (w.alloc (.map #[] 0)) rfl hu.size (hu.trans (Up.alloc w _)) (Up.alloc w _) ⟨List.nodup_nil, #[], 0, by unfold World.alloc; exact Array.getElem?_push_size, rfl⟩)
end
end Go.Proofs.Ytgckpmcdlciibab
