/- Several texts in one: Plain laws of chapter 1: what is right with a schema stays right when a type is added behind. Plain laws of chapter 2: what is seen of a right schema is a right schema. Plain laws of chapter 2: changes keep a schema right; what each type is called at home. -/
import Derived.Test.YtgckpmcdlciibabZD
import Derived.Test.YtgckpmcdlciibabZP
import Derived.Test.YtgckpmcdlciibabZI
namespace Go.Proofs.Ytgckpmcdlciibab
theorem firstBad_zero {α : Type} {g : Nat → α → Int} {l : List α} (h : (match firstBad g 0 l with | some (_, e) => e | none => 0) = 0) : ∀ (j : Nat) y, l[j]? = some y → g j y = 0 := by
  cases hf : firstBad g 0 l with
  | none => exact fun j y hy => by have := firstBad_eq_none hf j y hy; rwa [Nat.zero_add] at this
  | some q =>
    obtain ⟨i, e⟩ := q
    rw [hf] at h
    obtain ⟨_, _, _, _, _, hne, _⟩ := firstBad_some hf
    exact absurd h hne
theorem fieldsErr_ok {l : List Typ} {t : Typ} : fieldsErr l t = 0 ↔ ¬ 10 < t.fields.length ∧ ∀ (j : Nat) y, t.fields[j]? = some y → fieldErr l t.fields j y = 0 := by
  unfold fieldsErr
  constructor
  · intro h
    split at h
    · cases h
    · rename_i hl
      exact ⟨hl, firstBad_zero h⟩
  · rintro ⟨h1, h2⟩
    rw [if_neg h1, firstBad_none h2]
theorem wrongT_ok {l : List Typ} : (wrongT l).err = 0 ↔ ¬ 8 < l.length ∧ (∀ (j : Nat) t, l[j]? = some t → nameErr l j t = 0) ∧ ∀ (j : Nat) t, l[j]? = some t → fieldsErr l t = 0 := by
  unfold wrongT
  constructor
  · intro h
    split at h
    · cases h
    rename_i hl
    cases hf : firstBad (nameErr l) 0 l with
    | some q =>
      rw [hf] at h
      obtain ⟨i, e⟩ := q
      obtain ⟨_, _, _, _, _, hne, _⟩ := firstBad_some hf
      exact absurd h hne
    | none =>
      rw [hf] at h
      cases hf2 : firstBad (fun _ t => fieldsErr l t) 0 l with
      | some q =>
        rw [hf2] at h
        obtain ⟨i, e⟩ := q
        obtain ⟨_, _, _, _, _, hne, _⟩ := firstBad_some hf2
        exact absurd h hne
      | none =>
        exact ⟨hl, fun j y hy => by have := firstBad_eq_none hf j y hy; rwa [Nat.zero_add] at this, fun j y hy => firstBad_eq_none hf2 j y hy⟩
  · rintro ⟨h1, h2, h3⟩
    rw [if_neg h1, firstBad_none h2, firstBad_none h3]
theorem thgsErr_ok {l : List Typ} {xs : List Thg} : (thgsErr l xs).err = 0 ↔ ¬ 60 < xs.length ∧ ∀ (j : Nat) x, xs[j]? = some x → thgErr l xs j x = 0 := by
  unfold thgsErr
  constructor
  · intro h
    split at h
    · cases h
    rename_i hl
    cases hf : firstBad (thgErr l xs) 0 xs with
    | some q =>
      rw [hf] at h
      obtain ⟨i, e⟩ := q
      obtain ⟨_, _, _, _, _, hne, _⟩ := firstBad_some hf
      exact absurd h hne
    | none => exact ⟨hl, fun j y hy => by have := firstBad_eq_none hf j y hy; rwa [Nat.zero_add] at this⟩
  · rintro ⟨h1, h2⟩
    rw [if_neg h1, firstBad_none h2]
end Go.Proofs.Ytgckpmcdlciibab

namespace Go.Proofs.Ytgckpmcdlciibab
structure RightF (ns : List Str) (fs : List Fld) : Prop where
  len : fs.length ≤ 10
  each : ∀ f ∈ fs, named f.name = true ∧ 1 ≤ f.kind ∧ f.kind ≤ 3 ∧ (f.kind = 1 → f.type = ⟨#[]⟩) ∧ (f.kind ≠ 1 → f.type ∈ ns)
  nodup : (fs.map (·.name)).Nodup
structure Right (ts : List Typ) : Prop where
  len : ts.length ≤ 8
  names : ∀ t ∈ ts, named t.name = true
  nodup : (ts.map (·.name)).Nodup
  fields : ∀ t ∈ ts, RightF (ts.map (·.name)) t.fields
theorem find_mem {α : Type} {l : List α} {g : α → Str} {n : Str} : 0 ≤ firstIdx l (fun x => decide (g x = n)) ↔ n ∈ l.map g := by
  rw [firstIdx_nonneg_iff, List.any_eq_true, List.mem_map]
  constructor
  · rintro ⟨x, hx, he⟩
    exact ⟨x, hx, of_decide_eq_true he⟩
  · rintro ⟨x, hx, he⟩
    exact ⟨x, hx, decide_eq_true he⟩
theorem nodup_take {α : Type} {l : List α} {g : α → Str} : (∀ (j : Nat) x, l[j]? = some x → ¬ g x ∈ (l.take j).map g) ↔ (l.map g).Nodup := by
  rw [List.nodup_iff_pairwise_ne, List.pairwise_iff_getElem]
  constructor
  · intro h i j hi hj hij he
    simp only [List.length_map] at hi hj
    refine h j l[j] (List.getElem?_eq_getElem hj) (List.mem_map.2 ⟨l[i], List.mem_of_getElem? (i := i) ?_, by simpa using he⟩)
    rw [List.getElem?_take, if_pos hij]
    exact List.getElem?_eq_getElem hi
  · intro h j x hx hm
    obtain ⟨y, hy, he⟩ := List.mem_map.1 hm
    obtain ⟨i, hi⟩ := List.getElem?_of_mem hy
    rw [List.getElem?_take] at hi
    split at hi
    · rename_i hij
      obtain ⟨h1, rfl⟩ := List.getElem?_eq_some_iff.1 hi
      obtain ⟨h2, rfl⟩ := List.getElem?_eq_some_iff.1 hx
      exact h i j (by simpa using h1) (by simpa using h2) hij (by simpa using he)
    · cases hi
theorem fieldErr_iff {l : List Typ} {fs : List Fld} {i : Nat} {f : Fld} : fieldErr l fs i f = 0 ↔ (named f.name = true ∧ ¬ f.name ∈ (fs.take i).map (·.name)) ∧ 1 ≤ f.kind ∧ f.kind ≤ 3 ∧ (f.kind = 1 → f.type = ⟨#[]⟩) ∧ (f.kind ≠ 1 → f.type ∈ l.map (·.name)) := by
  have e1 : 0 ≤ fieldF (fs.take i) f.name ↔ f.name ∈ (fs.take i).map (·.name) := find_mem
  have e2 : 0 ≤ findT l f.type ↔ f.type ∈ l.map (·.name) := find_mem
  unfold fieldErr
  rw [← e1, ← e2]
  by_cases h1 : named f.name = true ∧ ¬ 0 ≤ fieldF (fs.take i) f.name
  · rw [if_pos h1]
    by_cases h2 : f.kind < 1 ∨ 3 < f.kind
    · rw [if_pos h2]
      constructor
      · intro h; cases h
      · rintro ⟨_, h3, h4, _⟩; omega
    rw [if_neg h2]
    by_cases h3 : f.kind = 1
    · rw [if_pos h3]
      constructor
      · intro h
        split at h
        · exact ⟨h1, by omega, by omega, fun _ => by assumption, fun h => absurd h3 h⟩
        · cases h
      · rintro ⟨_, _, _, h4, _⟩
        rw [if_pos (h4 h3)]
    · rw [if_neg h3]
      constructor
      · intro h
        split at h
        · cases h
        · exact ⟨h1, by omega, by omega, fun h => absurd h h3, fun _ => by omega⟩
      · rintro ⟨_, _, _, _, h4⟩
        rw [if_neg (by have := h4 h3; omega)]
  · rw [if_neg h1]
    constructor
    · intro h; cases h
    · rintro ⟨h, _⟩; exact absurd h h1
theorem nameErr_iff {l : List Typ} {i : Nat} {t : Typ} : nameErr l i t = 0 ↔ named t.name = true ∧ ¬ t.name ∈ (l.take i).map (·.name) := by
  have e1 : 0 ≤ findT (l.take i) t.name ↔ t.name ∈ (l.take i).map (·.name) := find_mem
  unfold nameErr
  rw [← e1]
  split
  · rename_i h; simp [h]
  · rename_i h
    constructor
    · intro h; cases h
    · intro h2; exact absurd h2 h
theorem rightF_iff {l : List Typ} {t : Typ} : fieldsErr l t = 0 ↔ RightF (l.map (·.name)) t.fields := by
  rw [fieldsErr_ok]
  constructor
  · rintro ⟨h1, h2⟩
    refine ⟨by omega, fun f hf => ?_, nodup_take.1 fun j x hx => (fieldErr_iff.1 (h2 j x hx)).1.2⟩
    obtain ⟨j, hj⟩ := List.getElem?_of_mem hf
    have := fieldErr_iff.1 (h2 j f hj)
    exact ⟨this.1.1, this.2⟩
  · rintro ⟨h1, h2, h3⟩
    refine ⟨by omega, fun j y hy => fieldErr_iff.2 ⟨⟨(h2 y (List.mem_of_getElem? hy)).1, nodup_take.2 h3 j y hy⟩, (h2 y (List.mem_of_getElem? hy)).2⟩⟩
theorem right_iff {l : List Typ} : (wrongT l).err = 0 ↔ Right l := by
  rw [wrongT_ok]
  constructor
  · rintro ⟨h1, h2, h3⟩
    refine ⟨by omega, fun t ht => ?_, nodup_take.1 fun j x hx => (nameErr_iff.1 (h2 j x hx)).2, fun t ht => ?_⟩
    · obtain ⟨j, hj⟩ := List.getElem?_of_mem ht
      exact (nameErr_iff.1 (h2 j t hj)).1
    · obtain ⟨j, hj⟩ := List.getElem?_of_mem ht
      exact rightF_iff.1 (h3 j t hj)
  · rintro ⟨h1, h2, h3, h4⟩
    exact ⟨by omega, fun j t hj => nameErr_iff.2 ⟨h2 t (List.mem_of_getElem? hj), nodup_take.2 h3 j t hj⟩, fun j t hj => rightF_iff.2 (h4 t (List.mem_of_getElem? hj))⟩
end Go.Proofs.Ytgckpmcdlciibab

namespace Go.Proofs.Ytgckpmcdlciibab
theorem nodup_set {l : List Str} {k : Nat} {x : Str} (h : l.Nodup) (hx : ¬ x ∈ l) : (l.set k x).Nodup := by
  rw [List.nodup_iff_pairwise_ne, List.pairwise_iff_getElem]
  rw [List.nodup_iff_pairwise_ne, List.pairwise_iff_getElem] at h
  intro i j hi hj hij
  simp only [List.length_set] at hi hj
  rw [List.getElem_set, List.getElem_set]
  split
  · rename_i h1
    rw [if_neg (by omega)]
    exact fun e => hx (e ▸ List.getElem_mem _)
  · split
    · exact fun e => hx (e ▸ List.getElem_mem _)
    · exact h i j hi hj hij
theorem mem_set_ne {l : List Str} {k : Nat} {x y z : Str} (hk : l[k]? = some z) (hy : y ∈ l) (hyz : y ≠ z) : y ∈ l.set k x := by
  obtain ⟨i, hi⟩ := List.getElem?_of_mem hy
  refine List.mem_of_getElem? (i := i) ?_
  rw [List.getElem?_set_ne (fun e => hyz ?_)]
  · exact hi
  · subst e
    rw [hk] at hi
    exact (Option.some.inj hi).symm
theorem right_set {ts : List Typ} {k : Nat} {t t' : Typ} (h : Right ts) (hk : ts[k]? = some t) (hn : t'.name = t.name) (hf : RightF (ts.map (·.name)) t'.fields) : Right (ts.set k t') := by
  have hnm : (ts.set k t').map (·.name) = ts.map (·.name) := by
    rw [List.map_set]
    have : (ts.map (·.name))[k]? = some t'.name := by rw [List.getElem?_map, hk, hn]; rfl
    exact set_same this
  refine ⟨by simpa using h.len, fun u hu => ?_, by rw [hnm]; exact h.nodup, fun u hu => ?_⟩
  · obtain ⟨i, hi⟩ := List.getElem?_of_mem hu
    rw [List.getElem?_set] at hi
    split at hi
    · split at hi
      · simp only [Option.some.injEq] at hi
        rw [← hi, hn]
        exact h.names t (List.mem_of_getElem? hk)
      · cases hi
    · exact h.names u (List.mem_of_getElem? hi)
  · rw [hnm]
    obtain ⟨i, hi⟩ := List.getElem?_of_mem hu
    rw [List.getElem?_set] at hi
    split at hi
    · split at hi
      · simp only [Option.some.injEq] at hi
        rw [← hi]
        exact hf
      · cases hi
    · exact h.fields u (List.mem_of_getElem? hi)
def reT (frm to : Str) (t : Typ) : Typ := { t with fields := t.fields.map (reF frm to) }
theorem map_modify_type {v : List Sn} {k : Nat} {s : Sn} (hs : v[k]? = some s) (f : Sn → Sn) : (v.modify k f).map (·.type) = (v.map (·.type)).set k (f s).type := by rw [modify_set hs, List.map_set]
theorem callV_types {v : List Sn} {k : Nat} {s : Sn} (hs : v[k]? = some s) (to : Str) : (callV v k to).map (·.type) = ((v.map (·.type)).set k { s.type with name := to }).map (reT s.type.name to) := by
  unfold callV
  rw [hs]
  simp only
  rw [← show (v.set k (nameS to s)).map (·.type) = (v.map (·.type)).set k { s.type with name := to } by rw [List.map_set]; rfl, List.map_map, List.map_map]
  rfl
theorem reT_names (frm to : Str) (ts : List Typ) : (ts.map (reT frm to)).map (·.name) = ts.map (·.name) := by
  rw [List.map_map]; rfl
theorem right_call {ts : List Typ} {k : Nat} {t : Typ} {to : Str} (h : Right ts) (hk : ts[k]? = some t) (hn : named to = true) (hto : ¬ to ∈ ts.map (·.name)) : Right ((ts.set k { t with name := to }).map (reT t.name to)) := by
  have hnm : (((ts.set k { t with name := to }).map (reT t.name to)).map (·.name)) = (ts.map (·.name)).set k to := by rw [reT_names, List.map_set]
  have hkn : (ts.map (·.name))[k]? = some t.name := by rw [List.getElem?_map, hk]; rfl
  have hkl : k < (ts.map (·.name)).length := (List.getElem?_eq_some_iff.1 hkn).1
  have hex : ∀ u ∈ (ts.set k { t with name := to }).map (reT t.name to), (named u.name = true) ∧ ∃ u0 ∈ ts, u.fields = u0.fields.map (reF t.name to) := fun u hu => by
    obtain ⟨u1, hu1, rfl⟩ := List.mem_map.1 hu
    obtain ⟨i, hi⟩ := List.getElem?_of_mem hu1
    rw [List.getElem?_set] at hi
    split at hi
    · split at hi
      · simp only [Option.some.injEq] at hi
        subst hi
        exact ⟨hn, t, List.mem_of_getElem? hk, rfl⟩
      · cases hi
    · exact ⟨h.names u1 (List.mem_of_getElem? hi), u1, List.mem_of_getElem? hi, rfl⟩
  refine ⟨by simpa using h.len, fun u hu => (hex u hu).1, by rw [hnm]; exact nodup_set h.nodup hto, fun u hu => ?_⟩
  rw [hnm]
  obtain ⟨_, u0, hu0, he⟩ := hex u hu
  obtain ⟨h1, h2, h3⟩ := h.fields u0 hu0
  rw [he]
  have hname : ∀ f : Fld, (reF t.name to f).name = f.name := fun f => by unfold reF; split <;> rfl
  have hkind : ∀ f : Fld, (reF t.name to f).kind = f.kind := fun f => by unfold reF; split <;> rfl
  refine ⟨by simpa using h1, fun f hf => ?_, ?_⟩
  · obtain ⟨f0, hf0, rfl⟩ := List.mem_map.1 hf
    obtain ⟨h4, h5, h6, h7, h8⟩ := h2 f0 hf0
    rw [hname, hkind]
    refine ⟨h4, h5, h6, fun hk1 => ?_, fun hk1 => ?_⟩
    · unfold reF
      rw [if_neg (fun h => h.1 hk1)]
      exact h7 hk1
    · unfold reF
      split
      · exact List.mem_set hkl to
      · rename_i hne
        exact mem_set_ne hkn (h8 hk1) (fun e => hne ⟨hk1, e⟩)
  · rw [List.map_map]
    have : ((fun x : Fld => x.name) ∘ reF t.name to) = fun x => x.name := funext hname
    rw [this]
    exact h3
theorem rightF_erase {ns : List Str} {fs : List Fld} {f : Nat} (h : RightF ns fs) : RightF ns (fs.eraseIdx f) :=
  ⟨Nat.le_trans (by rw [List.length_eraseIdx]; split <;> omega) h.len, fun x hx => h.each x (List.mem_of_mem_eraseIdx hx), h.nodup.sublist ((List.eraseIdx_sublist _ _).map _)⟩
theorem rightF_name {ns : List Str} {fs : List Fld} {f : Nat} {x : Fld} {to : Str} (h : RightF ns fs) (hx : fs[f]? = some x) (hn : named to = true) (hto : ¬ to ∈ fs.map (·.name)) : RightF ns (fs.set f { x with name := to }) := by
  refine ⟨by simpa using h.len, fun y hy => ?_, ?_⟩
  · obtain ⟨i, hi⟩ := List.getElem?_of_mem hy
    rw [List.getElem?_set] at hi
    split at hi
    · split at hi
      · simp only [Option.some.injEq] at hi
        subst hi
        exact ⟨hn, (h.each x (List.mem_of_getElem? hx)).2⟩
      · cases hi
    · exact h.each y (List.mem_of_getElem? hi)
  · rw [List.map_set]
    exact nodup_set h.nodup hto
/-- how a change that can be goes -/
theorem doV_ok {v : List Sn} {c : Chg} (h : (doV v c).1 = 0) : ∃ (k : Nat) (s : Sn), v[k]? = some s ∧ s.type.name = c.type ∧ snF v c.type = (k : Int) ∧
    ((c.kind = 1 ∧ named c.to = true ∧ ¬ c.to ∈ (v.map (·.type)).map (·.name) ∧ (doV v c).2 = callV v k c.to) ∨
     ∃ (f : Nat) (x : Fld), s.type.fields[f]? = some x ∧ x.name = c.field ∧ fieldF s.type.fields c.field = (f : Int) ∧ ((c.kind = 3 ∧ (doV v c).2 = v.modify k (hideS f)) ∨ (c.kind = 2 ∧ named c.to = true ∧ ¬ c.to ∈ s.type.fields.map (·.name) ∧ (doV v c).2 = v.modify k (fieldS f c.to)))) := by
  unfold doV at h ⊢
  by_cases h1 : c.kind < 1 ∨ 3 < c.kind
  · rw [if_pos h1] at h; cases h
  rw [if_neg h1] at h ⊢
  by_cases h2 : snF v c.type < 0
  · rw [if_pos h2] at h; cases h
  rw [if_neg h2] at h ⊢
  obtain ⟨k, s, hk, hs, hnm, _⟩ := firstIdx_lt (l := v) (p := fun s => decide (s.type.name = c.type)) (by unfold snF at h2; omega)
  have hk : snF v c.type = (k : Int) := hk
  rw [hk] at h ⊢
  simp only [Int.toNat_natCast] at h ⊢
  refine ⟨k, s, hs, of_decide_eq_true hnm, rfl, ?_⟩
  by_cases h3 : c.kind = 1
  · rw [if_pos h3] at h ⊢
    by_cases h4 : named c.to = true ∧ ¬ 0 ≤ snF v c.to
    · rw [if_pos h4]
      refine .inl ⟨h3, h4.1, fun hm => h4.2 ?_, rfl⟩
      rw [List.map_map] at hm
      exact (find_mem (g := fun s : Sn => s.type.name)).2 hm
    · rw [if_neg h4] at h; cases h
  rw [if_neg h3, hs] at h ⊢
  simp only at h ⊢
  by_cases h5 : fieldF s.type.fields c.field < 0
  · rw [if_pos h5] at h; cases h
  rw [if_neg h5] at h ⊢
  obtain ⟨f, x, hf, hx, hxn, _⟩ := firstIdx_lt (l := s.type.fields) (p := fun t => decide (t.name = c.field)) (by unfold fieldF at h5; omega)
  have hf : fieldF s.type.fields c.field = (f : Int) := hf
  rw [hf] at h ⊢
  simp only [Int.toNat_natCast] at h ⊢
  refine .inr ⟨f, x, hx, of_decide_eq_true hxn, rfl, ?_⟩
  by_cases h6 : c.kind = 3
  · rw [if_pos h6]
    exact .inl ⟨h6, rfl⟩
  rw [if_neg h6] at h ⊢
  by_cases h7 : named c.to = true ∧ ¬ 0 ≤ fieldF s.type.fields c.to
  · rw [if_pos h7]
    exact .inr ⟨by omega, h7.1, fun hm => h7.2 (find_mem.2 hm), rfl⟩
  · rw [if_neg h7] at h; cases h
theorem do_right {v : List Sn} {c : Chg} (h : Right (v.map (·.type))) (hd : (doV v c).1 = 0) : Right ((doV v c).2.map (·.type)) := by
  obtain ⟨k, s, hs, hn, _, h1⟩ := doV_ok hd
  have hst : (v.map (·.type))[k]? = some s.type := by rw [List.getElem?_map, hs]; rfl
  have hf := h.fields s.type (List.mem_of_getElem? hst)
  rcases h1 with ⟨_, h2, h3, h4⟩ | ⟨f, x, hx, hxn, _, ⟨_, h4⟩ | ⟨_, h2, h3, h4⟩⟩
  · rw [h4, callV_types hs]
    exact right_call h hst h2 h3
  · rw [h4, map_modify_type hs]
    exact right_set h hst rfl (rightF_erase hf)
  · rw [h4, map_modify_type hs]
    refine right_set h hst rfl ?_
    simp only [fieldS]
    rw [modify_set hx]
    exact rightF_name hf hx h2 h3
/-- how what is seen stands to the own schema -/
structure SeenOf (l : List Typ) (v : List Sn) : Prop where
  len : v.length = l.length
  at_ : ∀ (i : Nat) s t, v[i]? = some s → l[i]? = some t → s.own = t.name ∧ s.type.fields.length ≤ t.fields.length ∧ s.fields.length = s.type.fields.length
theorem seen_modify {l : List Typ} {v : List Sn} {k : Nat} {f : Sn → Sn} (h : SeenOf l v) (hf : ∀ s, s.fields.length = s.type.fields.length → (f s).own = s.own ∧ (f s).type.fields.length ≤ s.type.fields.length ∧ (f s).fields.length = (f s).type.fields.length) : SeenOf l (v.modify k f) := by
  refine ⟨by simpa using h.len, fun i s t h1 h2 => ?_⟩
  rw [List.getElem?_modify] at h1
  cases hv : v[i]? with
  | none => rw [hv] at h1; simp at h1
  | some x =>
    rw [hv] at h1
    simp only [Option.map_eq_map, Option.map_some, Option.some.injEq] at h1
    obtain ⟨h3, h4, h5⟩ := h.at_ i x t hv h2
    split at h1
    · subst h1
      obtain ⟨h6, h7, h8⟩ := hf x h5
      exact ⟨h6.trans h3, by omega, h8⟩
    · subst h1
      exact ⟨h3, h4, h5⟩
theorem do_seen {l : List Typ} {v : List Sn} {c : Chg} (h : SeenOf l v) (hd : (doV v c).1 = 0) : SeenOf l (doV v c).2 := by
  obtain ⟨k, s, hs, hn, _, h1⟩ := doV_ok hd
  rcases h1 with ⟨_, h2, h3, h4⟩ | ⟨f, x, hx, hxn, _, ⟨_, h4⟩ | ⟨_, h2, h3, h4⟩⟩
  · rw [h4]
    unfold callV
    rw [hs]
    simp only
    rw [← modify_set hs]
    have h5 := seen_modify (k := k) (f := nameS c.to) h fun s hs => ⟨rfl, Nat.le_refl _, hs⟩
    refine ⟨by simpa using h5.len, fun i s' t h6 h7 => ?_⟩
    rw [List.getElem?_map] at h6
    obtain ⟨y, hy, rfl⟩ := Option.map_eq_some_iff.1 h6
    obtain ⟨h8, h9, h10⟩ := h5.at_ i y t hy h7
    exact ⟨h8, by simpa [reS] using h9, by simpa [reS] using h10⟩
  · rw [h4]
    exact seen_modify h fun s hs => ⟨rfl, by simp only [hideS, List.length_eraseIdx]; split <;> omega, by simp only [hideS, List.length_eraseIdx, hs]⟩
  · rw [h4]
    exact seen_modify h fun s hs => ⟨rfl, by simp [fieldS], by simpa [fieldS] using hs⟩
theorem doAll_ok : ∀ {cs : List Chg} {v : List Sn} {i : Nat}, (doAll v i cs).2.err = 0 → (∀ {P : List Sn → Prop}, (∀ v c, P v → (doV v c).1 = 0 → P (doV v c).2) → P v → P (doAll v i cs).1) ∧ (doAll v i cs).2 = ⟨0, 0⟩
  | [], v, i, _ => ⟨fun _ h => h, rfl⟩
  | c :: cs, v, i, h => by
    have e : doAll v i (c :: cs) = if (doV v c).1 = 0 then doAll (doV v c).2 (i + 1) cs else ([], ⟨(doV v c).1, i⟩) := rfl
    rw [e] at h ⊢
    by_cases h0 : (doV v c).1 = 0
    · rw [if_pos h0] at h ⊢
      have ih := doAll_ok h
      exact ⟨fun hP hv => ih.1 hP (hP v c hv h0), ih.2⟩
    · rw [if_neg h0] at h
      exact absurd h h0
theorem seeInit_types (l : List Typ) : (seeInit l).map (·.type) = l := by
  unfold seeInit
  rw [List.map_map]
  exact List.map_id _
theorem seeInit_seen (l : List Typ) : SeenOf l (seeInit l) := by
  refine ⟨by simp [seeInit], fun i s t h1 h2 => ?_⟩
  unfold seeInit at h1
  rw [List.getElem?_map, h2] at h1
  simp only [Option.map_some, Option.some.injEq] at h1
  subst h1
  exact ⟨rfl, Nat.le_refl _, by simp⟩
theorem seeM_cases {l : List Typ} {cs : List Chg} (h : (seeM l cs).2.err = 0) : (wrongT l).err = 0 ∧ ¬ 12 < cs.length ∧ seeM l cs = doAll (seeInit l) 0 cs := by
  unfold seeM at h ⊢
  by_cases h1 : (wrongT l).err ≠ 0
  · rw [if_pos h1] at h; exact absurd h h1
  rw [if_neg h1] at h ⊢
  by_cases h2 : 12 < cs.length
  · rw [if_pos h2] at h; cases h
  rw [if_neg h2] at h ⊢
  exact ⟨by omega, h2, rfl⟩
theorem seeM_right {l : List Typ} {cs : List Chg} (h : (seeM l cs).2.err = 0) : Right ((seeM l cs).1.map (·.type)) ∧ SeenOf l (seeM l cs).1 := by
  obtain ⟨h1, h2, h3⟩ := seeM_cases h
  rw [h3] at h ⊢
  exact ⟨(doAll_ok h).1 (P := fun v => Right (v.map (·.type))) (fun v c hv hd => do_right hv hd) (by rw [seeInit_types]; exact right_iff.1 h1), (doAll_ok h).1 (P := SeenOf l) (fun v c hv hd => do_seen hv hd) (seeInit_seen l)⟩
end Go.Proofs.Ytgckpmcdlciibab
