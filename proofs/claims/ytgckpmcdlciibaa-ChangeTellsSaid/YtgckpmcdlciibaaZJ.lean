/- Several texts in one: Plain laws of chapter 1: what is right with a schema stays right when a type is added behind. Plain laws of chapter 2: what is seen of a right schema is a right schema. Plain laws of chapter 2: changes keep a schema right; what each type is called at home. Plain laws of chapter 2: changes in two parts; called otherwise, and back. Plain laws of chapter 2: called otherwise, and back. The closed fact of chapter 2. The walk of ChangeRight. -/
import Derived.Test.YtgckpmcdlciibaaZD
import Derived.Test.YtgckpmcdlciibaaZP
import Derived.Test.YtgckpmcdlciibaaZI
import Derived.Test.YtgckpmcdlciibaaZB
namespace Go.Proofs.Ytgckpmcdlciibaa
theorem firstIdx_app_old {α : Type} {l r : List α} {p : α → Bool} (h : 0 ≤ firstIdx l p) : firstIdx (l ++ r) p = firstIdx l p := by
  obtain ⟨i, x, h1, h2, h3, h4⟩ := firstIdx_lt h
  rw [h1]
  have hall : ∀ (j : Nat) y, j < i → l[j]? = some y → p y = false := by
    intro j y hj hy
    have h5 := h1
    unfold firstIdx at h5
    cases hf : l.findIdx? p with
    | none => rw [hf] at h5; simp at h5
    | some k =>
      rw [hf] at h5
      simp only [Int.natCast_inj] at h5
      subst h5
      rw [List.findIdx?_eq_some_iff_getElem] at hf
      obtain ⟨hlt, _, hno⟩ := hf
      obtain ⟨hj2, rfl⟩ := List.getElem?_eq_some_iff.1 hy
      simpa using hno j hj
  exact firstIdx_hit (by rw [List.getElem?_append_left h4]; exact h2) h3 fun j y hj hy => hall j y hj (by rwa [List.getElem?_append_left (by omega)] at hy)
theorem firstIdx_app_new {α : Type} {l : List α} {x : α} {p : α → Bool} (h : ¬ 0 ≤ firstIdx l p) (hx : p x = true) : firstIdx (l ++ [x]) p = l.length := by
  refine firstIdx_hit (x := x) (by simp) hx fun j y hj hy => ?_
  rw [List.getElem?_append_left hj] at hy
  cases hp : p y with
  | false => rfl
  | true =>
    refine absurd (firstIdx_nonneg_iff.2 ?_) h
    exact List.any_eq_true.2 ⟨y, List.mem_of_getElem? hy, hp⟩
theorem fieldErr_app {l r : List Typ} {fs : List Fld} {i : Nat} {f : Fld} (h : fieldErr l fs i f = 0) : fieldErr (l ++ r) fs i f = 0 := by
  unfold fieldErr at h ⊢
  repeat' split at h
  all_goals (first | omega | skip)
  · rename_i h1 h2 h3 h4
    rw [if_pos h1, if_neg h2, if_pos h3, if_pos h4]
  · rename_i h1 h2 h3 h4
    rw [if_pos h1, if_neg h2, if_neg h3, if_neg]
    rwa [show findT (l ++ r) f.type = findT l f.type from firstIdx_app_old (by unfold findT at h4; omega)]
theorem firstBad_zero {α : Type} {g : Nat → α → Int} {l : List α} (h : (match firstBad g 0 l with | some (_, e) => e | none => 0) = 0) : ∀ (j : Nat) y, l[j]? = some y → g j y = 0 := by
  cases hf : firstBad g 0 l with
  | none => exact fun j y hy => by have := firstBad_eq_none hf j y hy; rwa [Nat.zero_add] at this
  | some q =>
    obtain ⟨i, e⟩ := q
    rw [hf] at h
    obtain ⟨_, _, _, _, _, hne, _⟩ := firstBad_some hf
    exact absurd h hne
theorem fieldsErr_ok {l : List Typ} {t : Typ} : fieldsErr l t = 0 ↔ ¬ 10 < t.fields.length ∧ ∀ (j : Nat) y, t.fields[j]? = some y → fieldErr l t.fields j y = 0 := by
  unfold fieldsErr
  constructor
  · intro h
    split at h
    · cases h
    · rename_i hl
      exact ⟨hl, firstBad_zero h⟩
  · rintro ⟨h1, h2⟩
    rw [if_neg h1, firstBad_none h2]
theorem fieldsErr_app {l r : List Typ} {t : Typ} (h : fieldsErr l t = 0) : fieldsErr (l ++ r) t = 0 := by
  rw [fieldsErr_ok] at h ⊢
  exact ⟨h.1, fun j y hy => fieldErr_app (h.2 j y hy)⟩
theorem wrongT_ok {l : List Typ} : (wrongT l).err = 0 ↔ ¬ 8 < l.length ∧ (∀ (j : Nat) t, l[j]? = some t → nameErr l j t = 0) ∧ ∀ (j : Nat) t, l[j]? = some t → fieldsErr l t = 0 := by
  unfold wrongT
  constructor
  · intro h
    split at h
    · cases h
    rename_i hl
    cases hf : firstBad (nameErr l) 0 l with
    | some q =>
      rw [hf] at h
      obtain ⟨i, e⟩ := q
      obtain ⟨_, _, _, _, _, hne, _⟩ := firstBad_some hf
      exact absurd h hne
    | none =>
      rw [hf] at h
      cases hf2 : firstBad (fun _ t => fieldsErr l t) 0 l with
      | some q =>
        rw [hf2] at h
        obtain ⟨i, e⟩ := q
        obtain ⟨_, _, _, _, _, hne, _⟩ := firstBad_some hf2
        exact absurd h hne
      | none =>
        exact ⟨hl, fun j y hy => by have := firstBad_eq_none hf j y hy; rwa [Nat.zero_add] at this, fun j y hy => firstBad_eq_none hf2 j y hy⟩
  · rintro ⟨h1, h2, h3⟩
    rw [if_neg h1, firstBad_none h2, firstBad_none h3]
theorem wrongT_more {l : List Typ} {n : Str} (h : (wrongT l).err = 0) (hlen : l.length < 8) (hn : named n = true) (hf : ¬ 0 ≤ findT l n) : (wrongT (l ++ [⟨n, []⟩])).err = 0 := by
  rw [wrongT_ok] at h ⊢
  obtain ⟨_, h2, h3⟩ := h
  refine ⟨by simp; omega, fun j t hj => ?_, fun j t hj => ?_⟩
  · unfold nameErr
    by_cases hlt : j < l.length
    · rw [List.getElem?_append_left hlt] at hj
      rw [List.take_append_of_le_length (by omega)]
      exact h2 j t hj
    · have hj2 : j = l.length := by have := (List.getElem?_eq_some_iff.1 hj).1; simp at this; omega
      subst hj2
      simp at hj
      subst hj
      rw [List.take_left, if_pos ⟨hn, hf⟩]
  · by_cases hlt : j < l.length
    · rw [List.getElem?_append_left hlt] at hj
      exact fieldsErr_app (h3 j t hj)
    · have hj2 : j = l.length := by have := (List.getElem?_eq_some_iff.1 hj).1; simp at this; omega
      subst hj2
      simp at hj
      subst hj
      exact fieldsErr_ok.2 ⟨by simp, fun j y hy => by simp at hy⟩
theorem findT_more {l : List Typ} {n : Str} (hf : ¬ 0 ≤ findT l n) : findT (l ++ [⟨n, []⟩]) n = l.length := firstIdx_app_new hf (by simp)
theorem thgErr_app {l r : List Typ} {xs : List Thg} {i : Nat} {x : Thg} (h : thgErr l xs i x = 0) : thgErr (l ++ r) xs i x = 0 := by
  unfold thgErr at h ⊢
  split at h
  · cases h
  rename_i h1
  have he : findT (l ++ r) x.type = findT l x.type := firstIdx_app_old (by unfold findT at h1; omega)
  obtain ⟨j, t, hj, htj, _, hlt⟩ := findT_get h1
  rw [he, if_neg h1]
  split at h
  · rename_i h2
    rw [if_pos h2]
    rw [hj] at h ⊢
    rw [Int.toNat_natCast] at h ⊢
    rwa [List.getElem?_append_left hlt]
  · cases h
theorem thgsErr_ok {l : List Typ} {xs : List Thg} : (thgsErr l xs).err = 0 ↔ ¬ 60 < xs.length ∧ ∀ (j : Nat) x, xs[j]? = some x → thgErr l xs j x = 0 := by
  unfold thgsErr
  constructor
  · intro h
    split at h
    · cases h
    rename_i hl
    cases hf : firstBad (thgErr l xs) 0 xs with
    | some q =>
      rw [hf] at h
      obtain ⟨i, e⟩ := q
      obtain ⟨_, _, _, _, _, hne, _⟩ := firstBad_some hf
      exact absurd h hne
    | none => exact ⟨hl, fun j y hy => by have := firstBad_eq_none hf j y hy; rwa [Nat.zero_add] at this⟩
  · rintro ⟨h1, h2⟩
    rw [if_neg h1, firstBad_none h2]
theorem thgsErr_app {l r : List Typ} {xs : List Thg} (h : (thgsErr l xs).err = 0) : (thgsErr (l ++ r) xs).err = 0 := by
  rw [thgsErr_ok] at h ⊢
  exact ⟨h.1, fun j x hx => thgErr_app (h.2 j x hx)⟩
end Go.Proofs.Ytgckpmcdlciibaa

namespace Go.Proofs.Ytgckpmcdlciibaa
structure RightF (ns : List Str) (fs : List Fld) : Prop where
  len : fs.length ≤ 10
  each : ∀ f ∈ fs, named f.name = true ∧ 1 ≤ f.kind ∧ f.kind ≤ 3 ∧ (f.kind = 1 → f.type = ⟨#[]⟩) ∧ (f.kind ≠ 1 → f.type ∈ ns)
  nodup : (fs.map (·.name)).Nodup
structure Right (ts : List Typ) : Prop where
  len : ts.length ≤ 8
  names : ∀ t ∈ ts, named t.name = true
  nodup : (ts.map (·.name)).Nodup
  fields : ∀ t ∈ ts, RightF (ts.map (·.name)) t.fields
theorem find_mem {α : Type} {l : List α} {g : α → Str} {n : Str} : 0 ≤ firstIdx l (fun x => decide (g x = n)) ↔ n ∈ l.map g := by
  rw [firstIdx_nonneg_iff, List.any_eq_true, List.mem_map]
  constructor
  · rintro ⟨x, hx, he⟩
    exact ⟨x, hx, of_decide_eq_true he⟩
  · rintro ⟨x, hx, he⟩
    exact ⟨x, hx, decide_eq_true he⟩
theorem nodup_take {α : Type} {l : List α} {g : α → Str} : (∀ (j : Nat) x, l[j]? = some x → ¬ g x ∈ (l.take j).map g) ↔ (l.map g).Nodup := by
  rw [List.nodup_iff_pairwise_ne, List.pairwise_iff_getElem]
  constructor
  · intro h i j hi hj hij he
    simp only [List.length_map] at hi hj
    refine h j l[j] (List.getElem?_eq_getElem hj) (List.mem_map.2 ⟨l[i], List.mem_of_getElem? (i := i) ?_, by simpa using he⟩)
    rw [List.getElem?_take, if_pos hij]
    exact List.getElem?_eq_getElem hi
  · intro h j x hx hm
    obtain ⟨y, hy, he⟩ := List.mem_map.1 hm
    obtain ⟨i, hi⟩ := List.getElem?_of_mem hy
    rw [List.getElem?_take] at hi
    split at hi
    · rename_i hij
      obtain ⟨h1, rfl⟩ := List.getElem?_eq_some_iff.1 hi
      obtain ⟨h2, rfl⟩ := List.getElem?_eq_some_iff.1 hx
      exact h i j (by simpa using h1) (by simpa using h2) hij (by simpa using he)
    · cases hi
theorem fieldErr_iff {l : List Typ} {fs : List Fld} {i : Nat} {f : Fld} : fieldErr l fs i f = 0 ↔ (named f.name = true ∧ ¬ f.name ∈ (fs.take i).map (·.name)) ∧ 1 ≤ f.kind ∧ f.kind ≤ 3 ∧ (f.kind = 1 → f.type = ⟨#[]⟩) ∧ (f.kind ≠ 1 → f.type ∈ l.map (·.name)) := by
  have e1 : 0 ≤ fieldF (fs.take i) f.name ↔ f.name ∈ (fs.take i).map (·.name) := find_mem
  have e2 : 0 ≤ findT l f.type ↔ f.type ∈ l.map (·.name) := find_mem
  unfold fieldErr
  rw [← e1, ← e2]
  by_cases h1 : named f.name = true ∧ ¬ 0 ≤ fieldF (fs.take i) f.name
  · rw [if_pos h1]
    by_cases h2 : f.kind < 1 ∨ 3 < f.kind
    · rw [if_pos h2]
      constructor
      · intro h; cases h
      · rintro ⟨_, h3, h4, _⟩; omega
    rw [if_neg h2]
    by_cases h3 : f.kind = 1
    · rw [if_pos h3]
      constructor
      · intro h
        split at h
        · exact ⟨h1, by omega, by omega, fun _ => by assumption, fun h => absurd h3 h⟩
        · cases h
      · rintro ⟨_, _, _, h4, _⟩
        rw [if_pos (h4 h3)]
    · rw [if_neg h3]
      constructor
      · intro h
        split at h
        · cases h
        · exact ⟨h1, by omega, by omega, fun h => absurd h h3, fun _ => by omega⟩
      · rintro ⟨_, _, _, _, h4⟩
        rw [if_neg (by have := h4 h3; omega)]
  · rw [if_neg h1]
    constructor
    · intro h; cases h
    · rintro ⟨h, _⟩; exact absurd h h1
theorem nameErr_iff {l : List Typ} {i : Nat} {t : Typ} : nameErr l i t = 0 ↔ named t.name = true ∧ ¬ t.name ∈ (l.take i).map (·.name) := by
  have e1 : 0 ≤ findT (l.take i) t.name ↔ t.name ∈ (l.take i).map (·.name) := find_mem
  unfold nameErr
  rw [← e1]
  split
  · rename_i h; simp [h]
  · rename_i h
    constructor
    · intro h; cases h
    · intro h2; exact absurd h2 h
theorem rightF_iff {l : List Typ} {t : Typ} : fieldsErr l t = 0 ↔ RightF (l.map (·.name)) t.fields := by
  rw [fieldsErr_ok]
  constructor
  · rintro ⟨h1, h2⟩
    refine ⟨by omega, fun f hf => ?_, nodup_take.1 fun j x hx => (fieldErr_iff.1 (h2 j x hx)).1.2⟩
    obtain ⟨j, hj⟩ := List.getElem?_of_mem hf
    have := fieldErr_iff.1 (h2 j f hj)
    exact ⟨this.1.1, this.2⟩
  · rintro ⟨h1, h2, h3⟩
    refine ⟨by omega, fun j y hy => fieldErr_iff.2 ⟨⟨(h2 y (List.mem_of_getElem? hy)).1, nodup_take.2 h3 j y hy⟩, (h2 y (List.mem_of_getElem? hy)).2⟩⟩
theorem right_iff {l : List Typ} : (wrongT l).err = 0 ↔ Right l := by
  rw [wrongT_ok]
  constructor
  · rintro ⟨h1, h2, h3⟩
    refine ⟨by omega, fun t ht => ?_, nodup_take.1 fun j x hx => (nameErr_iff.1 (h2 j x hx)).2, fun t ht => ?_⟩
    · obtain ⟨j, hj⟩ := List.getElem?_of_mem ht
      exact (nameErr_iff.1 (h2 j t hj)).1
    · obtain ⟨j, hj⟩ := List.getElem?_of_mem ht
      exact rightF_iff.1 (h3 j t hj)
  · rintro ⟨h1, h2, h3, h4⟩
    exact ⟨by omega, fun j t hj => nameErr_iff.2 ⟨h2 t (List.mem_of_getElem? hj), nodup_take.2 h3 j t hj⟩, fun j t hj => rightF_iff.2 (h4 t (List.mem_of_getElem? hj))⟩
theorem wrongT_at {l : List Typ} (h : (wrongT l).err = 0) : wrongT l = ⟨0, 0⟩ := by
  have hk := wrongT_ok.1 h
  unfold wrongT
  rw [if_neg hk.1, firstBad_none hk.2.1, firstBad_none hk.2.2]
end Go.Proofs.Ytgckpmcdlciibaa

namespace Go.Proofs.Ytgckpmcdlciibaa
theorem nodup_set {l : List Str} {k : Nat} {x : Str} (h : l.Nodup) (hx : ¬ x ∈ l) : (l.set k x).Nodup := by
  rw [List.nodup_iff_pairwise_ne, List.pairwise_iff_getElem]
  rw [List.nodup_iff_pairwise_ne, List.pairwise_iff_getElem] at h
  intro i j hi hj hij
  simp only [List.length_set] at hi hj
  rw [List.getElem_set, List.getElem_set]
  split
  · rename_i h1
    rw [if_neg (by omega)]
    exact fun e => hx (e ▸ List.getElem_mem _)
  · split
    · exact fun e => hx (e ▸ List.getElem_mem _)
    · exact h i j hi hj hij
theorem mem_set_ne {l : List Str} {k : Nat} {x y z : Str} (hk : l[k]? = some z) (hy : y ∈ l) (hyz : y ≠ z) : y ∈ l.set k x := by
  obtain ⟨i, hi⟩ := List.getElem?_of_mem hy
  refine List.mem_of_getElem? (i := i) ?_
  rw [List.getElem?_set_ne (fun e => hyz ?_)]
  · exact hi
  · subst e
    rw [hk] at hi
    exact (Option.some.inj hi).symm
theorem right_set {ts : List Typ} {k : Nat} {t t' : Typ} (h : Right ts) (hk : ts[k]? = some t) (hn : t'.name = t.name) (hf : RightF (ts.map (·.name)) t'.fields) : Right (ts.set k t') := by
  have hnm : (ts.set k t').map (·.name) = ts.map (·.name) := by
    rw [List.map_set]
    have : (ts.map (·.name))[k]? = some t'.name := by rw [List.getElem?_map, hk, hn]; rfl
    exact set_same this
  refine ⟨by simpa using h.len, fun u hu => ?_, by rw [hnm]; exact h.nodup, fun u hu => ?_⟩
  · obtain ⟨i, hi⟩ := List.getElem?_of_mem hu
    rw [List.getElem?_set] at hi
    split at hi
    · split at hi
      · simp only [Option.some.injEq] at hi
        rw [← hi, hn]
        exact h.names t (List.mem_of_getElem? hk)
      · cases hi
    · exact h.names u (List.mem_of_getElem? hi)
  · rw [hnm]
    obtain ⟨i, hi⟩ := List.getElem?_of_mem hu
    rw [List.getElem?_set] at hi
    split at hi
    · split at hi
      · simp only [Option.some.injEq] at hi
        rw [← hi]
        exact hf
      · cases hi
    · exact h.fields u (List.mem_of_getElem? hi)
def reT (frm to : Str) (t : Typ) : Typ := { t with fields := t.fields.map (reF frm to) }
theorem map_modify_type {v : List Sn} {k : Nat} {s : Sn} (hs : v[k]? = some s) (f : Sn → Sn) : (v.modify k f).map (·.type) = (v.map (·.type)).set k (f s).type := by rw [modify_set hs, List.map_set]
theorem callV_types {v : List Sn} {k : Nat} {s : Sn} (hs : v[k]? = some s) (to : Str) : (callV v k to).map (·.type) = ((v.map (·.type)).set k { s.type with name := to }).map (reT s.type.name to) := by
  unfold callV
  rw [hs]
  simp only
  rw [← show (v.set k (nameS to s)).map (·.type) = (v.map (·.type)).set k { s.type with name := to } by rw [List.map_set]; rfl, List.map_map, List.map_map]
  rfl
theorem reT_names (frm to : Str) (ts : List Typ) : (ts.map (reT frm to)).map (·.name) = ts.map (·.name) := by
  rw [List.map_map]; rfl
theorem right_call {ts : List Typ} {k : Nat} {t : Typ} {to : Str} (h : Right ts) (hk : ts[k]? = some t) (hn : named to = true) (hto : ¬ to ∈ ts.map (·.name)) : Right ((ts.set k { t with name := to }).map (reT t.name to)) := by
  have hnm : (((ts.set k { t with name := to }).map (reT t.name to)).map (·.name)) = (ts.map (·.name)).set k to := by rw [reT_names, List.map_set]
  have hkn : (ts.map (·.name))[k]? = some t.name := by rw [List.getElem?_map, hk]; rfl
  have hkl : k < (ts.map (·.name)).length := (List.getElem?_eq_some_iff.1 hkn).1
  have hex : ∀ u ∈ (ts.set k { t with name := to }).map (reT t.name to), (named u.name = true) ∧ ∃ u0 ∈ ts, u.fields = u0.fields.map (reF t.name to) := fun u hu => by
    obtain ⟨u1, hu1, rfl⟩ := List.mem_map.1 hu
    obtain ⟨i, hi⟩ := List.getElem?_of_mem hu1
    rw [List.getElem?_set] at hi
    split at hi
    · split at hi
      · simp only [Option.some.injEq] at hi
        subst hi
        exact ⟨hn, t, List.mem_of_getElem? hk, rfl⟩
      · cases hi
    · exact ⟨h.names u1 (List.mem_of_getElem? hi), u1, List.mem_of_getElem? hi, rfl⟩
  refine ⟨by simpa using h.len, fun u hu => (hex u hu).1, by rw [hnm]; exact nodup_set h.nodup hto, fun u hu => ?_⟩
  rw [hnm]
  obtain ⟨_, u0, hu0, he⟩ := hex u hu
  obtain ⟨h1, h2, h3⟩ := h.fields u0 hu0
  rw [he]
  have hname : ∀ f : Fld, (reF t.name to f).name = f.name := fun f => by unfold reF; split <;> rfl
  have hkind : ∀ f : Fld, (reF t.name to f).kind = f.kind := fun f => by unfold reF; split <;> rfl
  refine ⟨by simpa using h1, fun f hf => ?_, ?_⟩
  · obtain ⟨f0, hf0, rfl⟩ := List.mem_map.1 hf
    obtain ⟨h4, h5, h6, h7, h8⟩ := h2 f0 hf0
    rw [hname, hkind]
    refine ⟨h4, h5, h6, fun hk1 => ?_, fun hk1 => ?_⟩
    · unfold reF
      rw [if_neg (fun h => h.1 hk1)]
      exact h7 hk1
    · unfold reF
      split
      · exact List.mem_set hkl to
      · rename_i hne
        exact mem_set_ne hkn (h8 hk1) (fun e => hne ⟨hk1, e⟩)
  · rw [List.map_map]
    have : ((fun x : Fld => x.name) ∘ reF t.name to) = fun x => x.name := funext hname
    rw [this]
    exact h3
theorem rightF_erase {ns : List Str} {fs : List Fld} {f : Nat} (h : RightF ns fs) : RightF ns (fs.eraseIdx f) :=
  ⟨Nat.le_trans (by rw [List.length_eraseIdx]; split <;> omega) h.len, fun x hx => h.each x (List.mem_of_mem_eraseIdx hx), h.nodup.sublist ((List.eraseIdx_sublist _ _).map _)⟩
theorem rightF_name {ns : List Str} {fs : List Fld} {f : Nat} {x : Fld} {to : Str} (h : RightF ns fs) (hx : fs[f]? = some x) (hn : named to = true) (hto : ¬ to ∈ fs.map (·.name)) : RightF ns (fs.set f { x with name := to }) := by
  refine ⟨by simpa using h.len, fun y hy => ?_, ?_⟩
  · obtain ⟨i, hi⟩ := List.getElem?_of_mem hy
    rw [List.getElem?_set] at hi
    split at hi
    · split at hi
      · simp only [Option.some.injEq] at hi
        subst hi
        exact ⟨hn, (h.each x (List.mem_of_getElem? hx)).2⟩
      · cases hi
    · exact h.each y (List.mem_of_getElem? hi)
  · rw [List.map_set]
    exact nodup_set h.nodup hto
/-- how a change that can be goes -/
theorem doV_ok {v : List Sn} {c : Chg} (h : (doV v c).1 = 0) : ∃ (k : Nat) (s : Sn), v[k]? = some s ∧ s.type.name = c.type ∧ snF v c.type = (k : Int) ∧
    ((c.kind = 1 ∧ named c.to = true ∧ ¬ c.to ∈ (v.map (·.type)).map (·.name) ∧ (doV v c).2 = callV v k c.to) ∨
     ∃ (f : Nat) (x : Fld), s.type.fields[f]? = some x ∧ x.name = c.field ∧ fieldF s.type.fields c.field = (f : Int) ∧ ((c.kind = 3 ∧ (doV v c).2 = v.modify k (hideS f)) ∨ (c.kind = 2 ∧ named c.to = true ∧ ¬ c.to ∈ s.type.fields.map (·.name) ∧ (doV v c).2 = v.modify k (fieldS f c.to)))) := by
  unfold doV at h ⊢
  by_cases h1 : c.kind < 1 ∨ 3 < c.kind
  · rw [if_pos h1] at h; cases h
  rw [if_neg h1] at h ⊢
  by_cases h2 : snF v c.type < 0
  · rw [if_pos h2] at h; cases h
  rw [if_neg h2] at h ⊢
  obtain ⟨k, s, hk, hs, hnm, _⟩ := firstIdx_lt (l := v) (p := fun s => decide (s.type.name = c.type)) (by unfold snF at h2; omega)
  have hk : snF v c.type = (k : Int) := hk
  rw [hk] at h ⊢
  simp only [Int.toNat_natCast] at h ⊢
  refine ⟨k, s, hs, of_decide_eq_true hnm, rfl, ?_⟩
  by_cases h3 : c.kind = 1
  · rw [if_pos h3] at h ⊢
    by_cases h4 : named c.to = true ∧ ¬ 0 ≤ snF v c.to
    · rw [if_pos h4]
      refine .inl ⟨h3, h4.1, fun hm => h4.2 ?_, rfl⟩
      rw [List.map_map] at hm
      exact (find_mem (g := fun s : Sn => s.type.name)).2 hm
    · rw [if_neg h4] at h; cases h
  rw [if_neg h3, hs] at h ⊢
  simp only at h ⊢
  by_cases h5 : fieldF s.type.fields c.field < 0
  · rw [if_pos h5] at h; cases h
  rw [if_neg h5] at h ⊢
  obtain ⟨f, x, hf, hx, hxn, _⟩ := firstIdx_lt (l := s.type.fields) (p := fun t => decide (t.name = c.field)) (by unfold fieldF at h5; omega)
  have hf : fieldF s.type.fields c.field = (f : Int) := hf
  rw [hf] at h ⊢
  simp only [Int.toNat_natCast] at h ⊢
  refine .inr ⟨f, x, hx, of_decide_eq_true hxn, rfl, ?_⟩
  by_cases h6 : c.kind = 3
  · rw [if_pos h6]
    exact .inl ⟨h6, rfl⟩
  rw [if_neg h6] at h ⊢
  by_cases h7 : named c.to = true ∧ ¬ 0 ≤ fieldF s.type.fields c.to
  · rw [if_pos h7]
    exact .inr ⟨by omega, h7.1, fun hm => h7.2 (find_mem.2 hm), rfl⟩
  · rw [if_neg h7] at h; cases h
theorem do_right {v : List Sn} {c : Chg} (h : Right (v.map (·.type))) (hd : (doV v c).1 = 0) : Right ((doV v c).2.map (·.type)) := by
  obtain ⟨k, s, hs, hn, _, h1⟩ := doV_ok hd
  have hst : (v.map (·.type))[k]? = some s.type := by rw [List.getElem?_map, hs]; rfl
  have hf := h.fields s.type (List.mem_of_getElem? hst)
  rcases h1 with ⟨_, h2, h3, h4⟩ | ⟨f, x, hx, hxn, _, ⟨_, h4⟩ | ⟨_, h2, h3, h4⟩⟩
  · rw [h4, callV_types hs]
    exact right_call h hst h2 h3
  · rw [h4, map_modify_type hs]
    exact right_set h hst rfl (rightF_erase hf)
  · rw [h4, map_modify_type hs]
    refine right_set h hst rfl ?_
    simp only [fieldS]
    rw [modify_set hx]
    exact rightF_name hf hx h2 h3
/-- how what is seen stands to the own schema -/
structure SeenOf (l : List Typ) (v : List Sn) : Prop where
  len : v.length = l.length
  at_ : ∀ (i : Nat) s t, v[i]? = some s → l[i]? = some t → s.own = t.name ∧ s.type.fields.length ≤ t.fields.length ∧ s.fields.length = s.type.fields.length
theorem seen_modify {l : List Typ} {v : List Sn} {k : Nat} {f : Sn → Sn} (h : SeenOf l v) (hf : ∀ s, s.fields.length = s.type.fields.length → (f s).own = s.own ∧ (f s).type.fields.length ≤ s.type.fields.length ∧ (f s).fields.length = (f s).type.fields.length) : SeenOf l (v.modify k f) := by
  refine ⟨by simpa using h.len, fun i s t h1 h2 => ?_⟩
  rw [List.getElem?_modify] at h1
  cases hv : v[i]? with
  | none => rw [hv] at h1; simp at h1
  | some x =>
    rw [hv] at h1
    simp only [Option.map_eq_map, Option.map_some, Option.some.injEq] at h1
    obtain ⟨h3, h4, h5⟩ := h.at_ i x t hv h2
    split at h1
    · subst h1
      obtain ⟨h6, h7, h8⟩ := hf x h5
      exact ⟨h6.trans h3, by omega, h8⟩
    · subst h1
      exact ⟨h3, h4, h5⟩
theorem do_seen {l : List Typ} {v : List Sn} {c : Chg} (h : SeenOf l v) (hd : (doV v c).1 = 0) : SeenOf l (doV v c).2 := by
  obtain ⟨k, s, hs, hn, _, h1⟩ := doV_ok hd
  rcases h1 with ⟨_, h2, h3, h4⟩ | ⟨f, x, hx, hxn, _, ⟨_, h4⟩ | ⟨_, h2, h3, h4⟩⟩
  · rw [h4]
    unfold callV
    rw [hs]
    simp only
    rw [← modify_set hs]
    have h5 := seen_modify (k := k) (f := nameS c.to) h fun s hs => ⟨rfl, Nat.le_refl _, hs⟩
    refine ⟨by simpa using h5.len, fun i s' t h6 h7 => ?_⟩
    rw [List.getElem?_map] at h6
    obtain ⟨y, hy, rfl⟩ := Option.map_eq_some_iff.1 h6
    obtain ⟨h8, h9, h10⟩ := h5.at_ i y t hy h7
    exact ⟨h8, by simpa [reS] using h9, by simpa [reS] using h10⟩
  · rw [h4]
    exact seen_modify h fun s hs => ⟨rfl, by simp only [hideS, List.length_eraseIdx]; split <;> omega, by simp only [hideS, List.length_eraseIdx, hs]⟩
  · rw [h4]
    exact seen_modify h fun s hs => ⟨rfl, by simp [fieldS], by simpa [fieldS] using hs⟩
theorem doAll_ok : ∀ {cs : List Chg} {v : List Sn} {i : Nat}, (doAll v i cs).2.err = 0 → (∀ {P : List Sn → Prop}, (∀ v c, P v → (doV v c).1 = 0 → P (doV v c).2) → P v → P (doAll v i cs).1) ∧ (doAll v i cs).2 = ⟨0, 0⟩
  | [], v, i, _ => ⟨fun _ h => h, rfl⟩
  | c :: cs, v, i, h => by
    have e : doAll v i (c :: cs) = if (doV v c).1 = 0 then doAll (doV v c).2 (i + 1) cs else ([], ⟨(doV v c).1, i⟩) := rfl
    rw [e] at h ⊢
    by_cases h0 : (doV v c).1 = 0
    · rw [if_pos h0] at h ⊢
      have ih := doAll_ok h
      exact ⟨fun hP hv => ih.1 hP (hP v c hv h0), ih.2⟩
    · rw [if_neg h0] at h
      exact absurd h h0
theorem seeInit_types (l : List Typ) : (seeInit l).map (·.type) = l := by
  unfold seeInit
  rw [List.map_map]
  exact List.map_id _
theorem seeInit_seen (l : List Typ) : SeenOf l (seeInit l) := by
  refine ⟨by simp [seeInit], fun i s t h1 h2 => ?_⟩
  unfold seeInit at h1
  rw [List.getElem?_map, h2] at h1
  simp only [Option.map_some, Option.some.injEq] at h1
  subst h1
  exact ⟨rfl, Nat.le_refl _, by simp⟩
theorem seeM_cases {l : List Typ} {cs : List Chg} (h : (seeM l cs).2.err = 0) : (wrongT l).err = 0 ∧ ¬ 12 < cs.length ∧ seeM l cs = doAll (seeInit l) 0 cs := by
  unfold seeM at h ⊢
  by_cases h1 : (wrongT l).err ≠ 0
  · rw [if_pos h1] at h; exact absurd h h1
  rw [if_neg h1] at h ⊢
  by_cases h2 : 12 < cs.length
  · rw [if_pos h2] at h; cases h
  rw [if_neg h2] at h ⊢
  exact ⟨by omega, h2, rfl⟩
theorem seeM_right {l : List Typ} {cs : List Chg} (h : (seeM l cs).2.err = 0) : Right ((seeM l cs).1.map (·.type)) ∧ SeenOf l (seeM l cs).1 := by
  obtain ⟨h1, h2, h3⟩ := seeM_cases h
  rw [h3] at h ⊢
  exact ⟨(doAll_ok h).1 (P := fun v => Right (v.map (·.type))) (fun v c hv hd => do_right hv hd) (by rw [seeInit_types]; exact right_iff.1 h1), (doAll_ok h).1 (P := SeenOf l) (fun v c hv hd => do_seen hv hd) (seeInit_seen l)⟩
theorem doAll_err : ∀ {cs : List Chg} {v : List Sn} {i : Nat}, ¬ (doAll v i cs).2.err = 0 → (doAll v i cs).1 = []
  | [], _, _, h => absurd rfl h
  | c :: cs, v, i, h => by
    have e : doAll v i (c :: cs) = if (doV v c).1 = 0 then doAll (doV v c).2 (i + 1) cs else ([], ⟨(doV v c).1, i⟩) := rfl
    rw [e] at h ⊢
    by_cases h0 : (doV v c).1 = 0
    · rw [if_pos h0] at h ⊢
      exact doAll_err h
    · rw [if_neg h0]
theorem seeM_err {l : List Typ} {cs : List Chg} (h : ¬ (seeM l cs).2.err = 0) : (seeM l cs).1 = [] := by
  unfold seeM at h ⊢
  split
  · rfl
  · rename_i h1
    rw [if_neg h1] at h
    split
    · rfl
    · rename_i h2
      rw [if_neg h2] at h
      exact doAll_err h
end Go.Proofs.Ytgckpmcdlciibaa

namespace Go.Proofs.Ytgckpmcdlciibaa
/-- a change, of types alone -/
def doT (ts : List Typ) (c : Chg) : Int × List Typ :=
  if c.kind < 1 ∨ 3 < c.kind then (1, ts) else
  if findT ts c.type < 0 then (5, ts) else
  match ts[(findT ts c.type).toNat]? with
  | none => (5, ts)
  | some t =>
    if c.kind = 1 then
      if named c.to = true ∧ ¬ 0 ≤ findT ts c.to then (0, (ts.set (findT ts c.type).toNat { t with name := c.to }).map (reT t.name c.to)) else (6, ts)
    else if fieldF t.fields c.field < 0 then (5, ts) else
      if c.kind = 3 then (0, ts.set (findT ts c.type).toNat { t with fields := t.fields.eraseIdx (fieldF t.fields c.field).toNat }) else
      if named c.to = true ∧ ¬ 0 ≤ fieldF t.fields c.to then (0, ts.set (findT ts c.type).toNat { t with fields := t.fields.modify (fieldF t.fields c.field).toNat fun x => { x with name := c.to } }) else (6, ts)
theorem snF_types (v : List Sn) (n : Str) : snF v n = findT (v.map (·.type)) n :=
  firstIdx_map (by simp) fun i s t h1 h2 => by
    rw [List.getElem?_map, h1] at h2
    simp only [Option.map_some, Option.some.injEq] at h2
    rw [← h2]
theorem doV_types (v : List Sn) (c : Chg) : (doV v c).1 = (doT (v.map (·.type)) c).1 ∧ (doV v c).2.map (·.type) = (doT (v.map (·.type)) c).2 := by
  unfold doV doT
  rw [← snF_types, ← snF_types]
  by_cases h1 : c.kind < 1 ∨ 3 < c.kind
  · rw [if_pos h1, if_pos h1]; exact ⟨rfl, rfl⟩
  rw [if_neg h1, if_neg h1]
  by_cases h2 : snF v c.type < 0
  · rw [if_pos h2, if_pos h2]; exact ⟨rfl, rfl⟩
  rw [if_neg h2, if_neg h2]
  obtain ⟨k, s, hk, hs, hnm, _⟩ := firstIdx_lt (l := v) (p := fun s => decide (s.type.name = c.type)) (by unfold snF at h2; omega)
  have hk : snF v c.type = (k : Int) := hk
  have hst : (v.map (·.type))[k]? = some s.type := by rw [List.getElem?_map, hs]; rfl
  rw [hk]
  simp only [Int.toNat_natCast, hst]
  by_cases h3 : c.kind = 1
  · rw [if_pos h3, if_pos h3]
    by_cases h4 : named c.to = true ∧ ¬ 0 ≤ snF v c.to
    · rw [if_pos h4, if_pos h4]
      exact ⟨rfl, callV_types hs c.to⟩
    · rw [if_neg h4, if_neg h4]; exact ⟨rfl, rfl⟩
  rw [if_neg h3, if_neg h3, hs]
  simp only
  by_cases h5 : fieldF s.type.fields c.field < 0
  · rw [if_pos h5, if_pos h5]; exact ⟨rfl, rfl⟩
  rw [if_neg h5, if_neg h5]
  by_cases h6 : c.kind = 3
  · rw [if_pos h6, if_pos h6]
    exact ⟨rfl, map_modify_type hs _⟩
  rw [if_neg h6, if_neg h6]
  by_cases h7 : named c.to = true ∧ ¬ 0 ≤ fieldF s.type.fields c.to
  · rw [if_pos h7, if_pos h7]
    exact ⟨rfl, map_modify_type hs _⟩
  · rw [if_neg h7, if_neg h7]; exact ⟨rfl, rfl⟩
theorem doAll_types : ∀ {cs : List Chg} {v v' : List Sn} {i j n : Nat}, v.map (·.type) = v'.map (·.type) → i = j + n → (doAll v i cs).2.err = (doAll v' j cs).2.err ∧ ((doAll v i cs).2.err ≠ 0 → (doAll v i cs).2.at_ = (doAll v' j cs).2.at_ + n) ∧ (doAll v i cs).1.map (·.type) = (doAll v' j cs).1.map (·.type)
  | [], v, v', i, j, n, h, _ => ⟨rfl, fun h => absurd rfl h, h⟩
  | c :: cs, v, v', i, j, n, h, hij => by
    have e : ∀ v i, doAll v i (c :: cs) = if (doV v c).1 = 0 then doAll (doV v c).2 (i + 1) cs else ([], ⟨(doV v c).1, i⟩) := fun _ _ => rfl
    rw [e, e]
    have h1 := doV_types v c
    have h2 := doV_types v' c
    rw [← h] at h2
    have h3 : (doV v c).1 = (doV v' c).1 := h1.1.trans h2.1.symm
    have h4 := h1.2.trans h2.2.symm
    by_cases h0 : (doV v c).1 = 0
    · rw [if_pos h0, if_pos (h3 ▸ h0)]
      exact doAll_types h4 (by omega)
    · rw [if_neg h0, if_neg (h3 ▸ h0)]
      refine ⟨h3, fun _ => ?_, rfl⟩
      simp only
      omega
theorem doAll_append : ∀ {a b : List Chg} {v : List Sn} {i : Nat}, doAll v i (a ++ b) = if (doAll v i a).2.err = 0 then doAll (doAll v i a).1 (i + a.length) b else doAll v i a
  | [], b, v, i => by
    have e : doAll v i [] = (v, ⟨0, 0⟩) := rfl
    rw [e, if_pos rfl]
    rfl
  | c :: a, b, v, i => by
    have e : ∀ r, doAll v i (c :: r) = if (doV v c).1 = 0 then doAll (doV v c).2 (i + 1) r else ([], ⟨(doV v c).1, i⟩) := fun _ => rfl
    rw [List.cons_append, e, e]
    by_cases h0 : (doV v c).1 = 0
    · rw [if_pos h0, if_pos h0, doAll_append, List.length_cons, show i + 1 + a.length = i + (a.length + 1) by omega]
    · rw [if_neg h0, if_neg h0, if_neg h0]
theorem see_parts {l : List Typ} {cs : List Chg} {n : Nat} (hn : n ≤ cs.length) (h12 : ¬ 12 < cs.length) :
    ((seeM l (cs.take n)).2.err ≠ 0 → (seeM l cs).2 = (seeM l (cs.take n)).2) ∧
    ((seeM l (cs.take n)).2.err = 0 → (seeM l cs).2.err = (seeM ((seeM l (cs.take n)).1.map (·.type)) (cs.drop n)).2.err ∧
      ((seeM l cs).2.err ≠ 0 → (seeM l cs).2.at_ = (seeM ((seeM l (cs.take n)).1.map (·.type)) (cs.drop n)).2.at_ + n) ∧
      (seeM l cs).1.map (·.type) = (seeM ((seeM l (cs.take n)).1.map (·.type)) (cs.drop n)).1.map (·.type)) := by
  by_cases hw : (wrongT l).err ≠ 0
  · have e : ∀ r, seeM l r = ([], wrongT l) := fun r => if_pos hw
    rw [e, e]
    exact ⟨fun _ => rfl, fun h => absurd h hw⟩
  have e : ∀ r : List Chg, r.length ≤ 12 → seeM l r = doAll (seeInit l) 0 r := fun r hr => by
    unfold seeM
    rw [if_neg hw, if_neg (by omega)]
  have ht : (cs.take n).length ≤ 12 := by rw [List.length_take]; omega
  have e1 : seeM l cs = doAll (seeInit l) 0 (cs.take n ++ cs.drop n) := by rw [List.take_append_drop]; exact e cs (by omega)
  refine ⟨fun h => ?_, fun h => ?_⟩
  · rw [e1, doAll_append, e _ ht]
    rw [e _ ht] at h
    rw [if_neg h]
  · have hr := (seeM_right h).1
    rw [e1, doAll_append]
    rw [e _ ht] at h hr ⊢
    rw [if_pos h]
    have e2 : seeM ((doAll (seeInit l) 0 (cs.take n)).1.map (·.type)) (cs.drop n) = doAll (seeInit ((doAll (seeInit l) 0 (cs.take n)).1.map (·.type))) 0 (cs.drop n) := by
      unfold seeM
      rw [if_neg (by rw [right_iff.2 hr]; exact fun h => h rfl), if_neg (by rw [List.length_drop]; omega)]
    rw [e2]
    have hnl : (cs.take n).length = n := by rw [List.length_take]; omega
    rw [hnl, Nat.zero_add]
    exact doAll_types (by rw [seeInit_types]) (by omega)
theorem doAll_at : ∀ {cs : List Chg} {v : List Sn} {i : Nat}, 0 ≤ (doAll v i cs).2.at_ ∧ (doAll v i cs).2.at_ ≤ (i + cs.length : Nat)
  | [], v, i => ⟨Int.le_refl _, by simp [doAll]⟩
  | c :: cs, v, i => by
    have e : doAll v i (c :: cs) = if (doV v c).1 = 0 then doAll (doV v c).2 (i + 1) cs else ([], ⟨(doV v c).1, i⟩) := rfl
    rw [e]
    by_cases h0 : (doV v c).1 = 0
    · rw [if_pos h0]
      have := doAll_at (cs := cs) (v := (doV v c).2) (i := i + 1)
      simp only [List.length_cons]
      omega
    · rw [if_neg h0]
      simp only [List.length_cons]
      omega
theorem seeM_at {l : List Typ} {cs : List Chg} (h : (wrongT l).err = 0) (h12 : ¬ 12 < cs.length) : 0 ≤ (seeM l cs).2.at_ ∧ (seeM l cs).2.at_ ≤ 12 := by
  have e : seeM l cs = doAll (seeInit l) 0 cs := by
    unfold seeM
    rw [if_neg (by omega), if_neg (by omega)]
  rw [e]
  have := doAll_at (cs := cs) (v := seeInit l) (i := 0)
  omega
end Go.Proofs.Ytgckpmcdlciibaa

namespace Go.Proofs.Ytgckpmcdlciibaa
theorem at_of_nodup {α : Type} {l : List α} {g : α → Str} {k : Nat} {x : α} (h : (l.map g).Nodup) (hk : l[k]? = some x) {p : α → Bool} (hp : ∀ y, p y = decide (g y = g x)) : firstIdx l p = (k : Int) := by
  refine firstIdx_hit hk (by rw [hp]; simp) fun j y hj hy => ?_
  rw [hp]
  refine decide_eq_false fun e => ?_
  rw [List.nodup_iff_pairwise_ne, List.pairwise_iff_getElem] at h
  obtain ⟨h1, rfl⟩ := List.getElem?_eq_some_iff.1 hy
  obtain ⟨h2, rfl⟩ := List.getElem?_eq_some_iff.1 hk
  exact h j k (by simpa using h1) (by simpa using h2) hj (by simpa using e)
theorem not_at {α : Type} {l : List α} {g : α → Str} {n : Str} (h : ¬ n ∈ l.map g) : ¬ 0 ≤ firstIdx l fun x => decide (g x = n) := fun h0 => h (find_mem.1 h0)
theorem findT_at {ts : List Typ} {k : Nat} {t : Typ} (h : (ts.map (·.name)).Nodup) (hk : ts[k]? = some t) : findT ts t.name = (k : Int) := at_of_nodup (g := fun t : Typ => t.name) h hk fun _ => rfl
theorem fieldF_at {fs : List Fld} {k : Nat} {t : Fld} (h : (fs.map (·.name)).Nodup) (hk : fs[k]? = some t) : fieldF fs t.name = (k : Int) := at_of_nodup (g := fun t : Fld => t.name) h hk fun _ => rfl
theorem doT_call {ts : List Typ} {k : Nat} {t : Typ} {to fld : Str} (hr : Right ts) (hk : ts[k]? = some t) (hn : named to = true) (hto : ¬ to ∈ ts.map (·.name)) : doT ts ⟨1, t.name, fld, to⟩ = (0, (ts.set k { t with name := to }).map (reT t.name to)) := by
  unfold doT
  simp only
  rw [if_neg (by omega), findT_at hr.nodup hk, if_neg (by omega)]
  simp only [Int.toNat_natCast, hk]
  rw [if_pos trivial, if_pos ⟨hn, not_at hto⟩]
theorem reT_back {ts : List Typ} {k : Nat} {t : Typ} {to : Str} (hr : Right ts) (hk : ts[k]? = some t) (hto : ¬ to ∈ ts.map (·.name)) :
    ((((ts.set k { t with name := to }).map (reT t.name to)).set k { t with fields := t.fields.map (reF t.name to) }).map (reT to t.name)) = ts := by
  have hreF : ∀ u ∈ ts, ∀ f ∈ u.fields, reF to t.name (reF t.name to f) = f := fun u hu f hf => by
    obtain ⟨_, _, _, _, h4⟩ := (hr.fields u hu).each f hf
    unfold reF
    by_cases h : f.kind ≠ 1 ∧ f.type = t.name
    · rw [if_pos h, if_pos ⟨h.1, rfl⟩, ← h.2]
    · rw [if_neg h]
      refine if_neg fun h2 => hto ?_
      rw [← h2.2]
      exact h4 h2.1
  have hreT : ∀ u ∈ ts, reT to t.name (reT t.name to u) = u := fun u hu => by
    unfold reT
    simp only [List.map_map]
    have : u.fields.map (reF to t.name ∘ reF t.name to) = u.fields := by
      conv => rhs; rw [← List.map_id u.fields]
      exact List.map_congr_left fun f hf => hreF u hu f hf
    rw [this]
  refine List.ext_getElem? fun i => ?_
  rw [List.getElem?_map]
  by_cases hik : i = k
  · subst hik
    have hlt := (List.getElem?_eq_some_iff.1 hk).1
    rw [List.getElem?_set_self (by simpa using hlt), hk]
    simp only [Option.map_some, Option.some.injEq]
    exact hreT t (List.mem_of_getElem? hk)
  · rw [List.getElem?_set_ne (Ne.symm hik), List.getElem?_map, List.getElem?_set_ne (Ne.symm hik)]
    cases hu : ts[i]? with
    | none => rfl
    | some u =>
      simp only [Option.map_some, Option.some.injEq]
      exact hreT u (List.mem_of_getElem? hu)
/-- a type called otherwise, and back -/
theorem doT_back1 {ts : List Typ} {name to f1 f2 : Str} (hr : Right ts) (h : (doT ts ⟨1, name, f1, to⟩).1 = 0) : (doT (doT ts ⟨1, name, f1, to⟩).2 ⟨1, to, f2, name⟩).1 = 0 ∧ (doT (doT ts ⟨1, name, f1, to⟩).2 ⟨1, to, f2, name⟩).2 = ts := by
  have h0 := h
  unfold doT at h
  simp only at h
  rw [if_neg (by omega)] at h
  by_cases h2 : findT ts name < 0
  · rw [if_pos h2] at h; cases h
  rw [if_neg h2] at h
  obtain ⟨k, t, hk, ht, hnm, hkl⟩ := findT_get h2
  rw [hk] at h
  simp only [Int.toNat_natCast, ht, if_true] at h
  by_cases h4 : named to = true ∧ ¬ 0 ≤ findT ts to
  rotate_left
  · rw [if_neg h4] at h; cases h
  subst hnm
  have hto : ¬ to ∈ ts.map (·.name) := fun hm => h4.2 (find_mem.2 hm)
  have e1 := doT_call (fld := f1) hr ht h4.1 hto
  have hr1 := right_call hr ht h4.1 hto
  rw [e1]
  simp only
  have hk1 : ((ts.set k { t with name := to }).map (reT t.name to))[k]? = some { t with name := to, fields := t.fields.map (reF t.name to) } := by
    rw [List.getElem?_map, List.getElem?_set_self hkl]
    rfl
  have hnn : ¬ t.name ∈ ((ts.set k { t with name := to }).map (reT t.name to)).map (·.name) := by
    rw [reT_names, List.map_set]
    intro hm
    obtain ⟨i, hi⟩ := List.getElem?_of_mem hm
    rw [List.getElem?_set] at hi
    split at hi
    · split at hi
      · simp only [Option.some.injEq] at hi
        exact hto (by rw [hi]; exact List.mem_map.2 ⟨t, List.mem_of_getElem? ht, rfl⟩)
      · cases hi
    · rename_i hne
      have hnd := hr.nodup
      rw [List.nodup_iff_pairwise_ne, List.pairwise_iff_getElem] at hnd
      have hkn : (ts.map (·.name))[k]? = some t.name := by rw [List.getElem?_map, ht]; rfl
      obtain ⟨l1, e2⟩ := List.getElem?_eq_some_iff.1 hi
      obtain ⟨l2, e3⟩ := List.getElem?_eq_some_iff.1 hkn
      rcases Nat.lt_or_gt_of_ne hne with hlt | hlt
      · exact hnd k i l2 l1 hlt (e3.trans e2.symm)
      · exact hnd i k l1 l2 hlt (e2.trans e3.symm)
  have e2 := doT_call (fld := f2) hr1 hk1 (hr.names t (List.mem_of_getElem? ht)) hnn
  simp only at e2
  rw [e2]
  exact ⟨rfl, reT_back hr ht hto⟩
theorem doT_field {ts : List Typ} {k f : Nat} {t : Typ} {x : Fld} {to : Str} (hr : Right ts) (hk : ts[k]? = some t) (hx : t.fields[f]? = some x) (hn : named to = true) (hto : ¬ to ∈ t.fields.map (·.name)) : doT ts ⟨2, t.name, x.name, to⟩ = (0, ts.set k { t with fields := t.fields.set f { x with name := to } }) := by
  unfold doT
  simp only
  rw [if_neg (by omega), findT_at hr.nodup hk, if_neg (by omega)]
  simp only [Int.toNat_natCast, hk]
  rw [if_neg (by omega), fieldF_at (hr.fields t (List.mem_of_getElem? hk)).nodup hx, if_neg (by omega), if_neg (by omega), if_pos ⟨hn, not_at hto⟩, Int.toNat_natCast, modify_set hx]
/-- a field called otherwise, and back -/
theorem doT_back2 {ts : List Typ} {name field to : Str} (hr : Right ts) (h : (doT ts ⟨2, name, field, to⟩).1 = 0) : (doT (doT ts ⟨2, name, field, to⟩).2 ⟨2, name, to, field⟩).1 = 0 ∧ (doT (doT ts ⟨2, name, field, to⟩).2 ⟨2, name, to, field⟩).2 = ts := by
  unfold doT at h
  simp only at h
  rw [if_neg (by omega)] at h
  by_cases h2 : findT ts name < 0
  · rw [if_pos h2] at h; cases h
  rw [if_neg h2] at h
  obtain ⟨k, t, hk, ht, hnm, hkl⟩ := findT_get h2
  rw [hk] at h
  simp only [Int.toNat_natCast, ht] at h
  rw [if_neg (by omega)] at h
  by_cases h3 : fieldF t.fields field < 0
  · rw [if_pos h3] at h; cases h
  rw [if_neg h3, if_neg (by omega)] at h
  obtain ⟨f, x, hf, hx, hxn, hfl⟩ := firstIdx_lt (l := t.fields) (p := fun t => decide (t.name = field)) (by unfold fieldF at h3; omega)
  have hxn := of_decide_eq_true hxn
  by_cases h4 : named to = true ∧ ¬ 0 ≤ fieldF t.fields to
  rotate_left
  · rw [if_neg h4] at h; cases h
  subst hnm
  subst hxn
  have hto : ¬ to ∈ t.fields.map (·.name) := fun hm => h4.2 (find_mem.2 hm)
  have hF := hr.fields t (List.mem_of_getElem? ht)
  have e1 := doT_field hr ht hx h4.1 hto
  have hr1 : Right (ts.set k { t with fields := t.fields.set f { x with name := to } }) := right_set hr ht rfl (rightF_name hF hx h4.1 hto)
  rw [e1]
  simp only
  have hk1 : (ts.set k { t with fields := t.fields.set f { x with name := to } })[k]? = some { t with fields := t.fields.set f { x with name := to } } := List.getElem?_set_self hkl
  have hx1 : (t.fields.set f { x with name := to })[f]? = some { x with name := to } := List.getElem?_set_self hfl
  have hnn : ¬ x.name ∈ (t.fields.set f { x with name := to }).map (·.name) := by
    rw [List.map_set]
    intro hm
    obtain ⟨i, hi⟩ := List.getElem?_of_mem hm
    rw [List.getElem?_set] at hi
    split at hi
    · split at hi
      · simp only [Option.some.injEq] at hi
        exact hto (by rw [hi]; exact List.mem_map.2 ⟨x, List.mem_of_getElem? hx, rfl⟩)
      · cases hi
    · rename_i hne
      have hnd := hF.nodup
      rw [List.nodup_iff_pairwise_ne, List.pairwise_iff_getElem] at hnd
      have hkn : (t.fields.map (·.name))[f]? = some x.name := by rw [List.getElem?_map, hx]; rfl
      obtain ⟨l1, e2⟩ := List.getElem?_eq_some_iff.1 hi
      obtain ⟨l2, e3⟩ := List.getElem?_eq_some_iff.1 hkn
      rcases Nat.lt_or_gt_of_ne hne with hlt | hlt
      · exact hnd f i l2 l1 hlt (e3.trans e2.symm)
      · exact hnd i f l1 l2 hlt (e2.trans e3.symm)
  have e2 := doT_field (to := x.name) hr1 hk1 hx1 ((hF.each x (List.mem_of_getElem? hx)).1) hnn
  simp only at e2
  rw [e2]
  refine ⟨rfl, ?_⟩
  simp only
  rw [List.set_set, List.set_set, set_same hx, set_same ht]
theorem see_back {l : List Typ} {cs : List Chg} {a b : Chg} (h : (seeM l cs).2.err = 0) (h12 : cs.length + 2 ≤ 12) (ha : (seeM l (cs ++ [a])).2.err = 0)
    (hb : ∀ ts, Right ts → (doT ts a).1 = 0 → (doT (doT ts a).2 b).1 = 0 ∧ (doT (doT ts a).2 b).2 = ts) : (seeM l (cs ++ [a, b])).2.err = 0 ∧ (seeM l (cs ++ [a, b])).1.map (·.type) = (seeM l cs).1.map (·.type) := by
  obtain ⟨h1, _, h3⟩ := seeM_cases h
  have hr := (seeM_right h).1
  have e : ∀ r : List Chg, r.length ≤ 12 → seeM l r = doAll (seeInit l) 0 r := fun r hr => by
    unfold seeM
    rw [if_neg (by omega), if_neg (by omega)]
  rw [h3] at h hr ⊢
  rw [e _ (by simp; omega), doAll_append, if_pos h] at ha ⊢
  generalize (doAll (seeInit l) 0 cs).1 = v at *
  have e1 : ∀ (v : List Sn) (i : Nat) (c : Chg) (r : List Chg), doAll v i (c :: r) = if (doV v c).1 = 0 then doAll (doV v c).2 (i + 1) r else ([], ⟨(doV v c).1, i⟩) := fun _ _ _ _ => rfl
  have e0 : ∀ (v : List Sn) (i : Nat), doAll v i [] = (v, ⟨0, 0⟩) := fun _ _ => rfl
  rw [e1] at ha ⊢
  have ht := doV_types v a
  by_cases h0 : (doV v a).1 = 0
  rotate_left
  · rw [if_neg h0] at ha
    exact absurd ha h0
  rw [if_pos h0]
  obtain ⟨h5, h6⟩ := hb _ hr (ht.1 ▸ h0)
  rw [e1]
  have ht2 := doV_types (doV v a).2 b
  rw [ht.2] at ht2
  rw [if_pos (ht2.1.trans h5), e0]
  exact ⟨rfl, ht2.2.trans h6⟩
end Go.Proofs.Ytgckpmcdlciibaa

namespace Go.Proofs.Ytgckpmcdlciibaa
open Go.RowKit
def yUser : Str := ⟨#[117, 115, 101, 114]⟩
def yName : Str := ⟨#[110, 97, 109, 101]⟩
def yBoss : Str := ⟨#[98, 111, 115, 115]⟩
def yMan : Str := ⟨#[109, 97, 110]⟩
def yNone : Str := ⟨#[]⟩
def yTypes : List Typ := [⟨yUser, [⟨yName, 1, yNone⟩, ⟨yBoss, 2, yUser⟩]⟩]
def yChgs : List Chg := [⟨1, yUser, yNone, yMan⟩, ⟨3, yMan, yName, yNone⟩]
set_option maxHeartbeats 400000 in
theorem user2_any (w : World) : Calls Try.prog 74 #[] w fun en w' => ∃ v, en = .returned v ∧ Up w w' ∧ SliceOf typLay (fun _ => True) w' v yTypes := by
  refine calls_of_sim Try.func74 rfl (Nat.le_of_ble_eq_true rfl) ?_
  repeat (first | refine RL.vv ?_ | refine RL.p ?_ | refine RL.nil ?_ | refine Sim.seq ?_ | refine Sim.region ?_ | refine Sim.block ?_ | refine Sim.skip ?_ | refine Sim.inBlock ?_ | refine Sim.exit rfl ?_ | refine Sim.condT rfl ?_ | refine Sim.condF rfl ?_)
  refine RL.val trivial rfl (y_build (v := .agg #[.string yName, .int .i64 1, .string yNone]) rfl (fun w => by kernel_rfl)) ?_
  refine RL.val trivial rfl (y_build (v := .agg #[.string yBoss, .int .i64 2, .string yUser]) rfl (fun w => by kernel_rfl)) ?_
  refine RL.bu (el := 118) ([.string yName, .int .i64 1, .string yNone] ++ [.string yBoss, .int .i64 2, .string yUser]) (.refl w) fun b1 w1 _ _ hu _ hb1 => ?_
  have hf : SliceOf fldLay (fun _ => True) w1 (.slice (some ⟨b1, 0, none⟩) 2 2) [⟨yName, 1, yNone⟩, ⟨yBoss, 2, yUser⟩] := SliceOf.lit2 _ _ _ _ hb1.at trivial rfl rfl
  refine RL.val trivial rfl (y_build (v := .agg #[.string yUser, .slice (some ⟨b1, 0, none⟩) 2 2]) rfl (fun w => by kernel_rfl)) ?_
  refine RL.bu (el := 55) [.string yUser, .slice (some ⟨b1, 0, none⟩) 2 2] hu fun b2 w2 _ _ hu h hb2 => ?_
  repeat (first | refine RL.vv ?_ | refine RL.p ?_ | refine RL.nil ?_ | refine Sim.seq ?_ | refine Sim.region ?_ | refine Sim.block ?_ | refine Sim.skip ?_ | refine Sim.inBlock ?_ | refine Sim.exit rfl ?_ | refine Sim.condT rfl ?_ | refine Sim.condF rfl ?_)
  exact Sim.ret1 Try.func74 rfl rfl ⟨_, rfl, hu, SliceOf.one hb2 trivial ⟨_, rfl, hf.up h⟩⟩
theorem seeUser : seeM yTypes yChgs = ([⟨⟨yMan, [⟨yBoss, 2, yMan⟩]⟩, yUser, [yBoss]⟩], ⟨0, 0⟩) := by decide +kernel
set_option maxHeartbeats 1000000 in
theorem alive2_any (w : World) : Calls Try.prog 41 #[] w fun en w' => en = .returned (.bool true) ∧ Up w w' := by
  refine calls_of_sim Try.func41 rfl (Nat.le_of_ble_eq_true rfl) ?_
  repeat (first | refine RL.vv ?_ | refine RL.p ?_ | refine RL.nil ?_ | refine Sim.seq ?_ | refine Sim.region ?_ | refine Sim.block ?_ | refine Sim.skip ?_ | refine Sim.inBlock ?_ | refine Sim.exit rfl ?_ | refine Sim.condT rfl ?_ | refine Sim.condF rfl ?_)
  refine RL.cx (user2_any w) ?_
  rintro _ w1 ⟨v, rfl, hu, hl⟩
  refine ⟨_, rfl, ?_⟩
  obtain ⟨la, lc, rfl, _⟩ := id hl
  refine RL.val trivial rfl (y_build (v := .agg #[.int .i64 1, .string yUser, .string yNone, .string yMan]) rfl (fun w => by kernel_rfl)) ?_
  refine RL.val trivial rfl (y_build (v := .agg #[.int .i64 3, .string yMan, .string yName, .string yNone]) rfl (fun w => by kernel_rfl)) ?_
  refine RL.bu (el := 82) ([.int .i64 1, .string yUser, .string yNone, .string yMan] ++ [.int .i64 3, .string yMan, .string yName, .string yNone]) hu fun b1 w2 _ _ hu h hb1 => ?_
  have hc : SliceOf chgLay (fun _ => True) w2 (.slice (some ⟨b1, 0, none⟩) 2 2) yChgs := SliceOf.lit2 _ _ _ _ hb1.at trivial rfl rfl
  refine RL.cx (See_any w2 (hl.up h) hc) ?_
  rintro _ w3 ⟨v, rfl, h23, hds, lab, hv⟩
  refine ⟨_, rfl, ?_⟩
  have hu := hu.trans h23
  rw [seeUser] at hv ⊢
  have hs := hv.seen
  obtain ⟨sa, sc, rfl, _⟩ := id hs
  obtain ⟨vb, vo, cs, rfl, _, hat, ⟨fv, nv, rfl, hfv, hnv⟩, _⟩ := hs.at (i := 0) rfl
  obtain ⟨fa, fc, rfl, _⟩ := id hfv
  obtain ⟨na, nc, rfl, _⟩ := id hnv
  obtain ⟨fb, fo, cs, rfl, _, hfat, rfl, _⟩ := hfv.at (i := 0) rfl
  obtain ⟨nb, no, cs, rfl, _, hnat, rfl, _⟩ := hnv.at (i := 0) rfl
  have hat : At w3 vb (vo + 0 * 4) _ := hat
  have hfat : At w3 fb (fo + 0 * 3) _ := hfat
  have hnat : At w3 nb (no + 0 * 1) _ := hnat
  unfold fltV
  clear hl hc hb1 h h23 hs hv hfv hnv
  repeat (first | refine RL.vv ?_ | refine RL.p ?_ | refine RL.nil ?_ | refine Sim.seq ?_ | refine Sim.region ?_ | refine Sim.block ?_ | refine Sim.skip ?_ | refine Sim.inBlock ?_ | refine Sim.exit rfl ?_ | refine Sim.condT rfl ?_ | refine Sim.condF rfl ?_)
  refine RL.al (.refl w3) fun b2 w4 _ hle2 h34 _ hb2 => ?_
  repeat (first | refine RL.vv ?_ | refine RL.p ?_ | refine RL.nil ?_ | refine Sim.seq ?_ | refine Sim.region ?_ | refine Sim.block ?_ | refine Sim.skip ?_ | refine Sim.inBlock ?_ | refine Sim.exit rfl ?_ | refine Sim.condT rfl ?_ | refine Sim.condF rfl ?_)
  refine RL.st h34 hb2 hle2 fun w5 h35 _ hb2 => ?_
  have hu := hu.trans h35
  have hat := hat.up h35
  have hfat := hfat.up h35
  have hnat := hnat.up h35
  have ha2 := hb2.at
  clear h34 h35
  repeat (first | refine RL.vv ?_ | refine RL.p ?_ | refine RL.nil ?_ | refine Sim.seq ?_ | refine Sim.region ?_ | refine Sim.block ?_ | refine Sim.skip ?_ | refine Sim.inBlock ?_ | refine Sim.exit rfl ?_ | refine Sim.condT rfl ?_ | refine Sim.condF rfl ?_)
  exact Sim.ret1 Try.func41 rfl rfl ⟨rfl, hu⟩
end Go.Proofs.Ytgckpmcdlciibaa

namespace Go.Proofs.Ytgckpmcdlciibaa
open Go.RowKit
set_option maxHeartbeats 2000000 in
theorem ChangeRight_walk {S S2 : Nat → Prop} {lv cv : Value} {l : List Typ} {cs : List Chg} (w : World) (hl : SliceOf typLay S w lv l) (hcs : SliceOf chgLay S2 w cv cs) :
    Calls Try.prog 10 #[lv, cv] w fun en w' => en = .returned (.bool true) ∧ Up w w' := by
  refine calls_of_sim Try.func10 rfl (Nat.le_of_ble_eq_true rfl) ?_
  obtain ⟨la, lc, rfl, hlnc, hlcm, _⟩ := id hl
  obtain ⟨ca, cc, rfl, _⟩ := id hcs
  unfold maxLen at hlcm
  repeat (first | refine RL.vv ?_ | refine RL.p ?_ | refine RL.nil ?_ | refine Sim.seq ?_ | refine Sim.region ?_ | refine Sim.block ?_ | refine Sim.skip ?_ | refine Sim.inBlock ?_ | refine Sim.exit rfl ?_ | refine Sim.condT rfl ?_ | refine Sim.condF rfl ?_)
  refine RL.cu (.refl w) (alive2_any w) fun w1 hu _ => ?_
  repeat (first | refine RL.vv ?_ | refine RL.p ?_ | refine RL.nil ?_ | refine Sim.seq ?_ | refine Sim.region ?_ | refine Sim.block ?_ | refine Sim.skip ?_ | refine Sim.inBlock ?_ | refine Sim.exit rfl ?_ | refine Sim.condT rfl ?_ | refine Sim.condF rfl ?_)
  refine RL.cx (See_any w1 (hl.up hu) (hcs.up hu)) ?_
  rintro _ w2 ⟨v, rfl, h12, hds, lab, hv⟩
  refine ⟨_, rfl, ?_⟩
  have hu := hu.trans h12
  unfold fltV
  have hs := hv.seen
  obtain ⟨sa, sc, rfl, _, hsm, _⟩ := id hs
  unfold maxLen at hsm
  repeat (first | refine RL.vv ?_ | refine RL.p ?_ | refine RL.nil ?_ | refine Sim.seq ?_ | refine Sim.region ?_ | refine Sim.block ?_ | refine Sim.skip ?_ | refine Sim.inBlock ?_ | refine Sim.exit rfl ?_ | refine Sim.condT rfl ?_ | refine Sim.condF rfl ?_)
  refine RL.al (.refl w2) fun b6 w3 _ hle6 h23 _ hb6 => ?_
  repeat (first | refine RL.vv ?_ | refine RL.p ?_ | refine RL.nil ?_ | refine Sim.seq ?_ | refine Sim.region ?_ | refine Sim.block ?_ | refine Sim.skip ?_ | refine Sim.inBlock ?_ | refine Sim.exit rfl ?_ | refine Sim.condT rfl ?_ | refine Sim.condF rfl ?_)
  refine RL.st h23 hb6 hle6 fun w4 h24 _ hb6 => ?_
  have hu := hu.trans h24
  have hs := hs.up h24
  have ha6 := hb6.at
  clear h12 h23 h24 hv
  by_cases he : (seeM l cs).2.err = 0
  rotate_left
  · have hz : ((seeM l cs).1.length : Int) = 0 := by rw [seeM_err he]; rfl
    repeat (first | refine RL.vv ?_ | refine RL.p ?_ | refine RL.nil ?_ | refine Sim.seq ?_ | refine Sim.region ?_ | refine Sim.block ?_ | refine Sim.skip ?_ | refine Sim.inBlock ?_ | refine Sim.exit rfl ?_ | refine Sim.condT rfl ?_ | refine Sim.condF rfl ?_)
    exact Sim.ret1 Try.func10 rfl rfl ⟨rfl, hu⟩
  obtain ⟨hr, hso⟩ := seeM_right he
  have hlen := hso.len
  have h8 := hr.len
  rw [List.length_map] at h8
  repeat (first | refine RL.vv ?_ | refine RL.p ?_ | refine RL.nil ?_ | refine Sim.seq ?_ | refine Sim.region ?_ | refine Sim.block ?_ | refine Sim.skip ?_ | refine Sim.inBlock ?_ | refine Sim.exit rfl ?_ | refine Sim.condT rfl ?_ | refine Sim.condF rfl ?_)
  refine RL.cx (Types_any w4 hs (by omega)) ?_
  rintro _ w5 ⟨tv, rfl, h45, ht⟩
  refine ⟨_, rfl, ?_⟩
  obtain ⟨ta, tc, rfl, _⟩ := id ht
  refine RL.cu (hu.trans h45) (Wrong_any w5 ht) fun w6 hu h56 => ?_
  have hs := hs.up (h45.trans h56)
  have he2 := right_iff.2 hr
  refine RL.val trivial rfl (y_field (v := .int .i64 (wrongT ((seeM l cs).1.map (·.type))).err) rfl (fun w => by kernel_rfl)) ?_
  generalize hsn : (seeM l cs).1 = sns at *
  clear h45 h56 ht ha6 hb6
  repeat (first | refine RL.vv ?_ | refine RL.p ?_ | refine RL.nil ?_ | refine Sim.seq ?_ | refine Sim.region ?_ | refine Sim.block ?_ | refine Sim.skip ?_ | refine Sim.inBlock ?_ | refine Sim.exit rfl ?_ | refine Sim.condT rfl ?_ | refine Sim.condF rfl ?_)
  refine Sim.loop (σ := Nat) (fun i => [(0, .slice la l.length lc), (5, .slice sa sns.length sc), (35, .int .i64 (sns.length : Int)), (36, .int .i64 (i : Int))]) (fun i w' => i ≤ sns.length ∧ Up w6 w') (fun i => sns.length - i) 0 sb ⟨Nat.zero_le _, .refl _⟩ ?_
  rintro i w7 ⟨hi, h67⟩ next
  by_cases hlt : i < sns.length
  · have hx : sns[i]? = some sns[i] := List.getElem?_eq_getElem hlt
    have hy : l[i]? = some (l[i]'(by omega)) := List.getElem?_eq_getElem (by omega)
    obtain ⟨e1, e2, e3⟩ := hso.at_ i _ _ hx hy
    obtain ⟨vb, vo, cs2, rfl, _, hat, ⟨fv, nv, rfl, hfv, hnv⟩, _⟩ := (hs.up h67).at hx
    obtain ⟨tb, to, cs3, rfl, _, htat, ⟨gv, rfl, hgv⟩, _⟩ := (hl.up (hu.trans h67)).at hy
    have hat : At w7 vb (vo + i * 4) _ := hat
    have htat : At w7 tb (to + i * 2) _ := htat
    generalize sns[i] = s at *
    generalize (l[i]'(by omega)) = t at *
    obtain ⟨fa, fc, rfl, _⟩ := id hfv
    obtain ⟨na, nc, rfl, _⟩ := id hnv
    obtain ⟨ga, gc, rfl, _⟩ := id hgv
    repeat (first | refine RL.vv ?_ | refine RL.p ?_ | refine RL.nil ?_ | refine Sim.seq ?_ | refine Sim.region ?_ | refine Sim.block ?_ | refine Sim.skip ?_ | refine Sim.inBlock ?_ | refine Sim.exit rfl ?_ | refine Sim.condT rfl ?_ | refine Sim.condF rfl ?_)
    refine Sim.q ?_
    repeat (first | refine RQ.vv ?_ | refine RQ.p ?_)
    refine RQ.nil fun w8 hq => ?_
    repeat (first | refine RL.vv ?_ | refine RL.p ?_ | refine RL.nil ?_ | refine Sim.seq ?_ | refine Sim.region ?_ | refine Sim.block ?_ | refine Sim.skip ?_ | refine Sim.inBlock ?_ | refine Sim.exit rfl ?_ | refine Sim.condT rfl ?_ | refine Sim.condF rfl ?_)
    exact next (i + 1) _ _ ⟨by omega, h67.trans hq⟩ (by omega) sb
  · repeat (first | refine RL.vv ?_ | refine RL.p ?_ | refine RL.nil ?_ | refine Sim.seq ?_ | refine Sim.region ?_ | refine Sim.block ?_ | refine Sim.skip ?_ | refine Sim.inBlock ?_ | refine Sim.exit rfl ?_ | refine Sim.condT rfl ?_ | refine Sim.condF rfl ?_)
    exact Sim.ret1 Try.func10 rfl rfl ⟨rfl, hu.trans h67⟩
end Go.Proofs.Ytgckpmcdlciibaa
