/- Several texts in one: Plain functions of chapter 6: what is asked for, of all things together. Plain laws of chapter 6: what is looked up is there. Plain laws of chapter 6: what is meant, as a plain function; in another order. Plain laws of chapter 6: another name; the shape of what is got; another order. Plain laws of chapter 6: in whatever order services stand; what a pick is called. -/
import Derived.Test.YtgckpmcdlciibabZM
import Derived.Test.YtgckpmcdlciibabZP
import Derived.Test.YtgckpmcdlciibabZR
import Derived.Test.YtgckpmcdlciibabZJ
namespace Go.Proofs.Ytgckpmcdlciibab
inductive Gt where
  | mk (name : Str) (kind : Int) (null : Bool) (text : Str) (sub : List Gt) (subs : List (List Gt))
  deriving Inhabited
def findW (l : List Svc) (o : Ownr) (k : Str) : Option Thg := match l[o.service.toNat]? with
  | some s => thingM s.things o.type k
  | none => none
def thereM (l : List Svc) (p : Prt) (k : Str) : Bool := p.homes.any fun h => (findW l h k).isSome
def valM (l : List Svc) (p : Prt) (f : Nat) (k : Str) : Option VVal := match p.owners[f]? with
  | some o => match findW l o k with
    | some x => x.vals.find? fun v => decide (v.field = o.field)
    | none => none
  | none => none
/-- services as they are seen, all together: by seen names -/
structure Sem where
  has : Str → Bool
  fld : Str → Str → Option Fld
  there : Str → Str → Bool
  val : Str → Str → Str → Option VVal
def partM (ps : List Prt) (n : Str) : Option Prt := if partF ps n < 0 then none else ps[(partF ps n).toNat]?
def semOf (l : List Svc) (ps : List Prt) : Sem where
  has n := (partM ps n).isSome
  fld n f := match partM ps n with
    | some p => if fieldF p.type.fields f < 0 then none else p.type.fields[(fieldF p.type.fields f).toNat]?
    | none => none
  there n k := match partM ps n with
    | some p => thereM l p k
    | none => false
  val n f k := match partM ps n with
    | some p => if fieldF p.type.fields f < 0 then none else valM l p (fieldF p.type.fields f).toNat k
    | none => none
def oneOf (nm : Str) (subs : List (List Gt)) : Gt := match subs with
  | [] => .mk nm 2 true ⟨#[]⟩ [] []
  | s :: _ => .mk nm 2 false ⟨#[]⟩ s []
mutual
def pickS (S : Sem) : Pck → Str → Str → Gt
  | .mk a field ps, n, k => match S.fld n field with
    | none => default
    | some f => match S.val n field k with
      | none => .mk (if a = ⟨#[]⟩ then field else a) f.kind true ⟨#[]⟩ [] []
      | some v => if f.kind = 1 then .mk (if a = ⟨#[]⟩ then field else a) f.kind false v.text [] []
        else if f.kind = 2 then oneOf (if a = ⟨#[]⟩ then field else a) ((v.keys.filter (S.there f.type)).map fun x => thingS S ps f.type x)
        else .mk (if a = ⟨#[]⟩ then field else a) f.kind false ⟨#[]⟩ [] ((v.keys.filter (S.there f.type)).map fun x => thingS S ps f.type x)
  termination_by structural p => p
def thingS (S : Sem) : List Pck → Str → Str → List Gt
  | [], _, _ => []
  | p :: r, n, k => pickS S p n k :: thingS S r n k
  termination_by structural p => p
end
end Go.Proofs.Ytgckpmcdlciibab

namespace Go.Proofs.Ytgckpmcdlciibab
structure ValFor (f : Fld) (v : VVal) : Prop where
  word : f.kind = 1 → v.keys = []
  text : f.kind ≠ 1 → v.text = ⟨#[]⟩
  one : f.kind = 2 → v.keys.length ≤ 1
  keys : v.keys.length ≤ 20
structure WholeOk (l : List Svc) (ps : List Prt) : Prop where
  place : ∀ (k : Nat) p, ps[k]? = some p → partF ps p.type.name = (k : Int)
  nodup : ∀ p ∈ ps, (p.type.fields.map (·.name)).Nodup
  len : ∀ p ∈ ps, p.owners.length = p.type.fields.length
  kind : ∀ p ∈ ps, ∀ (k : Nat) f, p.type.fields[k]? = some f → 1 ≤ f.kind ∧ f.kind ≤ 3 ∧ (f.kind ≠ 1 → f.type ∈ ps.map (·.type.name))
  home : ∀ p ∈ ps, ∀ h ∈ p.homes, 0 ≤ h.service ∧ ∃ s, l[h.service.toNat]? = some s
  owner : ∀ p ∈ ps, ∀ (k : Nat) f o, p.type.fields[k]? = some f → p.owners[k]? = some o → 0 ≤ o.service ∧ (∃ s, l[o.service.toNat]? = some s) ∧ ∀ key x, findW l o key = some x → ∃ v, (x.vals.filter fun u => decide (u.field = o.field)) = [v] ∧ v ∈ x.vals ∧ v.field = o.field ∧ ValFor f v
theorem findW_mem {l : List Svc} {o : Ownr} {k : Str} {s : Svc} {x : Thg} (hs : l[o.service.toNat]? = some s) (h : findW l o k = some x) : x ∈ s.things ∧ x.type = o.type ∧ x.key = k := by
  unfold findW at h
  rw [hs] at h
  exact thingM_mem h
theorem owner_val {l : List Svc} {p : Prt} {f : Fld} {o : Ownr} {i : Nat} {s : Svc} {q : Sn} {t : Typ} {m : Nat} (h : OwnedBy l p f o i s q t m) {key : Str} {x : Thg} (hx : findW l o key = some x) : ∃ v, (x.vals.filter fun u => decide (u.field = o.field)) = [v] ∧ v ∈ x.vals ∧ v.field = o.field ∧ ValFor f v := by
  have hs : l[o.service.toNat]? = some s := by rw [h.service, Int.toNat_natCast]; exact h.svc
  obtain ⟨h1, h2, _⟩ := findW_mem hs hx
  obtain ⟨_, j, t', _, h4, h5, h6⟩ := h.right.things x h1
  have htt : t' = t := by
    obtain ⟨i2, hi2⟩ := List.getElem?_of_mem h.seen.type
    have e1 : (s.types.map (·.name))[j]? = some t.name := by rw [List.getElem?_map, h4, ← h.seen.own, h.own, ← h2, ← h5]; rfl
    have e2 : (s.types.map (·.name))[i2]? = some t.name := by rw [List.getElem?_map, hi2]; rfl
    have hij : j = i2 := (List.getElem?_inj (List.getElem?_eq_some_iff.1 e1).1 h.right.types.nodup).1 (e1.trans e2.symm)
    subst hij
    rw [h4] at hi2
    exact Option.some.inj hi2
  subst htt
  have hown : (ownK q)[m]? = some (o.field, f.kind) := by
    unfold ownK
    rw [List.getElem?_zip_eq_some]
    exact ⟨h.ofld, by rw [List.getElem?_map, h.fld]; rfl⟩
  have hmem := h.seen.sub.subset (List.mem_of_getElem? hown)
  obtain ⟨f0, hf0, he⟩ := List.mem_map.1 hmem
  simp only [Prod.mk.injEq] at he
  obtain ⟨i3, hi3⟩ := List.getElem?_of_mem hf0
  have hlt := (List.getElem?_eq_some_iff.1 hi3).1
  have hv : x.vals[i3]? = some (x.vals[i3]'(by rw [h6.len]; exact hlt)) := List.getElem?_eq_getElem _
  have hok := h6.each i3 f0 _ hi3 hv
  have hnd : (x.vals.map (·.field)).Nodup := by rw [h6.names]; exact (h.right.types.fields t' (List.mem_of_getElem? h4)).nodup
  have hvf : (x.vals[i3]'(by rw [h6.len]; exact hlt)).field = o.field := hok.name.trans he.1
  refine ⟨_, ?_, List.mem_of_getElem? hv, hvf, fun hk => hok.word (by rw [he.2]; exact hk), fun hk => hok.text (by rw [he.2]; exact hk), fun hk => hok.one (by rw [he.2]; exact hk), hok.keys⟩
  rw [← hvf]
  exact filter_one hnd (List.mem_of_getElem? hv)
theorem wholeOk {l : List Svc} (h : (allM l).2.err = 0) : WholeOk l (allM l).1 := by
  refine ⟨fun k p hp => part_find h hp, fun p hp => part_nodup h hp, fun p hp => prt_len h hp, fun p hp k f hf => (part_type h hp hf).2, fun p hp o ho => ?_, fun p hp k f o hf ho => ?_⟩
  · obtain ⟨i, s, q, t, h1, h2, _⟩ := part_home h hp ho
    rw [h1, Int.toNat_natCast]
    exact ⟨by omega, s, h2⟩
  · obtain ⟨o', i, s, q, t, m, ho', hb⟩ := part_field h hp hf
    rw [ho] at ho'
    cases ho'
    refine ⟨by rw [hb.service]; omega, ⟨s, by rw [hb.service, Int.toNat_natCast]; exact hb.svc⟩, fun key x hx => owner_val hb hx⟩
theorem partM_at {l : List Svc} {ps : List Prt} (h : WholeOk l ps) {k : Nat} {p : Prt} (hp : ps[k]? = some p) : partM ps p.type.name = some p := by
  unfold partM
  rw [h.place k p hp, if_neg (by omega), Int.toNat_natCast, hp]
theorem partM_mem {l : List Svc} {ps : List Prt} (h : WholeOk l ps) {p : Prt} (hp : p ∈ ps) : partM ps p.type.name = some p := by
  obtain ⟨k, hk⟩ := List.getElem?_of_mem hp
  exact partM_at h hk
theorem partM_name {ps : List Prt} {n : Str} (h : n ∈ ps.map (·.type.name)) : ∃ (k : Nat) (p : Prt), partF ps n = (k : Int) ∧ ps[k]? = some p ∧ p.type.name = n := by
  have h1 : 0 ≤ partF ps n := find_mem.2 h
  obtain ⟨k, p, hk, hp, hn, _⟩ := firstIdx_lt (l := ps) (p := fun p => decide (p.type.name = n)) h1
  exact ⟨k, p, hk, hp, of_decide_eq_true hn⟩
/-- picks that go with a type -/
theorem goes_ok {m : Nat} {ps : List Prt} {n : Str} {picks : List Pck} (h : goesM (m + 1) ps n picks = 0) : ∃ (k : Nat) (p : Prt), partF ps n = (k : Int) ∧ ps[k]? = some p ∧ p.type.name = n ∧
    ∀ (i : Nat) q, picks[i]? = some q → (∃ (j : Nat) (f : Fld), fieldF p.type.fields q.field = (j : Int) ∧ p.type.fields[j]? = some f ∧ f.name = q.field ∧ (f.kind = 1 ↔ q.picks = []) ∧ (q.picks ≠ [] → goesM m ps f.type q.picks = 0)) ∧ ¬ 0 ≤ firstIdx (picks.take i) (fun x => decide (calledM x = calledM q)) := by
  simp only [goesM] at h
  split at h
  · rename_i t ht
    split at h
    · cases h
    rename_i h0
    obtain ⟨k, p, hk, hp, hn, _⟩ := firstIdx_lt (l := ps) (p := fun p => decide (p.type.name = n)) (by unfold partF at h0; omega)
    have hk : partF ps n = (k : Int) := hk
    rw [hk, Int.toNat_natCast, hp] at ht
    cases ht
    refine ⟨k, t, hk, hp, of_decide_eq_true hn, fun i q hq => ?_⟩
    unfold picksErr at h
    have hbad : firstBad (pickErr (goesM m ps) t.type.fields picks) 0 picks = none := by
      split at h
      · rename_i i' e he
        obtain ⟨_, _, _, _, _, hne, _⟩ := firstBad_some he
        exact absurd h hne
      · assumption
    have h2 := firstBad_eq_none hbad i q hq
    rw [Nat.zero_add] at h2
    unfold pickErr at h2
    split at h2
    · cases h2
    rename_i h3
    split at h2
    · cases h2
    rename_i h4
    obtain ⟨j, f, hj, hf, hfn, _⟩ := firstIdx_lt (l := t.type.fields) (p := fun t => decide (t.name = q.field)) (by unfold fieldF at h3; omega)
    have hj : fieldF t.type.fields q.field = (j : Int) := hj
    rw [hj, Int.toNat_natCast, hf] at h2
    simp only at h2
    split at h2
    · cases h2
    rename_i h5
    refine ⟨⟨j, f, hj, hf, of_decide_eq_true hfn, ?_, fun hne => ?_⟩, h4⟩
    · have h6 : (f.kind = 1 ↔ q.picks.length = 0) := by
        by_cases h7 : (f.kind = 1 ↔ q.picks.length = 0)
        · exact h7
        · exact absurd h7 h5
      rw [h6, List.length_eq_zero_iff]
    · rw [if_neg (by rw [List.length_eq_zero_iff]; exact hne)] at h2
      exact h2
  · cases h
def okSmall : Nat → List Pck → Prop
  | 0, _ => True
  | n + 1, ps => ps.length ≤ 60 ∧ ∀ q ∈ ps, okSmall n q.picks
theorem shapeL_small {m : Nat} {sub : List Pck → Int → Int × Int} (hs : ∀ ps k, 0 ≤ k → k ≤ 60 → (sub ps k).1 = 0 → okSmall m ps ∧ k ≤ (sub ps k).2 ∧ (sub ps k).2 ≤ 60) : ∀ (l : List Pck) (n : Int), 0 ≤ n → n ≤ 60 → (shapeL sub l n).1 = 0 → (n + l.length ≤ 60) ∧ ∀ q ∈ l, okSmall m q.picks ∨ q.picks = []
  | [], n, _, hn, _ => ⟨by simpa using hn, fun q hq => by simp at hq⟩
  | p :: r, n, h0, hn, h => by
    simp only [shapeL] at h
    split at h
    · cases h
    rename_i h60
    split at h
    · split at h
      · split at h
        · rename_i h3
          obtain ⟨h4, h5, h6⟩ := hs p.picks (n + 1) (by omega) (by omega) h3
          obtain ⟨h7, h8⟩ := shapeL_small hs r _ (by omega) h6 h
          refine ⟨by simp only [List.length_cons]; omega, fun q hq => ?_⟩
          rcases List.mem_cons.1 hq with rfl | hq
          · exact .inl h4
          · exact h8 q hq
        · rename_i h3
          exact absurd h h3
      · rename_i h3
        obtain ⟨h7, h8⟩ := shapeL_small hs r _ (by omega) (by omega) h
        refine ⟨by simp only [List.length_cons]; omega, fun q hq => ?_⟩
        rcases List.mem_cons.1 hq with rfl | hq
        · exact .inr (List.eq_nil_of_length_eq_zero (by omega))
        · exact h8 q hq
    · cases h
theorem okSmall_nil : ∀ m, okSmall m []
  | 0 => trivial
  | m + 1 => ⟨by simp, fun q hq => by simp at hq⟩
theorem shapeM_small : ∀ (m : Nat) (l : List Pck) (deep n : Int), 0 ≤ n → n ≤ 60 → (shapeM m l deep n).1 = 0 → okSmall m l
  | 0, _, _, _, _, _, _ => trivial
  | m + 1, l, deep, n, h0, hn, h => by
    have h' := h
    simp only [shapeM] at h
    split at h
    · cases h
    split at h
    · cases h
    obtain ⟨h1, h2⟩ := shapeL_small (m := m) (fun ps k hk hk6 he => ⟨shapeM_small m ps (deep + 1) k hk hk6 he, (shapeM_le m ps (deep + 1) k hk6 he).2, (shapeM_le m ps (deep + 1) k hk6 he).1⟩) l n h0 hn h
    refine ⟨by omega, fun q hq => ?_⟩
    rcases h2 q hq with h3 | h3
    · exact h3
    · rw [h3]; exact okSmall_nil m
end Go.Proofs.Ytgckpmcdlciibab

namespace Go.Proofs.Ytgckpmcdlciibab
def fldM (fs : List Fld) (n : Str) : Option Fld := if fieldF fs n < 0 then none else fs[(fieldF fs n).toNat]?
theorem pickErr_fld (sub : Str → List Pck → Int) (fs : List Fld) (ps : List Pck) (i : Nat) (p : Pck) : pickErr sub fs ps i p = match fldM fs p.field with
    | none => 5
    | some f => if 0 ≤ firstIdx (ps.take i) (fun q => decide (calledM q = calledM p)) then 6 else if ¬ (f.kind = 1 ↔ p.picks.length = 0) then 7 else if p.picks.length = 0 then 0 else sub f.type p.picks := by
  unfold pickErr fldM
  by_cases h : fieldF fs p.field < 0
  · rw [if_pos h, if_pos h]
  · rw [if_neg h, if_neg h]
    obtain ⟨j, f, hj, hf, _, _⟩ := firstIdx_lt (l := fs) (p := fun t => decide (t.name = p.field)) (by unfold fieldF at h; omega)
    have hj : fieldF fs p.field = (j : Int) := hj
    rw [hj, Int.toNat_natCast, hf]
theorem goesM_part (m : Nat) (l : List Prt) (n : Str) (ps : List Pck) : goesM (m + 1) l n ps = match partM l n with
    | none => 5
    | some t => picksErr (goesM m l) t.type.fields ps := by
  unfold partM
  simp only [goesM]
  by_cases h : partF l n < 0
  · rw [if_pos h]
    cases l[(partF l n).toNat]? with
    | none => rfl
    | some t => simp only; rw [if_pos h]
  · rw [if_neg h]
    cases l[(partF l n).toNat]? with
    | none => rfl
    | some t => simp only; rw [if_neg h]
theorem fld_part (l : List Svc) (ps : List Prt) (n f : Str) : (semOf l ps).fld n f = match partM ps n with
    | some p => fldM p.type.fields f
    | none => none := rfl
theorem goesM_congr {l l' : List Svc} {ps qs : List Prt} (h1 : ∀ n, (semOf l ps).has n = (semOf l' qs).has n) (h2 : ∀ n f, (semOf l ps).fld n f = (semOf l' qs).fld n f) : ∀ (m : Nat) (n : Str) (picks : List Pck), goesM m ps n picks = goesM m qs n picks
  | 0, _, _ => rfl
  | m + 1, n, picks => by
    have hs : goesM m ps = goesM m qs := by funext n picks; exact goesM_congr h1 h2 m n picks
    rw [goesM_part, goesM_part, hs]
    have h3 := h1 n
    have h4 := h2 n
    simp only [fld_part] at h4
    simp only [semOf] at h3
    cases hp : partM ps n with
    | none =>
      rw [hp] at h3
      cases hq : partM qs n with
      | none => rfl
      | some q => rw [hq] at h3; cases h3
    | some p =>
      rw [hp] at h3 h4
      cases hq : partM qs n with
      | none => rw [hq] at h3; cases h3
      | some q =>
        rw [hq] at h4
        simp only at h4 ⊢
        unfold picksErr
        have : pickErr (goesM m qs) p.type.fields picks = pickErr (goesM m qs) q.type.fields picks := by
          funext i x
          rw [pickErr_fld, pickErr_fld, h4]
        rw [this]
def meanM (m : Nat) (l : List Svc) (a : Ak) : List Gt × Int :=
  if (allM l).2.err = 0 then
    if checkM m (allM l).1 a = 0 then
      if (semOf l (allM l).1).there a.type a.key = true then (thingS (semOf l (allM l).1) a.picks a.type a.key, 0) else ([], 5)
    else ([], checkM m (allM l).1 a)
  else ([], (allM l).2.err)
theorem thingS_app (S : Sem) : ∀ (xs ys : List Pck) (n k : Str), thingS S (xs ++ ys) n k = thingS S xs n k ++ thingS S ys n k
  | [], ys, n, k => by simp [thingS]
  | x :: xs, ys, n, k => by simp [thingS, thingS_app S xs ys n k]
theorem thingS_map (S : Sem) : ∀ (xs : List Pck) (n k : Str), thingS S xs n k = xs.map fun p => pickS S p n k
  | [], n, k => by simp [thingS]
  | x :: xs, n, k => by simp [thingS, thingS_map S xs n k]
theorem thingS_len (S : Sem) (xs : List Pck) (n k : Str) : (thingS S xs n k).length = xs.length := by rw [thingS_map]; simp
theorem checkM_zero {m : Nat} {l : List Prt} {a : Ak} : checkM m l a = 0 ↔ named a.type = true ∧ named a.key = true ∧ (shapeM m a.picks 1 0).1 = 0 ∧ goesM m l a.type a.picks = 0 := by
  unfold checkM wrongAsk
  by_cases h : named a.type = true ∧ named a.key = true
  · rw [if_pos h]
    by_cases h2 : (shapeM m a.picks 1 0).1 = 0
    · rw [if_pos h2]; simp [h, h2]
    · rw [if_neg h2]; simp [h2]
  · rw [if_neg h, if_neg (by decide)]
    simp only [show (6 : Int) = 0 ↔ False from by decide, false_iff]
    exact fun h2 => h ⟨h2.1, h2.2.1⟩
end Go.Proofs.Ytgckpmcdlciibab

namespace Go.Proofs.Ytgckpmcdlciibab
theorem pick_fld {l : List Svc} {ps : List Prt} {p : Prt} {j : Nat} {f : Fld} {n : Str} (h : WholeOk l ps) (hp : p ∈ ps) (hj : fieldF p.type.fields n = (j : Int)) (hf : p.type.fields[j]? = some f) : (semOf l ps).fld p.type.name n = some f := by
  rw [fld_part, partM_mem h hp]
  show fldM p.type.fields n = some f
  unfold fldM
  rw [hj, if_neg (by omega), Int.toNat_natCast, hf]
end Go.Proofs.Ytgckpmcdlciibab

namespace Go.Proofs.Ytgckpmcdlciibab
theorem fieldF_none {fs : List Fld} {n : Str} : fieldF fs n < 0 ↔ ¬ n ∈ fs.map (·.name) := by
  have h : 0 ≤ fieldF fs n ↔ n ∈ fs.map (·.name) := by
    unfold fieldF
    rw [firstIdx_nonneg_iff, List.any_eq_true, List.mem_map]
    simp
  rw [← h]
  omega
end Go.Proofs.Ytgckpmcdlciibab
