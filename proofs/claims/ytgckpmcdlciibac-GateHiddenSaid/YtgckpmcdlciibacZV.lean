/- Several texts in one: Plain functions of chapter 6: what is asked for, of all things together. Plain laws of chapter 6: what is looked up is there. Plain laws of chapter 6: what is meant, as a plain function; in another order. Plain laws of chapter 6: another name; the shape of what is got; another order. Plain laws of chapter 6: in whatever order services stand; what a pick is called. -/
import Derived.Test.YtgckpmcdlciibacZM
import Derived.Test.YtgckpmcdlciibacZP
import Derived.Test.YtgckpmcdlciibacZR
import Derived.Test.YtgckpmcdlciibacZJ
import Derived.Test.YtgckpmcdlciibacZT
namespace Go.Proofs.Ytgckpmcdlciibac
inductive Gt where
  | mk (name : Str) (kind : Int) (null : Bool) (text : Str) (sub : List Gt) (subs : List (List Gt))
  deriving Inhabited
def findW (l : List Svc) (o : Ownr) (k : Str) : Option Thg := match l[o.service.toNat]? with
  | some s => thingM s.things o.type k
  | none => none
def thereM (l : List Svc) (p : Prt) (k : Str) : Bool := p.homes.any fun h => (findW l h k).isSome
def valM (l : List Svc) (p : Prt) (f : Nat) (k : Str) : Option VVal := match p.owners[f]? with
  | some o => match findW l o k with
    | some x => x.vals.find? fun v => decide (v.field = o.field)
    | none => none
  | none => none
/-- services as they are seen, all together: by seen names -/
structure Sem where
  has : Str → Bool
  fld : Str → Str → Option Fld
  there : Str → Str → Bool
  val : Str → Str → Str → Option VVal
def partM (ps : List Prt) (n : Str) : Option Prt := if partF ps n < 0 then none else ps[(partF ps n).toNat]?
def semOf (l : List Svc) (ps : List Prt) : Sem where
  has n := (partM ps n).isSome
  fld n f := match partM ps n with
    | some p => if fieldF p.type.fields f < 0 then none else p.type.fields[(fieldF p.type.fields f).toNat]?
    | none => none
  there n k := match partM ps n with
    | some p => thereM l p k
    | none => false
  val n f k := match partM ps n with
    | some p => if fieldF p.type.fields f < 0 then none else valM l p (fieldF p.type.fields f).toNat k
    | none => none
def oneOf (nm : Str) (subs : List (List Gt)) : Gt := match subs with
  | [] => .mk nm 2 true ⟨#[]⟩ [] []
  | s :: _ => .mk nm 2 false ⟨#[]⟩ s []
mutual
def pickS (S : Sem) : Pck → Str → Str → Gt
  | .mk a field ps, n, k => match S.fld n field with
    | none => default
    | some f => match S.val n field k with
      | none => .mk (if a = ⟨#[]⟩ then field else a) f.kind true ⟨#[]⟩ [] []
      | some v => if f.kind = 1 then .mk (if a = ⟨#[]⟩ then field else a) f.kind false v.text [] []
        else if f.kind = 2 then oneOf (if a = ⟨#[]⟩ then field else a) ((v.keys.filter (S.there f.type)).map fun x => thingS S ps f.type x)
        else .mk (if a = ⟨#[]⟩ then field else a) f.kind false ⟨#[]⟩ [] ((v.keys.filter (S.there f.type)).map fun x => thingS S ps f.type x)
  termination_by structural p => p
def thingS (S : Sem) : List Pck → Str → Str → List Gt
  | [], _, _ => []
  | p :: r, n, k => pickS S p n k :: thingS S r n k
  termination_by structural p => p
end
end Go.Proofs.Ytgckpmcdlciibac

namespace Go.Proofs.Ytgckpmcdlciibac
structure ValFor (f : Fld) (v : VVal) : Prop where
  word : f.kind = 1 → v.keys = []
  text : f.kind ≠ 1 → v.text = ⟨#[]⟩
  one : f.kind = 2 → v.keys.length ≤ 1
  keys : v.keys.length ≤ 20
structure WholeOk (l : List Svc) (ps : List Prt) : Prop where
  place : ∀ (k : Nat) p, ps[k]? = some p → partF ps p.type.name = (k : Int)
  nodup : ∀ p ∈ ps, (p.type.fields.map (·.name)).Nodup
  len : ∀ p ∈ ps, p.owners.length = p.type.fields.length
  kind : ∀ p ∈ ps, ∀ (k : Nat) f, p.type.fields[k]? = some f → 1 ≤ f.kind ∧ f.kind ≤ 3 ∧ (f.kind ≠ 1 → f.type ∈ ps.map (·.type.name))
  home : ∀ p ∈ ps, ∀ h ∈ p.homes, 0 ≤ h.service ∧ ∃ s, l[h.service.toNat]? = some s
  owner : ∀ p ∈ ps, ∀ (k : Nat) f o, p.type.fields[k]? = some f → p.owners[k]? = some o → 0 ≤ o.service ∧ (∃ s, l[o.service.toNat]? = some s) ∧ ∀ key x, findW l o key = some x → ∃ v, (x.vals.filter fun u => decide (u.field = o.field)) = [v] ∧ v ∈ x.vals ∧ v.field = o.field ∧ ValFor f v
theorem findW_mem {l : List Svc} {o : Ownr} {k : Str} {s : Svc} {x : Thg} (hs : l[o.service.toNat]? = some s) (h : findW l o k = some x) : x ∈ s.things ∧ x.type = o.type ∧ x.key = k := by
  unfold findW at h
  rw [hs] at h
  exact thingM_mem h
theorem owner_val {l : List Svc} {p : Prt} {f : Fld} {o : Ownr} {i : Nat} {s : Svc} {q : Sn} {t : Typ} {m : Nat} (h : OwnedBy l p f o i s q t m) {key : Str} {x : Thg} (hx : findW l o key = some x) : ∃ v, (x.vals.filter fun u => decide (u.field = o.field)) = [v] ∧ v ∈ x.vals ∧ v.field = o.field ∧ ValFor f v := by
  have hs : l[o.service.toNat]? = some s := by rw [h.service, Int.toNat_natCast]; exact h.svc
  obtain ⟨h1, h2, _⟩ := findW_mem hs hx
  obtain ⟨_, j, t', _, h4, h5, h6⟩ := h.right.things x h1
  have htt : t' = t := by
    obtain ⟨i2, hi2⟩ := List.getElem?_of_mem h.seen.type
    have e1 : (s.types.map (·.name))[j]? = some t.name := by rw [List.getElem?_map, h4, ← h.seen.own, h.own, ← h2, ← h5]; rfl
    have e2 : (s.types.map (·.name))[i2]? = some t.name := by rw [List.getElem?_map, hi2]; rfl
    have hij : j = i2 := (List.getElem?_inj (List.getElem?_eq_some_iff.1 e1).1 h.right.types.nodup).1 (e1.trans e2.symm)
    subst hij
    rw [h4] at hi2
    exact Option.some.inj hi2
  subst htt
  have hown : (ownK q)[m]? = some (o.field, f.kind) := by
    unfold ownK
    rw [List.getElem?_zip_eq_some]
    exact ⟨h.ofld, by rw [List.getElem?_map, h.fld]; rfl⟩
  have hmem := h.seen.sub.subset (List.mem_of_getElem? hown)
  obtain ⟨f0, hf0, he⟩ := List.mem_map.1 hmem
  simp only [Prod.mk.injEq] at he
  obtain ⟨i3, hi3⟩ := List.getElem?_of_mem hf0
  have hlt := (List.getElem?_eq_some_iff.1 hi3).1
  have hv : x.vals[i3]? = some (x.vals[i3]'(by rw [h6.len]; exact hlt)) := List.getElem?_eq_getElem _
  have hok := h6.each i3 f0 _ hi3 hv
  have hnd : (x.vals.map (·.field)).Nodup := by rw [h6.names]; exact (h.right.types.fields t' (List.mem_of_getElem? h4)).nodup
  have hvf : (x.vals[i3]'(by rw [h6.len]; exact hlt)).field = o.field := hok.name.trans he.1
  refine ⟨_, ?_, List.mem_of_getElem? hv, hvf, fun hk => hok.word (by rw [he.2]; exact hk), fun hk => hok.text (by rw [he.2]; exact hk), fun hk => hok.one (by rw [he.2]; exact hk), hok.keys⟩
  rw [← hvf]
  exact filter_one hnd (List.mem_of_getElem? hv)
theorem wholeOk {l : List Svc} (h : (allM l).2.err = 0) : WholeOk l (allM l).1 := by
  refine ⟨fun k p hp => part_find h hp, fun p hp => part_nodup h hp, fun p hp => prt_len h hp, fun p hp k f hf => (part_type h hp hf).2, fun p hp o ho => ?_, fun p hp k f o hf ho => ?_⟩
  · obtain ⟨i, s, q, t, h1, h2, _⟩ := part_home h hp ho
    rw [h1, Int.toNat_natCast]
    exact ⟨by omega, s, h2⟩
  · obtain ⟨o', i, s, q, t, m, ho', hb⟩ := part_field h hp hf
    rw [ho] at ho'
    cases ho'
    refine ⟨by rw [hb.service]; omega, ⟨s, by rw [hb.service, Int.toNat_natCast]; exact hb.svc⟩, fun key x hx => owner_val hb hx⟩
theorem partM_at {l : List Svc} {ps : List Prt} (h : WholeOk l ps) {k : Nat} {p : Prt} (hp : ps[k]? = some p) : partM ps p.type.name = some p := by
  unfold partM
  rw [h.place k p hp, if_neg (by omega), Int.toNat_natCast, hp]
theorem partM_mem {l : List Svc} {ps : List Prt} (h : WholeOk l ps) {p : Prt} (hp : p ∈ ps) : partM ps p.type.name = some p := by
  obtain ⟨k, hk⟩ := List.getElem?_of_mem hp
  exact partM_at h hk
theorem partM_name {ps : List Prt} {n : Str} (h : n ∈ ps.map (·.type.name)) : ∃ (k : Nat) (p : Prt), partF ps n = (k : Int) ∧ ps[k]? = some p ∧ p.type.name = n := by
  have h1 : 0 ≤ partF ps n := find_mem.2 h
  obtain ⟨k, p, hk, hp, hn, _⟩ := firstIdx_lt (l := ps) (p := fun p => decide (p.type.name = n)) h1
  exact ⟨k, p, hk, hp, of_decide_eq_true hn⟩
/-- picks that go with a type -/
theorem goes_ok {m : Nat} {ps : List Prt} {n : Str} {picks : List Pck} (h : goesM (m + 1) ps n picks = 0) : ∃ (k : Nat) (p : Prt), partF ps n = (k : Int) ∧ ps[k]? = some p ∧ p.type.name = n ∧
    ∀ (i : Nat) q, picks[i]? = some q → (∃ (j : Nat) (f : Fld), fieldF p.type.fields q.field = (j : Int) ∧ p.type.fields[j]? = some f ∧ f.name = q.field ∧ (f.kind = 1 ↔ q.picks = []) ∧ (q.picks ≠ [] → goesM m ps f.type q.picks = 0)) ∧ ¬ 0 ≤ firstIdx (picks.take i) (fun x => decide (calledM x = calledM q)) := by
  simp only [goesM] at h
  split at h
  · rename_i t ht
    split at h
    · cases h
    rename_i h0
    obtain ⟨k, p, hk, hp, hn, _⟩ := firstIdx_lt (l := ps) (p := fun p => decide (p.type.name = n)) (by unfold partF at h0; omega)
    have hk : partF ps n = (k : Int) := hk
    rw [hk, Int.toNat_natCast, hp] at ht
    cases ht
    refine ⟨k, t, hk, hp, of_decide_eq_true hn, fun i q hq => ?_⟩
    unfold picksErr at h
    have hbad : firstBad (pickErr (goesM m ps) t.type.fields picks) 0 picks = none := by
      split at h
      · rename_i i' e he
        obtain ⟨_, _, _, _, _, hne, _⟩ := firstBad_some he
        exact absurd h hne
      · assumption
    have h2 := firstBad_eq_none hbad i q hq
    rw [Nat.zero_add] at h2
    unfold pickErr at h2
    split at h2
    · cases h2
    rename_i h3
    split at h2
    · cases h2
    rename_i h4
    obtain ⟨j, f, hj, hf, hfn, _⟩ := firstIdx_lt (l := t.type.fields) (p := fun t => decide (t.name = q.field)) (by unfold fieldF at h3; omega)
    have hj : fieldF t.type.fields q.field = (j : Int) := hj
    rw [hj, Int.toNat_natCast, hf] at h2
    simp only at h2
    split at h2
    · cases h2
    rename_i h5
    refine ⟨⟨j, f, hj, hf, of_decide_eq_true hfn, ?_, fun hne => ?_⟩, h4⟩
    · have h6 : (f.kind = 1 ↔ q.picks.length = 0) := by
        by_cases h7 : (f.kind = 1 ↔ q.picks.length = 0)
        · exact h7
        · exact absurd h7 h5
      rw [h6, List.length_eq_zero_iff]
    · rw [if_neg (by rw [List.length_eq_zero_iff]; exact hne)] at h2
      exact h2
  · cases h
def okSmall : Nat → List Pck → Prop
  | 0, _ => True
  | n + 1, ps => ps.length ≤ 60 ∧ ∀ q ∈ ps, okSmall n q.picks
theorem shapeL_small {m : Nat} {sub : List Pck → Int → Int × Int} (hs : ∀ ps k, 0 ≤ k → k ≤ 60 → (sub ps k).1 = 0 → okSmall m ps ∧ k ≤ (sub ps k).2 ∧ (sub ps k).2 ≤ 60) : ∀ (l : List Pck) (n : Int), 0 ≤ n → n ≤ 60 → (shapeL sub l n).1 = 0 → (n + l.length ≤ 60) ∧ ∀ q ∈ l, okSmall m q.picks ∨ q.picks = []
  | [], n, _, hn, _ => ⟨by simpa using hn, fun q hq => by simp at hq⟩
  | p :: r, n, h0, hn, h => by
    simp only [shapeL] at h
    split at h
    · cases h
    rename_i h60
    split at h
    · split at h
      · split at h
        · rename_i h3
          obtain ⟨h4, h5, h6⟩ := hs p.picks (n + 1) (by omega) (by omega) h3
          obtain ⟨h7, h8⟩ := shapeL_small hs r _ (by omega) h6 h
          refine ⟨by simp only [List.length_cons]; omega, fun q hq => ?_⟩
          rcases List.mem_cons.1 hq with rfl | hq
          · exact .inl h4
          · exact h8 q hq
        · rename_i h3
          exact absurd h h3
      · rename_i h3
        obtain ⟨h7, h8⟩ := shapeL_small hs r _ (by omega) (by omega) h
        refine ⟨by simp only [List.length_cons]; omega, fun q hq => ?_⟩
        rcases List.mem_cons.1 hq with rfl | hq
        · exact .inr (List.eq_nil_of_length_eq_zero (by omega))
        · exact h8 q hq
    · cases h
theorem okSmall_nil : ∀ m, okSmall m []
  | 0 => trivial
  | m + 1 => ⟨by simp, fun q hq => by simp at hq⟩
theorem shapeM_small : ∀ (m : Nat) (l : List Pck) (deep n : Int), 0 ≤ n → n ≤ 60 → (shapeM m l deep n).1 = 0 → okSmall m l
  | 0, _, _, _, _, _, _ => trivial
  | m + 1, l, deep, n, h0, hn, h => by
    have h' := h
    simp only [shapeM] at h
    split at h
    · cases h
    split at h
    · cases h
    obtain ⟨h1, h2⟩ := shapeL_small (m := m) (fun ps k hk hk6 he => ⟨shapeM_small m ps (deep + 1) k hk hk6 he, (shapeM_le m ps (deep + 1) k hk6 he).2, (shapeM_le m ps (deep + 1) k hk6 he).1⟩) l n h0 hn h
    refine ⟨by omega, fun q hq => ?_⟩
    rcases h2 q hq with h3 | h3
    · exact h3
    · rw [h3]; exact okSmall_nil m
end Go.Proofs.Ytgckpmcdlciibac

namespace Go.Proofs.Ytgckpmcdlciibac
def fldM (fs : List Fld) (n : Str) : Option Fld := if fieldF fs n < 0 then none else fs[(fieldF fs n).toNat]?
theorem pickErr_fld (sub : Str → List Pck → Int) (fs : List Fld) (ps : List Pck) (i : Nat) (p : Pck) : pickErr sub fs ps i p = match fldM fs p.field with
    | none => 5
    | some f => if 0 ≤ firstIdx (ps.take i) (fun q => decide (calledM q = calledM p)) then 6 else if ¬ (f.kind = 1 ↔ p.picks.length = 0) then 7 else if p.picks.length = 0 then 0 else sub f.type p.picks := by
  unfold pickErr fldM
  by_cases h : fieldF fs p.field < 0
  · rw [if_pos h, if_pos h]
  · rw [if_neg h, if_neg h]
    obtain ⟨j, f, hj, hf, _, _⟩ := firstIdx_lt (l := fs) (p := fun t => decide (t.name = p.field)) (by unfold fieldF at h; omega)
    have hj : fieldF fs p.field = (j : Int) := hj
    rw [hj, Int.toNat_natCast, hf]
theorem goesM_part (m : Nat) (l : List Prt) (n : Str) (ps : List Pck) : goesM (m + 1) l n ps = match partM l n with
    | none => 5
    | some t => picksErr (goesM m l) t.type.fields ps := by
  unfold partM
  simp only [goesM]
  by_cases h : partF l n < 0
  · rw [if_pos h]
    cases l[(partF l n).toNat]? with
    | none => rfl
    | some t => simp only; rw [if_pos h]
  · rw [if_neg h]
    cases l[(partF l n).toNat]? with
    | none => rfl
    | some t => simp only; rw [if_neg h]
theorem fld_part (l : List Svc) (ps : List Prt) (n f : Str) : (semOf l ps).fld n f = match partM ps n with
    | some p => fldM p.type.fields f
    | none => none := rfl
theorem goesM_congr {l l' : List Svc} {ps qs : List Prt} (h1 : ∀ n, (semOf l ps).has n = (semOf l' qs).has n) (h2 : ∀ n f, (semOf l ps).fld n f = (semOf l' qs).fld n f) : ∀ (m : Nat) (n : Str) (picks : List Pck), goesM m ps n picks = goesM m qs n picks
  | 0, _, _ => rfl
  | m + 1, n, picks => by
    have hs : goesM m ps = goesM m qs := by funext n picks; exact goesM_congr h1 h2 m n picks
    rw [goesM_part, goesM_part, hs]
    have h3 := h1 n
    have h4 := h2 n
    simp only [fld_part] at h4
    simp only [semOf] at h3
    cases hp : partM ps n with
    | none =>
      rw [hp] at h3
      cases hq : partM qs n with
      | none => rfl
      | some q => rw [hq] at h3; cases h3
    | some p =>
      rw [hp] at h3 h4
      cases hq : partM qs n with
      | none => rw [hq] at h3; cases h3
      | some q =>
        rw [hq] at h4
        simp only at h4 ⊢
        unfold picksErr
        have : pickErr (goesM m qs) p.type.fields picks = pickErr (goesM m qs) q.type.fields picks := by
          funext i x
          rw [pickErr_fld, pickErr_fld, h4]
        rw [this]
theorem checkM_congr {l l' : List Svc} {ps qs : List Prt} (h1 : ∀ n, (semOf l ps).has n = (semOf l' qs).has n) (h2 : ∀ n f, (semOf l ps).fld n f = (semOf l' qs).fld n f) (m : Nat) (a : Ak) : checkM m ps a = checkM m qs a := by
  unfold checkM
  rw [goesM_congr h1 h2]
def meanM (m : Nat) (l : List Svc) (a : Ak) : List Gt × Int :=
  if (allM l).2.err = 0 then
    if checkM m (allM l).1 a = 0 then
      if (semOf l (allM l).1).there a.type a.key = true then (thingS (semOf l (allM l).1) a.picks a.type a.key, 0) else ([], 5)
    else ([], checkM m (allM l).1 a)
  else ([], (allM l).2.err)
theorem meanM_zero {m : Nat} {l : List Svc} {a : Ak} : (meanM m l a).2 = 0 ↔ (allM l).2.err = 0 ∧ checkM m (allM l).1 a = 0 ∧ (semOf l (allM l).1).there a.type a.key = true := by
  unfold meanM
  by_cases h1 : (allM l).2.err = 0
  · rw [if_pos h1]
    by_cases h2 : checkM m (allM l).1 a = 0
    · rw [if_pos h2]
      by_cases h3 : (semOf l (allM l).1).there a.type a.key = true
      · rw [if_pos h3]; simp [h1, h2, h3]
      · rw [if_neg h3]; simp [h3]
    · rw [if_neg h2]; simp [h2]
  · rw [if_neg h1]; simp [h1]
theorem meanM_got {m : Nat} {l : List Svc} {a : Ak} (h : (meanM m l a).2 = 0) : (meanM m l a).1 = thingS (semOf l (allM l).1) a.picks a.type a.key := by
  obtain ⟨h1, h2, h3⟩ := meanM_zero.1 h
  unfold meanM
  rw [if_pos h1, if_pos h2, if_pos h3]
theorem meanM_none {m : Nat} {l : List Svc} {a : Ak} (h : ¬ (meanM m l a).2 = 0) : (meanM m l a).1 = [] := by
  unfold meanM at h ⊢
  split
  · split
    · split
      · rename_i h1 h2 h3
        rw [if_pos h1, if_pos h2, if_pos h3] at h
        exact absurd rfl h
      · rfl
    · rfl
  · rfl
theorem thingS_app (S : Sem) : ∀ (xs ys : List Pck) (n k : Str), thingS S (xs ++ ys) n k = thingS S xs n k ++ thingS S ys n k
  | [], ys, n, k => by simp [thingS]
  | x :: xs, ys, n, k => by simp [thingS, thingS_app S xs ys n k]
theorem thingS_map (S : Sem) : ∀ (xs : List Pck) (n k : Str), thingS S xs n k = xs.map fun p => pickS S p n k
  | [], n, k => by simp [thingS]
  | x :: xs, n, k => by simp [thingS, thingS_map S xs n k]
theorem thingS_len (S : Sem) (xs : List Pck) (n k : Str) : (thingS S xs n k).length = xs.length := by rw [thingS_map]; simp
/-- fewer ahead: right still, and so many more -/
theorem shapeL_shift {sub : List Pck → Int → Int × Int} (hs : ∀ ps k k', k' ≤ k → (sub ps k).1 = 0 → (sub ps k').1 = 0 ∧ (sub ps k').2 = (sub ps k).2 - (k - k')) : ∀ (l : List Pck) (n n' : Int), n' ≤ n → (shapeL sub l n).1 = 0 → (shapeL sub l n').1 = 0 ∧ (shapeL sub l n').2 = (shapeL sub l n).2 - (n - n')
  | [], n, n', _, _ => ⟨rfl, by simp only [shapeL]; omega⟩
  | p :: r, n, n', hn, h => by
    simp only [shapeL] at h ⊢
    split at h
    · cases h
    rename_i h60
    rw [if_neg h60, if_neg (by omega)]
    split at h
    · rename_i h1
      rw [if_pos h1, if_pos h1]
      split at h
      · rename_i h2
        rw [if_pos h2, if_pos h2]
        split at h
        · rename_i h3
          obtain ⟨h4, h5⟩ := hs p.picks (n + 1) (n' + 1) (by omega) h3
          rw [if_pos h3, if_pos h4]
          obtain ⟨h6, h7⟩ := shapeL_shift hs r (sub p.picks (n + 1)).2 (sub p.picks (n' + 1)).2 (by omega) h
          exact ⟨h6, by omega⟩
        · rename_i h3
          exact absurd h h3
      · rename_i h2
        rw [if_neg h2, if_neg h2]
        obtain ⟨h6, h7⟩ := shapeL_shift hs r (n + 1) (n' + 1) (by omega) h
        exact ⟨h6, by omega⟩
    · cases h
theorem shapeM_shift : ∀ (m : Nat) (l : List Pck) (deep n n' : Int), n' ≤ n → (shapeM m l deep n).1 = 0 → (shapeM m l deep n').1 = 0 ∧ (shapeM m l deep n').2 = (shapeM m l deep n).2 - (n - n')
  | 0, l, deep, n, n', _, _ => ⟨rfl, by simp only [shapeM]; omega⟩
  | m + 1, l, deep, n, n', hn, h => by
    simp only [shapeM] at h ⊢
    split at h
    · cases h
    rename_i h1
    rw [if_neg h1, if_neg h1]
    split at h
    · cases h
    rename_i h2
    rw [if_neg h2, if_neg h2]
    exact shapeL_shift (fun ps k k' hk he => shapeM_shift m ps (deep + 1) k k' hk he) l n n' hn h
theorem shapeL_app {sub : List Pck → Int → Int × Int} : ∀ (xs ys : List Pck) (n : Int), (shapeL sub (xs ++ ys) n).1 = 0 → (shapeL sub xs n).1 = 0 ∧ (shapeL sub ys (shapeL sub xs n).2).1 = 0
  | [], ys, n, h => ⟨rfl, h⟩
  | p :: r, ys, n, h => by
    simp only [List.cons_append, shapeL] at h ⊢
    split at h
    · cases h
    rename_i h60
    simp only [if_neg h60]
    split at h
    · rename_i h1
      simp only [if_pos h1]
      split at h
      · rename_i h2
        simp only [if_pos h2]
        split at h
        · rename_i h3
          simp only [if_pos h3]
          exact shapeL_app r ys _ h
        · rename_i h3
          exact absurd h h3
      · rename_i h2
        simp only [if_neg h2]
        exact shapeL_app r ys _ h
    · cases h
theorem shapeL_ge {sub : List Pck → Int → Int × Int} (hs : ∀ ps k, (sub ps k).1 = 0 → k ≤ (sub ps k).2) : ∀ (l : List Pck) (n : Int), (shapeL sub l n).1 = 0 → n ≤ (shapeL sub l n).2
  | [], n, _ => Int.le_refl _
  | p :: r, n, h => by
    simp only [shapeL] at h ⊢
    split at h
    · cases h
    rename_i h60
    rw [if_neg h60]
    split at h
    · rename_i h1
      rw [if_pos h1]
      split at h
      · rename_i h2
        rw [if_pos h2]
        split at h
        · rename_i h3
          rw [if_pos h3]
          have h4 := hs p.picks (n + 1) h3
          have h5 := shapeL_ge hs r _ h
          omega
        · rename_i h3
          exact absurd h h3
      · rename_i h2
        rw [if_neg h2]
        have h5 := shapeL_ge hs r _ h
        omega
    · cases h
theorem shapeM_ge : ∀ (m : Nat) (l : List Pck) (deep n : Int), (shapeM m l deep n).1 = 0 → n ≤ (shapeM m l deep n).2
  | 0, l, deep, n, _ => Int.le_refl _
  | m + 1, l, deep, n, h => by
    simp only [shapeM] at h ⊢
    split at h
    · cases h
    rename_i h1
    rw [if_neg h1]
    split at h
    · cases h
    rename_i h2
    rw [if_neg h2]
    exact shapeL_ge (fun ps k he => shapeM_ge m ps (deep + 1) k he) l n h
/-- a part of picks that have the right form -/
theorem shape_take {m : Nat} {l : List Pck} {deep n : Int} {i : Nat} (h : (shapeM (m + 1) l deep n).1 = 0) (hi : 1 ≤ i) (hl : i ≤ l.length) : (shapeM (m + 1) (l.take i) deep n).1 = 0 := by
  simp only [shapeM] at h ⊢
  split at h
  · cases h
  rename_i h1
  rw [if_neg h1]
  split at h
  · cases h
  rename_i h2
  rw [if_neg (by rw [List.length_take]; omega)]
  rw [← List.take_append_drop i l] at h
  exact (shapeL_app _ _ _ h).1
theorem shape_drop {m : Nat} {l : List Pck} {deep n : Int} {i : Nat} (h : (shapeM (m + 1) l deep n).1 = 0) (hl : i < l.length) : (shapeM (m + 1) (l.drop i) deep n).1 = 0 := by
  simp only [shapeM] at h ⊢
  split at h
  · cases h
  rename_i h1
  rw [if_neg h1]
  split at h
  · cases h
  rename_i h2
  rw [if_neg (by rw [List.length_drop]; omega)]
  rw [← List.take_append_drop i l] at h
  obtain ⟨h3, h4⟩ := shapeL_app _ _ _ h
  exact (shapeL_shift (fun ps k k' hk he => shapeM_shift m ps (deep + 1) k k' hk he) _ _ n (shapeL_ge (fun ps k he => shapeM_ge m ps (deep + 1) k he) _ _ h3) h4).1
theorem picksErr_iff {sub : Str → List Pck → Int} {fs : List Fld} {ps : List Pck} : picksErr sub fs ps = 0 ↔ ∀ (i : Nat) p, ps[i]? = some p → pickErr sub fs ps i p = 0 := by
  unfold picksErr
  constructor
  · intro h i p hp
    split at h
    · rename_i i' e he
      obtain ⟨_, _, _, _, _, hne, _⟩ := firstBad_some he
      exact absurd h hne
    · rename_i he
      have := firstBad_eq_none he i p hp
      rwa [Nat.zero_add] at this
  · intro h
    rw [firstBad_none h]
theorem firstIdx_sub {α : Type} {a b : List α} {p : α → Bool} (hs : ∀ x, x ∈ a → x ∈ b) (h : ¬ 0 ≤ firstIdx b p) : ¬ 0 ≤ firstIdx a p := fun h2 => by
  rw [firstIdx_nonneg_iff] at h h2
  obtain ⟨x, hx, hp⟩ := List.any_eq_true.1 h2
  exact h (List.any_eq_true.2 ⟨x, hs x hx, hp⟩)
theorem pickErr_less {sub : Str → List Pck → Int} {fs : List Fld} {ps qs : List Pck} {i j : Nat} {p : Pck} (hs : ∀ x, x ∈ qs.take j → x ∈ ps.take i) (h : pickErr sub fs ps i p = 0) : pickErr sub fs qs j p = 0 := by
  rw [pickErr_fld] at h ⊢
  split at h
  · cases h
  rename_i f hf
  split at h
  · cases h
  rename_i h1
  rw [if_neg (firstIdx_sub hs h1)]
  exact h
theorem picksErr_take {sub : Str → List Pck → Int} {fs : List Fld} {ps : List Pck} {i : Nat} (h : picksErr sub fs ps = 0) : picksErr sub fs (ps.take i) = 0 := by
  rw [picksErr_iff] at h ⊢
  intro j p hp
  rw [List.getElem?_take] at hp
  split at hp
  · exact pickErr_less (fun x hx => by rw [List.take_take] at hx; exact List.take_subset_take_left _ (Nat.min_le_left _ _) hx) (h j p hp)
  · cases hp
theorem picksErr_drop {sub : Str → List Pck → Int} {fs : List Fld} {ps : List Pck} {i : Nat} (h : picksErr sub fs ps = 0) : picksErr sub fs (ps.drop i) = 0 := by
  rw [picksErr_iff] at h ⊢
  intro j p hp
  rw [List.getElem?_drop] at hp
  refine pickErr_less (fun x hx => ?_) (h (i + j) p hp)
  obtain ⟨n, hn, rfl⟩ := List.mem_iff_getElem.1 hx
  simp only [List.length_take, List.length_drop] at hn
  rw [List.getElem_take, List.getElem_drop]
  refine List.mem_of_getElem? (i := i + n) ?_
  rw [List.getElem?_take, if_pos (by omega)]
  exact List.getElem?_eq_getElem _
theorem goes_take {m : Nat} {l : List Prt} {n : Str} {ps : List Pck} {i : Nat} (h : goesM (m + 1) l n ps = 0) : goesM (m + 1) l n (ps.take i) = 0 := by
  rw [goesM_part] at h ⊢
  split at h
  · cases h
  · exact picksErr_take h
theorem goes_drop {m : Nat} {l : List Prt} {n : Str} {ps : List Pck} {i : Nat} (h : goesM (m + 1) l n ps = 0) : goesM (m + 1) l n (ps.drop i) = 0 := by
  rw [goesM_part] at h ⊢
  split at h
  · cases h
  · exact picksErr_drop h
theorem checkM_zero {m : Nat} {l : List Prt} {a : Ak} : checkM m l a = 0 ↔ named a.type = true ∧ named a.key = true ∧ (shapeM m a.picks 1 0).1 = 0 ∧ goesM m l a.type a.picks = 0 := by
  unfold checkM wrongAsk
  by_cases h : named a.type = true ∧ named a.key = true
  · rw [if_pos h]
    by_cases h2 : (shapeM m a.picks 1 0).1 = 0
    · rw [if_pos h2]; simp [h, h2]
    · rw [if_neg h2]; simp [h2]
  · rw [if_neg h, if_neg (by decide)]
    simp only [show (6 : Int) = 0 ↔ False from by decide, false_iff]
    exact fun h2 => h ⟨h2.1, h2.2.1⟩
theorem check_take {m : Nat} {l : List Prt} {t k : Str} {ps : List Pck} {i : Nat} (h : checkM (m + 1) l ⟨t, k, ps⟩ = 0) (hi : 1 ≤ i) (hl : i ≤ ps.length) : checkM (m + 1) l ⟨t, k, ps.take i⟩ = 0 := by
  obtain ⟨h1, h2, h3, h4⟩ := checkM_zero.1 h
  exact checkM_zero.2 ⟨h1, h2, shape_take h3 hi hl, goes_take h4⟩
theorem check_drop {m : Nat} {l : List Prt} {t k : Str} {ps : List Pck} {i : Nat} (h : checkM (m + 1) l ⟨t, k, ps⟩ = 0) (hl : i < ps.length) : checkM (m + 1) l ⟨t, k, ps.drop i⟩ = 0 := by
  obtain ⟨h1, h2, h3, h4⟩ := checkM_zero.1 h
  exact checkM_zero.2 ⟨h1, h2, shape_drop h3 hl, goes_drop h4⟩
end Go.Proofs.Ytgckpmcdlciibac

namespace Go.Proofs.Ytgckpmcdlciibac
def renP (nm : Str) (p : Pck) : Pck := .mk nm p.field p.picks
/-- a pick called otherwise: right still, or its name is wrong -/
theorem shapeL_ren {sub : List Pck → Int → Int × Int} {nm : Str} : ∀ (l : List Pck) (n : Int) (i : Nat), (shapeL sub l n).1 = 0 → shapeL sub (l.modify i (renP nm)) n = shapeL sub l n ∨ (shapeL sub (l.modify i (renP nm)) n).1 = 6
  | [], n, i, _ => by cases i <;> exact .inl rfl
  | p :: r, n, 0, h => by
    simp only [List.modify_zero_cons, shapeL] at h ⊢
    split at h
    · cases h
    rename_i h60
    simp only [if_neg h60]
    split at h
    · rename_i h1
      simp only [if_pos h1]
      by_cases h2 : named p.field = true ∧ ¬ (¬ nm = ⟨#[]⟩ ∧ named nm = false)
      · have h2' : named (renP nm p).field = true ∧ ¬ (¬ (renP nm p).as = ⟨#[]⟩ ∧ named (renP nm p).as = false) := h2
        simp only [if_pos h2']
        exact .inl rfl
      · have h2' : ¬ (named (renP nm p).field = true ∧ ¬ (¬ (renP nm p).as = ⟨#[]⟩ ∧ named (renP nm p).as = false)) := h2
        simp only [if_neg h2']
        exact .inr trivial
    · cases h
  | p :: r, n, i + 1, h => by
    simp only [List.modify_succ_cons, shapeL] at h ⊢
    split at h
    · cases h
    rename_i h60
    simp only [if_neg h60]
    split at h
    · rename_i h1
      simp only [if_pos h1]
      split at h
      · rename_i h2
        simp only [if_pos h2]
        split at h
        · rename_i h3
          simp only [if_pos h3]
          exact shapeL_ren r _ i h
        · rename_i h3
          exact absurd h h3
      · rename_i h2
        simp only [if_neg h2]
        exact shapeL_ren r _ i h
    · cases h
theorem shapeM_ren {m : Nat} {l : List Pck} {deep n : Int} {i : Nat} {nm : Str} (h : (shapeM (m + 1) l deep n).1 = 0) : (shapeM (m + 1) (l.modify i (renP nm)) deep n).1 = 0 ∨ (shapeM (m + 1) (l.modify i (renP nm)) deep n).1 = 6 := by
  simp only [shapeM, List.length_modify] at h ⊢
  split at h
  · cases h
  rename_i h1
  simp only [if_neg h1]
  split at h
  · cases h
  rename_i h2
  simp only [if_neg h2]
  rcases shapeL_ren (nm := nm) l n i h with h3 | h3
  · rw [h3]; exact .inl h
  · exact .inr h3
theorem pick_ren {sub : Str → List Pck → Int} {fs : List Fld} {ps : List Pck} {i j : Nat} {nm : Str} {p q : Pck} (hp : ps[j]? = some p) (hq : (ps.modify i (renP nm))[j]? = some q) (h : pickErr sub fs ps j p = 0) : pickErr sub fs (ps.modify i (renP nm)) j q = 0 ∨ pickErr sub fs (ps.modify i (renP nm)) j q = 6 := by
  have h1 : q.field = p.field ∧ q.picks = p.picks := by
    rw [List.getElem?_modify, hp] at hq
    have hq : some (if i = j then renP nm p else p) = some q := hq
    cases hq
    split <;> exact ⟨rfl, rfl⟩
  rw [pickErr_fld] at h ⊢
  rw [h1.1, h1.2]
  split at h
  · cases h
  rename_i f hf
  split at h
  · cases h
  show (if 0 ≤ firstIdx ((ps.modify i (renP nm)).take j) (fun x => decide (calledM x = calledM q)) then _ else _) = 0 ∨ (if 0 ≤ firstIdx ((ps.modify i (renP nm)).take j) (fun x => decide (calledM x = calledM q)) then _ else _) = 6
  by_cases h2 : 0 ≤ firstIdx ((ps.modify i (renP nm)).take j) fun x => decide (calledM x = calledM q)
  · rw [if_pos h2]; exact .inr rfl
  · rw [if_neg h2]; exact .inl h
theorem picks_ren {sub : Str → List Pck → Int} {fs : List Fld} {ps : List Pck} {i : Nat} {nm : Str} (h : picksErr sub fs ps = 0) : picksErr sub fs (ps.modify i (renP nm)) = 0 ∨ picksErr sub fs (ps.modify i (renP nm)) = 6 := by
  have h1 := picksErr_iff.1 h
  unfold picksErr
  cases hb : firstBad (pickErr sub fs (ps.modify i (renP nm))) 0 (ps.modify i (renP nm)) with
  | none => exact .inl rfl
  | some x =>
    obtain ⟨k, e⟩ := x
    obtain ⟨q, j, hk, hq, he, hne, _⟩ := firstBad_some hb
    rw [Nat.zero_add] at hk
    subst hk
    have hlt := (List.getElem?_eq_some_iff.1 hq).1
    rw [List.length_modify] at hlt
    rcases pick_ren (List.getElem?_eq_getElem hlt) hq (h1 _ _ (List.getElem?_eq_getElem hlt)) with h2 | h2
    · exact absurd (he.trans h2) hne
    · exact .inr (he.trans h2)
theorem check_ren {m : Nat} {l : List Prt} {t k nm : Str} {ps : List Pck} {i : Nat} (h : checkM (m + 1) l ⟨t, k, ps⟩ = 0) : checkM (m + 1) l ⟨t, k, ps.modify i (renP nm)⟩ = 0 ∨ checkM (m + 1) l ⟨t, k, ps.modify i (renP nm)⟩ = 6 := by
  obtain ⟨h1, h2, h3, h4⟩ := checkM_zero.1 h
  unfold checkM wrongAsk
  simp only at h1 h2
  have h12 : named t = true ∧ named k = true := ⟨h1, h2⟩
  simp only [if_pos h12]
  rcases shapeM_ren (nm := nm) (i := i) h3 with h5 | h5
  · simp only [if_pos h5]
    simp only [goesM_part] at h4 ⊢
    split at h4
    · cases h4
    · exact picks_ren h4
  · rw [h5, if_neg (by decide)]
    exact .inr rfl
def nameG (nm : Str) : Gt → Gt | .mk _ k n t s ss => .mk nm k n t s ss
theorem pickS_ren {S : Sem} {p : Pck} {n k nm : Str} (hf : (S.fld n p.field).isSome) : pickS S (renP nm p) n k = nameG (calledM (renP nm p)) (pickS S p n k) := by
  obtain ⟨a, f, ps⟩ := p
  unfold renP calledM
  simp only [Pck.field] at hf
  show pickS S (.mk nm f ps) n k = nameG (if nm = ⟨#[]⟩ then f else nm) (pickS S (.mk a f ps) n k)
  obtain ⟨fl, hfl⟩ := Option.isSome_iff_exists.1 hf
  simp only [pickS, hfl]
  cases S.val n f k with
  | none => rfl
  | some v =>
    simp only
    split
    · rfl
    split
    · cases (List.map (fun x => thingS S ps fl.type x) (List.filter (S.there fl.type) v.keys)) <;> rfl
    · rfl
theorem nameG_back {g : Gt} {nm nm' : Str} (h : g = nameG nm' g) : nameG nm' (nameG nm g) = g := by
  cases g
  exact h.symm
theorem pickS_name {S : Sem} {p : Pck} {n k : Str} (hf : (S.fld n p.field).isSome) : pickS S p n k = nameG (calledM p) (pickS S p n k) := by
  have := pickS_ren (nm := p.as) (k := k) hf
  have e : renP p.as p = p := by cases p; rfl
  rwa [e] at this
/-- what is got has the shape of what is asked -/
def GotOk (sub : List Gt → List Pck → Prop) (p : Pck) : Gt → Prop
  | .mk nm k nl tx sb ss => nm = calledM p ∧ (nl = true → tx = ⟨#[]⟩ ∧ sb = [] ∧ ss = []) ∧
      (k = 1 ∧ sb = [] ∧ ss = [] ∧ p.picks = [] ∨ k = 2 ∧ tx = ⟨#[]⟩ ∧ ss = [] ∧ (nl = false → sub sb p.picks) ∨ k = 3 ∧ tx = ⟨#[]⟩ ∧ sb = [] ∧ ∀ s ∈ ss, sub s p.picks)
theorem gotOk {sub : List Gt → List Pck → Prop} {p : Pck} {nm : Str} {k : Int} {nl : Bool} {tx : Str} {sb : List Gt} {ss : List (List Gt)} (h : nm = calledM p ∧ (nl = true → tx = ⟨#[]⟩ ∧ sb = [] ∧ ss = []) ∧
      (k = 1 ∧ sb = [] ∧ ss = [] ∧ p.picks = [] ∨ k = 2 ∧ tx = ⟨#[]⟩ ∧ ss = [] ∧ (nl = false → sub sb p.picks) ∨ k = 3 ∧ tx = ⟨#[]⟩ ∧ sb = [] ∧ ∀ s ∈ ss, sub s p.picks)) : GotOk sub p (.mk nm k nl tx sb ss) := h
def ShapeOk : Nat → List Gt → List Pck → Prop
  | 0, l, ps => l.length = ps.length
  | m + 1, l, ps => l.length = ps.length ∧ ∀ (i : Nat) g p, l[i]? = some g → ps[i]? = some p → GotOk (ShapeOk m) p g
theorem pick_fld {l : List Svc} {ps : List Prt} {p : Prt} {j : Nat} {f : Fld} {n : Str} (h : WholeOk l ps) (hp : p ∈ ps) (hj : fieldF p.type.fields n = (j : Int)) (hf : p.type.fields[j]? = some f) : (semOf l ps).fld p.type.name n = some f := by
  rw [fld_part, partM_mem h hp]
  show fldM p.type.fields n = some f
  unfold fldM
  rw [hj, if_neg (by omega), Int.toNat_natCast, hf]
theorem thing_shape {l : List Svc} {ps : List Prt} (h : WholeOk l ps) : ∀ (m : Nat) (n k : Str) (picks : List Pck), goesM m ps n picks = 0 → ShapeOk m (thingS (semOf l ps) picks n k) picks
  | 0, n, k, picks, _ => thingS_len _ _ _ _
  | m + 1, n, k, picks, hg => by
    refine ⟨thingS_len _ _ _ _, fun i g p hgi hpi => ?_⟩
    obtain ⟨kk, t, _, ht, hn, heach⟩ := goes_ok hg
    obtain ⟨⟨j, f, hj, hf, _, hkind, hsub⟩, _⟩ := heach i p hpi
    subst hn
    have htm := List.mem_of_getElem? ht
    have hfl := pick_fld h htm hj hf
    rw [thingS_map, List.getElem?_map, hpi] at hgi
    simp only [Option.map_some, Option.some.injEq] at hgi
    have hk := h.kind t htm j f hf
    have hcall : (if p.as = ⟨#[]⟩ then p.field else p.as) = calledM p := rfl
    have hsv : ∀ v, (semOf l ps).val t.type.name p.field k = some v → ValFor f v := fun v hv => by
      simp only [semOf, partM_mem h htm, hj, Int.toNat_natCast] at hv
      rw [if_neg (by omega)] at hv
      unfold valM at hv
      cases ho : t.owners[j]? with
      | none => rw [ho] at hv; cases hv
      | some o =>
        rw [ho] at hv
        simp only at hv
        cases hw : findW l o k with
        | none => rw [hw] at hv; cases hv
        | some x =>
          rw [hw] at hv
          simp only at hv
          obtain ⟨_, _, hval⟩ := h.owner t htm j f o hf ho
          obtain ⟨v', h1, _, _, h2⟩ := hval k x hw
          rw [← List.head?_filter, h1] at hv
          simp only [List.head?_cons, Option.some.injEq] at hv
          rw [← hv]; exact h2
    obtain ⟨a, fd, pp⟩ := p
    simp only [Pck.field, Pck.picks, Pck.as] at *
    subst hgi
    have hsubs : ∀ x, pp ≠ [] → ShapeOk m (thingS (semOf l ps) pp f.type x) pp := fun x hne => thing_shape h m f.type x pp (hsub hne)
    simp only [pickS, hfl]
    cases hv : (semOf l ps).val t.type.name fd k with
    | none =>
      simp only
      refine gotOk ⟨hcall, fun _ => ⟨rfl, rfl, rfl⟩, ?_⟩
      by_cases h1 : f.kind = 1
      · exact .inl ⟨h1, rfl, rfl, (hkind.1 h1 : pp = [])⟩
      · by_cases h2 : f.kind = 2
        · exact .inr (.inl ⟨h2, rfl, rfl, fun h => by cases h⟩)
        · exact .inr (.inr ⟨by omega, rfl, rfl, fun s hs => by simp at hs⟩)
    | some v =>
      simp only
      by_cases h1 : f.kind = 1
      · simp only [if_pos h1]
        exact gotOk ⟨hcall, fun h => (by cases h), .inl ⟨h1, rfl, rfl, (hkind.1 h1 : pp = [])⟩⟩
      · have hne : pp ≠ [] := fun h => h1 (hkind.2 h)
        by_cases h2 : f.kind = 2
        · simp only [if_neg h1, if_pos h2]
          unfold oneOf
          cases hs : (List.map (fun x => thingS (semOf l ps) pp f.type x) (List.filter ((semOf l ps).there f.type) v.keys)) with
          | nil => exact gotOk ⟨hcall, fun _ => ⟨rfl, rfl, rfl⟩, .inr (.inl ⟨rfl, rfl, rfl, fun h => by cases h⟩)⟩
          | cons s r =>
            have hm : s ∈ (List.map (fun x => thingS (semOf l ps) pp f.type x) (List.filter ((semOf l ps).there f.type) v.keys)) := by rw [hs]; exact List.mem_cons_self
            obtain ⟨x, _, rfl⟩ := List.mem_map.1 hm
            exact gotOk ⟨hcall, fun h => (by cases h), .inr (.inl ⟨rfl, rfl, rfl, fun _ => hsubs x hne⟩)⟩
        · simp only [if_neg h1, if_neg h2]
          refine gotOk ⟨hcall, fun h => (by cases h), .inr (.inr ⟨by omega, rfl, rfl, fun s hs => ?_⟩)⟩
          obtain ⟨x, _, rfl⟩ := List.mem_map.1 hs
          exact hsubs x hne
end Go.Proofs.Ytgckpmcdlciibac

namespace Go.Proofs.Ytgckpmcdlciibac
theorem sem_ext {S T : Sem} (h1 : ∀ n, S.has n = T.has n) (h2 : ∀ n f, S.fld n f = T.fld n f) (h3 : ∀ n k, S.there n k = T.there n k) (h4 : ∀ n f k, S.val n f k = T.val n f k) : S = T := by
  obtain ⟨a1, a2, a3, a4⟩ := S
  obtain ⟨b1, b2, b3, b4⟩ := T
  simp only [Sem.mk.injEq]
  exact ⟨funext h1, funext fun n => funext (h2 n), funext fun n => funext (h3 n), funext fun n => funext fun f => funext (h4 n f)⟩
theorem partF_names {ps qs : List Prt} (h : ps.map (·.type.name) = qs.map (·.type.name)) (n : Str) : partF ps n = partF qs n := by
  have e : ∀ l : List Prt, partF l n = firstIdx (l.map (·.type.name)) (fun x => decide (x = n)) := fun l => by
    unfold partF firstIdx
    rw [List.findIdx?_map]
    rfl
  rw [e, e, h]
def flipO (len : Nat) (o : Ownr) : Ownr := ⟨(len : Int) - 1 - o.service, o.type, o.field⟩
theorem find_flip {l : List Svc} {o o' : Ownr} {k : Str} (h0 : 0 ≤ o.service) (h1 : o.service < l.length) (hs : o'.service = (l.length : Int) - 1 - o.service) (ht : o'.type = o.type) : findW l.reverse o' k = findW l o k := by
  obtain ⟨i, hi⟩ := Int.eq_ofNat_of_zero_le h0
  unfold findW
  have e : (o'.service).toNat = l.length - 1 - i := by omega
  rw [e, ht, hi, Int.toNat_natCast, List.getElem?_reverse (by omega), show l.length - 1 - (l.length - 1 - i) = i by omega]
theorem homes_perm {l : List Svc} (h : (allM l).2.err = 0) {p q : Prt} (hp : p ∈ (allM l).1) (hq : q ∈ (allM l.reverse).1) (hn : q.type.name = p.type.name) : q.homes.Perm (p.homes.map (flipO l.length)) := by
  have h2 := all_rev.2 h
  have e1 : p.homes = homesOf (contribs 0 l) p.type.name := congrArg (fun p : Prt => p.homes) ((allM_canon h).1.eq p hp)
  have e2 : q.homes = homesOf (contribs 0 l.reverse) p.type.name := by rw [← hn]; exact congrArg (fun p : Prt => p.homes) ((allM_canon h2).1.eq q hq)
  rw [e1, e2]
  unfold homesOf mine
  refine (((contribs_rev l).filter _).map _).trans ?_
  rw [List.filter_map, List.map_map, List.map_map]
  exact List.Perm.refl _
theorem fields_perm {l : List Svc} (h : (allM l).2.err = 0) {p q : Prt} (hp : p ∈ (allM l).1) (hq : q ∈ (allM l.reverse).1) (hn : q.type.name = p.type.name) : q.type.fields.Perm p.type.fields := by
  have h2 := all_rev.2 h
  have e1 : p.type.fields = fieldsOf (contribs 0 l) p.type.name := congrArg (fun p : Prt => p.type.fields) ((allM_canon h).1.eq p hp)
  have e2 : q.type.fields = fieldsOf (contribs 0 l.reverse) p.type.name := by rw [← hn]; exact congrArg (fun p : Prt => p.type.fields) ((allM_canon h2).1.eq q hq)
  rw [e1, e2]
  exact fieldsOf_perm (fun i => (l.length : Int) - 1 - i) (contribs_rev l) p.type.name
theorem fieldF_none {fs : List Fld} {n : Str} : fieldF fs n < 0 ↔ ¬ n ∈ fs.map (·.name) := by
  have h : 0 ≤ fieldF fs n ↔ n ∈ fs.map (·.name) := by
    unfold fieldF
    rw [firstIdx_nonneg_iff, List.any_eq_true, List.mem_map]
    simp
  rw [← h]
  omega
theorem partM_turn {l : List Svc} (h : (allM l).2.err = 0) (n : Str) : (partM (allM l).1 n = none ∧ partM (allM l.reverse).1 n = none) ∨ ∃ p q, partM (allM l).1 n = some p ∧ partM (allM l.reverse).1 n = some q ∧ p ∈ (allM l).1 ∧ q ∈ (allM l.reverse).1 ∧ q.type.name = p.type.name ∧ Turned l.length p q := by
  have hf : partF (allM l.reverse).1 n = partF (allM l).1 n := partF_names (names_rev h) n
  unfold partM
  rw [hf]
  by_cases h0 : partF (allM l).1 n < 0
  · rw [if_pos h0, if_pos h0]; exact .inl ⟨rfl, rfl⟩
  · rw [if_neg h0, if_neg h0]
    obtain ⟨i, p, hi, hp, _, _⟩ := firstIdx_lt (l := (allM l).1) (p := fun p => decide (p.type.name = n)) (by unfold partF at h0; omega)
    have hi : partF (allM l).1 n = (i : Int) := hi
    obtain ⟨q, hq, ht⟩ := parts_rev h hp
    rw [hi, Int.toNat_natCast, hp, hq]
    exact .inr ⟨p, q, rfl, rfl, List.mem_of_getElem? hp, List.mem_of_getElem? hq, ht.name, ht⟩
theorem sem_rev {l : List Svc} (h : (allM l).2.err = 0) : semOf l.reverse (allM l.reverse).1 = semOf l (allM l).1 := by
  have h2 := all_rev.2 h
  have hw := wholeOk h
  have hw2 := wholeOk h2
  refine sem_ext (fun n => ?_) (fun n f => ?_) (fun n k => ?_) (fun n f k => ?_)
  · simp only [semOf]
    rcases partM_turn h n with ⟨e1, e2⟩ | ⟨p, q, e1, e2, _⟩ <;> rw [e1, e2] <;> rfl
  · rw [fld_part, fld_part]
    rcases partM_turn h n with ⟨e1, e2⟩ | ⟨p, q, e1, e2, hp, hq, hn, ht⟩
    · rw [e1, e2]
    rw [e1, e2]
    show fldM q.type.fields f = fldM p.type.fields f
    unfold fldM
    by_cases hf : fieldF p.type.fields f < 0
    · have hm := fieldF_none.1 hf
      have hm2 : ¬ f ∈ q.type.fields.map (·.name) := fun hx => hm (((fields_perm h hp hq hn).map _).mem_iff.1 hx)
      rw [if_pos hf, if_pos (fieldF_none.2 hm2)]
    · obtain ⟨j, g, hj, hg, hgn, _⟩ := firstIdx_lt (l := p.type.fields) (p := fun t => decide (t.name = f)) (by unfold fieldF at hf; omega)
      have hj : fieldF p.type.fields f = (j : Int) := hj
      have hgn := of_decide_eq_true hgn
      have hlt := (List.getElem?_eq_some_iff.1 hg).1
      obtain ⟨j2, o2, hj2, hg2, _⟩ := ht.each j g _ hg (List.getElem?_eq_getElem (by rw [hw.len p hp]; exact hlt))
      rw [hgn] at hj2
      rw [hj, hj2, if_neg (by omega), if_neg (by omega), Int.toNat_natCast, Int.toNat_natCast, hg, hg2]
  · simp only [semOf]
    rcases partM_turn h n with ⟨e1, e2⟩ | ⟨p, q, e1, e2, hp, hq, hn, ht⟩
    · rw [e1, e2]
    rw [e1, e2]
    show thereM l.reverse q k = thereM l p k
    unfold thereM
    have hperm := homes_perm h hp hq hn
    have e3 : q.homes.any (fun h => (findW l.reverse h k).isSome) = (p.homes.map (flipO l.length)).any (fun h => (findW l.reverse h k).isSome) := by
      rw [Bool.eq_iff_iff, List.any_eq_true, List.any_eq_true]
      exact ⟨fun ⟨x, hx, hs⟩ => ⟨x, hperm.mem_iff.1 hx, hs⟩, fun ⟨x, hx, hs⟩ => ⟨x, hperm.mem_iff.2 hx, hs⟩⟩
    rw [e3, List.any_map]
    have e4 : ∀ x ∈ p.homes, ((fun h => (findW l.reverse h k).isSome) ∘ flipO l.length) x = (findW l x k).isSome := fun x hx => by
      obtain ⟨h0, s, hs⟩ := hw.home p hp x hx
      have := (List.getElem?_eq_some_iff.1 hs).1
      show (findW l.reverse (flipO l.length x) k).isSome = _
      rw [find_flip (o' := flipO l.length x) h0 (by omega) rfl rfl]
    rw [Bool.eq_iff_iff, List.any_eq_true, List.any_eq_true]
    exact ⟨fun ⟨x, hx, hs⟩ => ⟨x, hx, by rw [← e4 x hx]; exact hs⟩, fun ⟨x, hx, hs⟩ => ⟨x, hx, by rw [e4 x hx]; exact hs⟩⟩
  · simp only [semOf]
    rcases partM_turn h n with ⟨e1, e2⟩ | ⟨p, q, e1, e2, hp, hq, hn, ht⟩
    · rw [e1, e2]
    rw [e1, e2]
    show (if fieldF q.type.fields f < 0 then none else valM l.reverse q (fieldF q.type.fields f).toNat k) = (if fieldF p.type.fields f < 0 then none else valM l p (fieldF p.type.fields f).toNat k)
    by_cases hf : fieldF p.type.fields f < 0
    · have hm := fieldF_none.1 hf
      have hm2 : ¬ f ∈ q.type.fields.map (·.name) := fun hx => hm (((fields_perm h hp hq hn).map _).mem_iff.1 hx)
      rw [if_pos hf, if_pos (fieldF_none.2 hm2)]
    · obtain ⟨j, g, hj, hg, hgn, _⟩ := firstIdx_lt (l := p.type.fields) (p := fun t => decide (t.name = f)) (by unfold fieldF at hf; omega)
      have hj : fieldF p.type.fields f = (j : Int) := hj
      have hgn := of_decide_eq_true hgn
      have hlt := (List.getElem?_eq_some_iff.1 hg).1
      have ho : p.owners[j]? = some (p.owners[j]'(by rw [hw.len p hp]; exact hlt)) := List.getElem?_eq_getElem _
      obtain ⟨j2, o2, hj2, hg2, ho2, hs2, ht2, hf2⟩ := ht.each j g _ hg ho
      obtain ⟨h0, ⟨s, hs⟩, _⟩ := hw.owner p hp j g _ hg ho
      have := (List.getElem?_eq_some_iff.1 hs).1
      rw [hgn] at hj2
      rw [hj, hj2, if_neg (by omega), if_neg (by omega), Int.toNat_natCast, Int.toNat_natCast]
      unfold valM
      rw [ho, ho2]
      simp only
      rw [find_flip h0 (by omega) hs2 ht2, hf2]
theorem mean_rev {m : Nat} {l : List Svc} {a : Ak} (h : (allM l).2.err = 0) : meanM m l.reverse a = meanM m l a := by
  have h2 := all_rev.2 h
  have hs := sem_rev h
  have hc : checkM m (allM l.reverse).1 a = checkM m (allM l).1 a := checkM_congr (l := l.reverse) (l' := l) (fun n => by rw [hs]) (fun n f => by rw [hs]) m a
  unfold meanM
  rw [if_pos h, if_pos h2, hs, hc]
/-- a name is a name -/
theorem names_back {l : List Svc} {ps : List Prt} {m : Nat} {n k nm : Str} {picks : List Pck} {i : Nat} {p : Pck} (hw : WholeOk l ps) (hg : goesM (m + 1) ps n picks = 0) (hp : picks[i]? = some p) :
    ∃ g g', (thingS (semOf l ps) picks n k)[i]? = some g ∧ (thingS (semOf l ps) (picks.modify i (renP nm)) n k)[i]? = some g' ∧ ∀ nm', g = nameG nm' g → (thingS (semOf l ps) (picks.modify i (renP nm)) n k).set i (nameG nm' g') = thingS (semOf l ps) picks n k := by
  obtain ⟨kk, t, _, ht, hn, heach⟩ := goes_ok hg
  obtain ⟨⟨j, f, hj, hf, _⟩, _⟩ := heach i p hp
  subst hn
  have hfl : ((semOf l ps).fld t.type.name p.field).isSome := by rw [pick_fld hw (List.mem_of_getElem? ht) hj hf]; rfl
  rw [thingS_map, thingS_map]
  refine ⟨pickS (semOf l ps) p t.type.name k, pickS (semOf l ps) (renP nm p) t.type.name k, by rw [List.getElem?_map, hp]; rfl, by rw [List.getElem?_map, List.getElem?_modify, hp]; simp, fun nm' hnm => ?_⟩
  rw [pickS_ren hfl, nameG_back hnm]
  refine List.ext_getElem? fun a => ?_
  have hlt := (List.getElem?_eq_some_iff.1 hp).1
  by_cases ha : i = a
  · subst ha
    rw [List.getElem?_set_self (by simpa using hlt), List.getElem?_map, hp]
    rfl
  · rw [List.getElem?_set_ne ha, List.getElem?_map, List.getElem?_map, List.getElem?_modify]
    simp [ha]
end Go.Proofs.Ytgckpmcdlciibac
