/- Several texts in one: Plain functions of chapter 3: the schema of all services. Plain laws of chapter 3: names rise. Plain laws of chapter 3: the schema of all, type by type. Plain laws of chapter 3: where a field of the whole comes from. -/
import Derived.Test.YtgckpmcdlciibabZM
import Derived.Test.YtgckpmcdlciibabZP
namespace Go.Proofs.Ytgckpmcdlciibab
def strLt (a b : Str) : Bool := Op.bytesLess a.data.toList b.data.toList
theorem bytesLess_irrefl : ∀ l : List UInt8, Op.bytesLess l l = false
  | [] => rfl
  | a :: l => by simp [Op.bytesLess, bytesLess_irrefl l]
theorem bytesLess_trans : ∀ {x y z : List UInt8}, Op.bytesLess x y = true → Op.bytesLess y z = true → Op.bytesLess x z = true
  | _, [], _, h, _ => by simp [Op.bytesLess] at h
  | _, _ :: _, [], _, h => by simp [Op.bytesLess] at h
  | [], _ :: _, _ :: _, _, _ => rfl
  | a :: x, b :: y, c :: z, h1, h2 => by
    simp only [Op.bytesLess, Bool.or_eq_true, Bool.and_eq_true, decide_eq_true_eq, beq_iff_eq] at h1 h2 ⊢
    rcases h1 with h1 | ⟨rfl, h1⟩
    · rcases h2 with h2 | ⟨rfl, h2⟩
      · exact .inl (UInt8.lt_trans h1 h2)
      · exact .inl h1
    · rcases h2 with h2 | ⟨rfl, h2⟩
      · exact .inl h2
      · exact .inr ⟨rfl, bytesLess_trans h1 h2⟩
theorem bytesLess_total : ∀ {x y : List UInt8}, Op.bytesLess x y = false → Op.bytesLess y x = false → x = y
  | [], [], _, _ => rfl
  | [], _ :: _, h, _ => by simp [Op.bytesLess] at h
  | _ :: _, [], _, h => by simp [Op.bytesLess] at h
  | a :: x, b :: y, h1, h2 => by
    simp only [Op.bytesLess, Bool.or_eq_false_iff, Bool.and_eq_false_imp, decide_eq_false_iff_not, beq_iff_eq] at h1 h2
    have hab : a = b := UInt8.le_antisymm (UInt8.not_lt.1 h2.1) (UInt8.not_lt.1 h1.1)
    subst hab
    rw [bytesLess_total (h1.2 rfl) (h2.2 rfl)]
theorem str_ext {a b : Str} (h : a.data.toList = b.data.toList) : a = b := by
  cases a; cases b
  congr
  exact Array.toList_inj.1 h
theorem strLt_irrefl (a : Str) : strLt a a = false := bytesLess_irrefl _
theorem strLt_trans {a b c : Str} (h : strLt a b = true) (k : strLt b c = true) : strLt a c = true := bytesLess_trans h k
theorem strLt_total {a b : Str} (h : strLt a b = false) (k : strLt b a = false) : a = b := str_ext (bytesLess_total h k)
/-- where a type's name stands, or would stand -/
def placeP (l : List Prt) (n : Str) : Nat := (l.takeWhile fun p => strLt p.type.name n).length
def hasP (l : List Prt) (n : Str) : Bool := match l[placeP l n]? with
  | some p => decide (p.type.name = n)
  | none => false
def insP (l : List Prt) (n : Str) : List Prt := if hasP l n then l else l.take (placeP l n) ++ ⟨⟨n, []⟩, [], []⟩ :: l.drop (placeP l n)
/-- a type's fields, one by one -/
def addF (i : Int) (own : Str) : Prt → List (Fld × Str) → Option Prt
  | p, [] => some p
  | p, (f, o) :: r => if 0 ≤ fieldF p.type.fields f.name then none else addF i own ⟨⟨p.type.name, p.type.fields ++ [f]⟩, p.owners ++ [⟨i, own, o⟩], p.homes⟩ r
def addM (l : List Prt) (i : Int) (s : Sn) : Option (List Prt) := match (insP l s.type.name)[placeP l s.type.name]? with
  | none => none
  | some p => (addF i s.own ⟨p.type, p.owners, p.homes ++ [⟨i, s.own, ⟨#[]⟩⟩]⟩ (s.type.fields.zip s.fields)).map fun p' => (insP l s.type.name).set (placeP l s.type.name) p'
def addsM (i : Int) : List Prt → List Sn → Option (List Prt)
  | l, [] => some l
  | l, s :: r => (addM l i s).bind fun l' => addsM i l' r
def allGo : List Prt → Nat → List Svc → List Prt × Flt
  | l, _, [] => (l, ⟨0, 0⟩)
  | l, i, s :: r => match addsM i l (seeM s.types s.changes).1 with
    | none => ([], ⟨6, i⟩)
    | some l' => allGo l' (i + 1) r
def allM (l : List Svc) : List Prt × Flt := if (wrongS l).err = 0 then allGo [] 0 l else ([], wrongS l)
/-- names rise -/
def Sorted (l : List Prt) : Prop := l.Pairwise fun p q => strLt p.type.name q.type.name = true
theorem Sorted.lt {l : List Prt} (h : Sorted l) {i j : Nat} {p q : Prt} (hij : i < j) (hi : l[i]? = some p) (hj : l[j]? = some q) : strLt p.type.name q.type.name = true := by
  obtain ⟨h1, rfl⟩ := List.getElem?_eq_some_iff.1 hi
  obtain ⟨h2, rfl⟩ := List.getElem?_eq_some_iff.1 hj
  exact List.pairwise_iff_getElem.1 h i j h1 h2 hij
theorem placeP_le (l : List Prt) (n : Str) : placeP l n ≤ l.length := (List.takeWhile_sublist _).length_le
theorem placeP_below {l : List Prt} {n : Str} {j : Nat} {p : Prt} (hj : j < placeP l n) (hp : l[j]? = some p) : strLt p.type.name n = true := by
  induction l generalizing j with
  | nil => simp at hp
  | cons x l ih =>
    unfold placeP at hj ih
    rw [List.takeWhile_cons] at hj
    split at hj
    · rename_i hx
      cases j with
      | zero => simp at hp; subst hp; exact hx
      | succ j => exact ih (by simpa using hj) (by simpa using hp)
    · simp at hj
theorem placeP_at {l : List Prt} {n : Str} {p : Prt} (hp : l[placeP l n]? = some p) : strLt p.type.name n = false := by
  induction l with
  | nil => simp at hp
  | cons x l ih =>
    unfold placeP at hp ih
    rw [List.takeWhile_cons] at hp
    split at hp
    · exact ih (by simpa using hp)
    · rename_i hx
      simp at hp
      subst hp
      simpa using hx
theorem placeP_eq {l : List Prt} {n : Str} {k : Nat} (hk : k ≤ l.length) (h1 : ∀ (j : Nat) p, j < k → l[j]? = some p → strLt p.type.name n = true) (h2 : ∀ p, l[k]? = some p → strLt p.type.name n = false) : placeP l n = k := by
  rcases Nat.lt_trichotomy (placeP l n) k with h | h | h
  · have hp : l[placeP l n]? = some (l[placeP l n]'(by omega)) := List.getElem?_eq_getElem (by omega)
    have := placeP_at hp
    rw [h1 _ _ h hp] at this
    cases this
  · exact h
  · have hlt : k < l.length := Nat.lt_of_lt_of_le h (placeP_le l n)
    have hp : l[k]? = some l[k] := List.getElem?_eq_getElem hlt
    have := placeP_below h hp
    rw [h2 _ hp] at this
    cases this
end Go.Proofs.Ytgckpmcdlciibab

namespace Go.Proofs.Ytgckpmcdlciibab
theorem sorted_nodup {l : List Prt} (h : Sorted l) : (l.map (·.type.name)).Nodup := by
  rw [List.nodup_iff_pairwise_ne, List.pairwise_map]
  exact h.imp fun {a b} hab e => by rw [e, strLt_irrefl] at hab; cases hab
theorem placeP_name {l : List Prt} {n : Str} (h : Sorted l) {j : Nat} {p : Prt} (hp : l[j]? = some p) (hn : p.type.name = n) : placeP l n = j := by
  refine placeP_eq (Nat.le_of_lt (List.getElem?_eq_some_iff.1 hp).1) (fun m q hm hq => ?_) fun q hq => ?_
  · rw [← hn]; exact h.lt hm hq hp
  · rw [hp] at hq; cases hq; rw [hn, strLt_irrefl]
theorem hasP_iff {l : List Prt} {n : Str} (h : Sorted l) : hasP l n = true ↔ n ∈ l.map (·.type.name) := by
  unfold hasP
  constructor
  · intro h1
    split at h1
    · rename_i p hp
      exact List.mem_map.2 ⟨p, List.mem_of_getElem? hp, of_decide_eq_true h1⟩
    · cases h1
  · intro h1
    obtain ⟨p, hp, hn⟩ := List.mem_map.1 h1
    obtain ⟨j, hj⟩ := List.getElem?_of_mem hp
    rw [placeP_name h hj hn, hj]
    exact decide_eq_true hn
theorem insP_at {l : List Prt} {n : Str} : ∃ p, (insP l n)[placeP l n]? = some p ∧ p.type.name = n ∧ (p ∈ l ∨ p = ⟨⟨n, []⟩, [], []⟩) := by
  unfold insP
  split
  · rename_i h
    unfold hasP at h
    split at h
    · rename_i p hp
      exact ⟨p, hp, of_decide_eq_true h, .inl (List.mem_of_getElem? hp)⟩
    · cases h
  · have hl : (l.take (placeP l n)).length = placeP l n := by
      rw [List.length_take]
      have := placeP_le l n
      omega
    exact ⟨⟨⟨n, []⟩, [], []⟩, by rw [List.getElem?_append_right (by omega), hl]; simp, rfl, .inr rfl⟩
theorem insP_sorted {l : List Prt} {n : Str} (h : Sorted l) : Sorted (insP l n) := by
  unfold insP
  split
  · exact h
  rename_i hno
  have hn : ¬ n ∈ l.map (·.type.name) := fun hm => hno ((hasP_iff h).2 hm)
  have hnm : ∀ (j : Nat) p, l[j]? = some p → p.type.name ≠ n := fun j p hp e => hn (List.mem_map.2 ⟨p, List.mem_of_getElem? hp, e⟩)
  refine List.pairwise_append.2 ⟨h.sublist (List.take_sublist _ _), List.pairwise_cons.2 ⟨fun q hq => ?_, h.sublist (List.drop_sublist _ _)⟩, fun p hp q hq => ?_⟩
  · obtain ⟨m, hm⟩ := List.getElem?_of_mem hq
    rw [List.getElem?_drop] at hm
    have h1 : strLt q.type.name n = false := by
      cases hb : strLt q.type.name n with
      | false => rfl
      | true =>
        have hlt := (List.getElem?_eq_some_iff.1 hm).1
        have h2 : l[placeP l n]? = some (l[placeP l n]'(by omega)) := List.getElem?_eq_getElem (by omega)
        have h3 := placeP_at h2
        by_cases hm0 : m = 0
        · subst hm0
          rw [Nat.add_zero, h2] at hm
          cases hm
          rw [hb] at h3
          cases h3
        · have h4 := h.lt (show placeP l n < placeP l n + m by omega) h2 hm
          rw [strLt_trans h4 hb] at h3
          cases h3
    show strLt n q.type.name = true
    cases hb : strLt n q.type.name with
    | true => rfl
    | false => exact absurd (strLt_total h1 hb) (hnm _ _ hm)
  · obtain ⟨m, hm⟩ := List.getElem?_of_mem hp
    rw [List.getElem?_take] at hm
    split at hm
    · rename_i hlt
      have h1 := placeP_below hlt hm
      rcases List.mem_cons.1 hq with rfl | hq
      · exact h1
      · obtain ⟨j, hj⟩ := List.getElem?_of_mem hq
        rw [List.getElem?_drop] at hj
        exact h.lt (by omega) hm hj
    · cases hm
theorem addF_name {i : Int} {own : Str} : ∀ {r : List (Fld × Str)} {p p' : Prt}, addF i own p r = some p' → p'.type.name = p.type.name
  | [], p, p', h => by simp only [addF, Option.some.injEq] at h; rw [h]
  | (f, o) :: r, p, p', h => by
    simp only [addF] at h
    split at h
    · cases h
    · exact (addF_name h).trans rfl
theorem sorted_set {l : List Prt} {k : Nat} {p p' : Prt} (h : Sorted l) (hp : l[k]? = some p) (hn : p'.type.name = p.type.name) : Sorted (l.set k p') := by
  unfold Sorted at h ⊢
  have e : (l.set k p').map (·.type.name) = l.map (·.type.name) := by
    rw [List.map_set]
    have h1 : (l.map (·.type.name))[k]? = some p'.type.name := by rw [List.getElem?_map, hp, hn]; rfl
    refine List.ext_getElem? fun i => ?_
    by_cases hik : k = i
    · subst hik
      rw [List.getElem?_set_self (List.getElem?_eq_some_iff.1 h1).1, h1]
    · rw [List.getElem?_set_ne hik]
  have h2 : ∀ {l : List Prt}, (l.map (·.type.name)).Pairwise (fun a b => strLt a b = true) ↔ l.Pairwise fun p q => strLt p.type.name q.type.name = true := List.pairwise_map
  rw [← h2, e, h2]
  exact h
theorem addM_sorted {l l' : List Prt} {i : Int} {s : Sn} (h : Sorted l) (ha : addM l i s = some l') : Sorted l' := by
  unfold addM at ha
  split at ha
  · cases ha
  rename_i p hp
  obtain ⟨p', h1, rfl⟩ := Option.map_eq_some_iff.1 ha
  exact sorted_set (insP_sorted h) hp ((addF_name h1).trans rfl)
theorem insP_len (l : List Prt) (n : Str) : (insP l n).length ≤ l.length + 1 := by
  unfold insP
  split
  · omega
  · simp; omega
theorem addM_len {l l' : List Prt} {i : Int} {s : Sn} (ha : addM l i s = some l') : l'.length ≤ l.length + 1 := by
  unfold addM at ha
  split at ha
  · cases ha
  obtain ⟨p', h1, rfl⟩ := Option.map_eq_some_iff.1 ha
  rw [List.length_set]
  exact insP_len _ _
theorem addsM_cons (i : Int) (l : List Prt) (s : Sn) (r : List Sn) : addsM i l (s :: r) = (addM l i s).bind fun l' => addsM i l' r := rfl
theorem allGo_cons (ps : List Prt) (i : Nat) (s : Svc) (r : List Svc) : allGo ps i (s :: r) = match addsM i ps (seeM s.types s.changes).1 with
    | none => ([], ⟨6, i⟩)
    | some l' => allGo l' (i + 1) r := rfl
end Go.Proofs.Ytgckpmcdlciibab

namespace Go.Proofs.Ytgckpmcdlciibab
def mine (cs : List (Int × Sn)) (n : Str) : List (Int × Sn) := cs.filter fun c => decide (c.2.type.name = n)
def fieldsOf (cs : List (Int × Sn)) (n : Str) : List Fld := (mine cs n).flatMap fun c => c.2.type.fields
def ownersOf (cs : List (Int × Sn)) (n : Str) : List Ownr := (mine cs n).flatMap fun c => c.2.fields.map fun o => ⟨c.1, c.2.own, o⟩
def homesOf (cs : List (Int × Sn)) (n : Str) : List Ownr := (mine cs n).map fun c => ⟨c.1, c.2.own, ⟨#[]⟩⟩
def partOf (cs : List (Int × Sn)) (n : Str) : Prt := ⟨⟨n, fieldsOf cs n⟩, ownersOf cs n, homesOf cs n⟩
structure Canon (cs : List (Int × Sn)) (l : List Prt) : Prop where
  sorted : Sorted l
  names : ∀ n, n ∈ l.map (·.type.name) ↔ n ∈ cs.map (·.2.type.name)
  eq : ∀ p ∈ l, p = partOf cs p.type.name
  nodup : ∀ n, ((fieldsOf cs n).map (·.name)).Nodup
theorem mine_app (a b : List (Int × Sn)) (n : Str) : mine (a ++ b) n = mine a n ++ mine b n := List.filter_append ..
theorem mine_one (i : Int) (s : Sn) (n : Str) : mine [(i, s)] n = if s.type.name = n then [(i, s)] else [] := by
  unfold mine
  by_cases h : s.type.name = n <;> simp [h]
theorem mine_nil {cs : List (Int × Sn)} {n : Str} (h : ¬ n ∈ cs.map (·.2.type.name)) : mine cs n = [] := by
  refine List.filter_eq_nil_iff.2 fun c hc hd => h ?_
  exact List.mem_map.2 ⟨c, hc, of_decide_eq_true hd⟩
theorem partOf_other {cs : List (Int × Sn)} {i : Int} {s : Sn} {n : Str} (h : s.type.name ≠ n) : partOf (cs ++ [(i, s)]) n = partOf cs n := by
  unfold partOf fieldsOf ownersOf homesOf
  rw [mine_app, mine_one, if_neg h, List.append_nil]
theorem partOf_same {cs : List (Int × Sn)} {i : Int} {s : Sn} : partOf (cs ++ [(i, s)]) s.type.name = ⟨⟨s.type.name, fieldsOf cs s.type.name ++ s.type.fields⟩, ownersOf cs s.type.name ++ s.fields.map fun o => ⟨i, s.own, o⟩, homesOf cs s.type.name ++ [⟨i, s.own, ⟨#[]⟩⟩]⟩ := by
  unfold partOf fieldsOf ownersOf homesOf
  rw [mine_app, mine_one, if_pos rfl, List.flatMap_append, List.flatMap_append, List.map_append]
  simp
theorem nodup_snoc {l : List Str} {x : Str} : (l ++ [x]).Nodup ↔ l.Nodup ∧ ¬ x ∈ l := by
  rw [List.nodup_append]
  constructor
  · rintro ⟨h1, _, h3⟩
    exact ⟨h1, fun h => h3 x h x (by simp) rfl⟩
  · rintro ⟨h1, h2⟩
    exact ⟨h1, by simp, fun a ha b hb e => by simp at hb; subst hb; subst e; exact h2 ha⟩
theorem addF_some {i : Int} {own : Str} : ∀ {zs : List (Fld × Str)} {p p' : Prt}, addF i own p zs = some p' → (p.type.fields.map (·.name)).Nodup →
    p' = ⟨⟨p.type.name, p.type.fields ++ zs.map (·.1)⟩, p.owners ++ zs.map (fun z => ⟨i, own, z.2⟩), p.homes⟩ ∧ ((p.type.fields ++ zs.map (·.1)).map (·.name)).Nodup
  | [], p, p', h, hn => by
    simp only [addF, Option.some.injEq] at h
    subst h
    simpa using hn
  | (f, o) :: r, p, p', h, hn => by
    simp only [addF] at h
    split at h
    · cases h
    rename_i hc
    have hn2 : ((p.type.fields ++ [f]).map (·.name)).Nodup := by
      rw [List.map_append]
      exact nodup_snoc.2 ⟨hn, fun hm => hc (find_mem.2 hm)⟩
    obtain ⟨h1, h2⟩ := addF_some h hn2
    subst h1
    simp only [List.map_cons, List.append_assoc, List.cons_append, List.nil_append] at h2 ⊢
    exact ⟨trivial, h2⟩
theorem addF_none {i : Int} {own : Str} : ∀ {zs : List (Fld × Str)} {p : Prt}, addF i own p zs = none → ¬ ((p.type.fields ++ zs.map (·.1)).map (·.name)).Nodup
  | [], p, h => by simp [addF] at h
  | (f, o) :: r, p, h => by
    simp only [addF] at h
    split at h
    · rename_i hc
      intro hn
      have hm : f.name ∈ p.type.fields.map (·.name) := find_mem.1 hc
      rw [List.map_cons, List.map_append, List.nodup_append] at hn
      exact hn.2.2 f.name hm f.name (by simp) rfl
    · have := addF_none h
      simpa using this
theorem zip_fst {α β : Type} {a : List α} {b : List β} (h : b.length = a.length) : (a.zip b).map (·.1) = a := by
  rw [← List.unzip_fst, List.unzip_zip (by omega)]
theorem zip_snd {α β γ : Type} {a : List α} {b : List β} (h : b.length = a.length) (g : β → γ) : (a.zip b).map (fun z => g z.2) = b.map g := by
  have : (a.zip b).map (·.2) = b := by rw [← List.unzip_snd, List.unzip_zip (by omega)]
  conv => rhs; rw [← this, List.map_map]
  rfl
theorem Canon.at_ {cs : List (Int × Sn)} {l : List Prt} (h : Canon cs l) (n : Str) : (insP l n)[placeP l n]? = some (partOf cs n) := by
  obtain ⟨p, hp, hn, hm⟩ := insP_at (l := l) (n := n)
  rw [hp]
  congr 1
  rcases hm with h1 | h1
  · rw [h.eq p h1, hn]
  · unfold insP at hp
    by_cases hh : hasP l n = true
    · rw [if_pos hh] at hp
      have := h.eq p (List.mem_of_getElem? hp)
      rw [this, hn]
    · have hnot : ¬ n ∈ cs.map (·.2.type.name) := fun hc => hh ((hasP_iff h.sorted).2 ((h.names n).2 hc))
      rw [h1]
      unfold partOf fieldsOf ownersOf homesOf
      rw [mine_nil hnot]
      rfl
theorem addM_canon {cs : List (Int × Sn)} {l l' : List Prt} {i : Int} {s : Sn} (h : Canon cs l) (hfl : s.fields.length = s.type.fields.length) (ha : addM l i s = some l') : Canon (cs ++ [(i, s)]) l' := by
  have hat := h.at_ s.type.name
  have hso := addM_sorted h.sorted ha
  unfold addM at ha
  rw [hat] at ha
  simp only at ha
  obtain ⟨p', h1, rfl⟩ := Option.map_eq_some_iff.1 ha
  obtain ⟨h2, h3⟩ := addF_some h1 (h.nodup s.type.name)
  rw [zip_fst hfl, zip_snd hfl (fun o => (⟨i, s.own, o⟩ : Ownr))] at h2
  rw [zip_fst hfl] at h3
  have hp' : p' = partOf (cs ++ [(i, s)]) s.type.name := by rw [partOf_same, h2]; rfl
  have hlt := (List.getElem?_eq_some_iff.1 hat).1
  have hnm : ∀ n, n ∈ (insP l s.type.name).map (·.type.name) ↔ n ∈ l.map (·.type.name) ∨ n = s.type.name := fun n => by
    unfold insP
    by_cases hh : hasP l s.type.name = true
    · rw [if_pos hh]
      constructor
      · exact .inl
      · rintro (h | rfl)
        · exact h
        · exact (hasP_iff h.sorted).1 hh
    · rw [if_neg hh]
      conv => rhs; rw [← List.take_append_drop (placeP l s.type.name) l]
      simp only [List.map_append, List.map_cons, List.mem_append, List.mem_cons]
      constructor
      · rintro (h | h | h)
        · exact .inl (.inl h)
        · exact .inr h
        · exact .inl (.inr h)
      · rintro ((h | h) | h)
        · exact .inl h
        · exact .inr (.inr h)
        · exact .inr (.inl h)
  have hsame : ((insP l s.type.name).set (placeP l s.type.name) p').map (·.type.name) = (insP l s.type.name).map (·.type.name) := by
    rw [List.map_set]
    refine List.ext_getElem? fun j => ?_
    by_cases hj : placeP l s.type.name = j
    · subst hj
      rw [List.getElem?_set_self (by simpa using hlt), List.getElem?_map, hat, hp']
      rfl
    · rw [List.getElem?_set_ne hj]
  refine ⟨hso, fun n => ?_, fun p hp => ?_, fun n => ?_⟩
  · rw [hsame, hnm, h.names, List.map_append, List.mem_append]
    simp
  · obtain ⟨j, hj⟩ := List.getElem?_of_mem hp
    by_cases hjk : placeP l s.type.name = j
    · subst hjk
      rw [List.getElem?_set_self hlt] at hj
      cases hj
      rw [hp']
      rfl
    · rw [List.getElem?_set_ne hjk] at hj
      have hne : p.type.name ≠ s.type.name := fun e => by
        have := placeP_name (insP_sorted h.sorted) hj e
        have h5 := placeP_name (n := s.type.name) (insP_sorted (n := s.type.name) h.sorted) hat rfl
        omega
      rw [partOf_other (Ne.symm hne)]
      have hmem := List.mem_of_getElem? hj
      unfold insP at hmem
      split at hmem
      · exact h.eq p hmem
      · rcases List.mem_append.1 hmem with h4 | h4
        · exact h.eq p (List.mem_of_mem_take h4)
        · rcases List.mem_cons.1 h4 with rfl | h4
          · exact absurd rfl hne
          · exact h.eq p (List.mem_of_mem_drop h4)
  · by_cases hn : s.type.name = n
    · subst hn
      have : fieldsOf (cs ++ [(i, s)]) s.type.name = fieldsOf cs s.type.name ++ s.type.fields := congrArg (fun p : Prt => p.type.fields) partOf_same
      rw [this]
      exact h3
    · have : fieldsOf (cs ++ [(i, s)]) n = fieldsOf cs n := congrArg (fun p : Prt => p.type.fields) (partOf_other hn)
      rw [this]
      exact h.nodup n
theorem addM_clash {cs : List (Int × Sn)} {l : List Prt} {i : Int} {s : Sn} (h : Canon cs l) (hfl : s.fields.length = s.type.fields.length) (ha : addM l i s = none) : ¬ ((fieldsOf (cs ++ [(i, s)]) s.type.name).map (·.name)).Nodup := by
  unfold addM at ha
  rw [h.at_] at ha
  simp only [Option.map_eq_none_iff] at ha
  have := addF_none ha
  rw [zip_fst hfl] at this
  have h2 : fieldsOf (cs ++ [(i, s)]) s.type.name = fieldsOf cs s.type.name ++ s.type.fields := congrArg (fun p : Prt => p.type.fields) partOf_same
  rw [h2]
  exact this
theorem nodup_left {cs ds : List (Int × Sn)} {n : Str} (h : ((fieldsOf (cs ++ ds) n).map (·.name)).Nodup) : ((fieldsOf cs n).map (·.name)).Nodup := by
  unfold fieldsOf at h ⊢
  rw [mine_app, List.flatMap_append, List.map_append] at h
  exact (List.nodup_append.1 h).1
theorem addsM_canon {i : Int} : ∀ {sns : List Sn} {cs : List (Int × Sn)} {l : List Prt}, Canon cs l → (∀ s ∈ sns, s.fields.length = s.type.fields.length) →
    (∀ l', addsM i l sns = some l' → Canon (cs ++ sns.map fun s => (i, s)) l') ∧ (addsM i l sns = none → ∃ n, ¬ ((fieldsOf (cs ++ sns.map fun s => (i, s)) n).map (·.name)).Nodup)
  | [], cs, l, h, _ => ⟨fun l' hl => by simp only [addsM, Option.some.injEq] at hl; subst hl; simpa using h, fun h => by cases h⟩
  | s :: r, cs, l, h, hfl => by
    rw [addsM_cons]
    have e : cs ++ (s :: r).map (fun s => (i, s)) = (cs ++ [(i, s)]) ++ r.map fun s => (i, s) := by simp
    rw [e]
    cases ha : addM l i s with
    | none =>
      refine ⟨(by intro l' hl; cases hl), fun _ => ⟨s.type.name, fun hn => addM_clash h (hfl s (by simp)) ha (nodup_left hn)⟩⟩
    | some l1 => exact addsM_canon (addM_canon h (hfl s (by simp)) ha) fun q hq => hfl q (by simp [hq])
/-- what each service brings -/
def contribs : Nat → List Svc → List (Int × Sn)
  | _, [] => []
  | i, s :: r => (seeM s.types s.changes).1.map (fun q => ((i : Int), q)) ++ contribs (i + 1) r
theorem seeM_flat {s : Svc} (h : RightS s) : ∀ q ∈ (seeM s.types s.changes).1, q.fields.length = q.type.fields.length := fun q hq => by
  obtain ⟨_, hso⟩ := seeM_right h.see
  obtain ⟨i, hi⟩ := List.getElem?_of_mem hq
  have hlt := (List.getElem?_eq_some_iff.1 hi).1
  exact (hso.at_ i q _ hi (List.getElem?_eq_getElem (by rw [← hso.len]; exact hlt))).2.2
theorem allGo_canon : ∀ {l : List Svc} {i : Nat} {cs : List (Int × Sn)} {ps : List Prt}, Canon cs ps → (∀ s ∈ l, RightS s) →
    ((allGo ps i l).2.err = 0 ∧ (allGo ps i l).2 = ⟨0, 0⟩ ∧ Canon (cs ++ contribs i l) (allGo ps i l).1) ∨ ((allGo ps i l).2.err = 6 ∧ (allGo ps i l).1 = [] ∧ ∃ n, ¬ ((fieldsOf (cs ++ contribs i l) n).map (·.name)).Nodup)
  | [], i, cs, ps, h, _ => .inl ⟨rfl, rfl, by simpa [contribs, allGo] using h⟩
  | s :: r, i, cs, ps, h, hr => by
    rw [allGo_cons]
    have e : cs ++ contribs i (s :: r) = (cs ++ (seeM s.types s.changes).1.map (fun q => ((i : Int), q))) ++ contribs (i + 1) r := by rw [List.append_assoc]; rfl
    rw [e]
    obtain ⟨h1, h2⟩ := addsM_canon (i := (i : Int)) h (seeM_flat (hr s (by simp)))
    cases ha : addsM (i : Int) ps (seeM s.types s.changes).1 with
    | none =>
      obtain ⟨n, hn⟩ := h2 ha
      exact .inr ⟨rfl, rfl, n, fun h => hn (nodup_left h)⟩
    | some l1 => exact allGo_canon (h1 l1 ha) fun q hq => hr q (by simp [hq])
theorem Canon.nil : Canon [] [] := ⟨List.Pairwise.nil, fun n => by simp, fun p hp => by simp at hp, fun n => by simp [fieldsOf, mine]⟩
/-- all go together just if every service is right and no field has two owners -/
theorem allM_iff {l : List Svc} : (allM l).2.err = 0 ↔ (wrongS l).err = 0 ∧ ∀ n, ((fieldsOf (contribs 0 l) n).map (·.name)).Nodup := by
  unfold allM
  by_cases h : (wrongS l).err = 0
  · rw [if_pos h]
    rcases allGo_canon (i := 0) Canon.nil (wrongS_iff.1 h).2 with ⟨h1, _, h3⟩ | ⟨h1, _, n, h3⟩
    · exact ⟨fun _ => ⟨h, by simpa using h3.nodup⟩, fun _ => h1⟩
    · refine ⟨(by intro h4; rw [h1] at h4; cases h4), fun h4 => absurd (h4.2 n) (by simpa using h3)⟩
  · rw [if_neg h]
    exact ⟨fun h1 => absurd h1 h, fun h1 => absurd h1.1 h⟩
theorem allM_canon {l : List Svc} (h : (allM l).2.err = 0) : Canon (contribs 0 l) (allM l).1 ∧ (wrongS l).err = 0 ∧ (allM l).2 = ⟨0, 0⟩ := by
  have hw := (allM_iff.1 h).1
  unfold allM at h ⊢
  rw [if_pos hw] at h ⊢
  rcases allGo_canon (i := 0) Canon.nil (wrongS_iff.1 hw).2 with ⟨_, h2, h3⟩ | ⟨h1, _⟩
  · exact ⟨by simpa using h3, hw, h2⟩
  · rw [h1] at h; cases h
end Go.Proofs.Ytgckpmcdlciibab

namespace Go.Proofs.Ytgckpmcdlciibab
def ownK (s : Sn) : List (Str × Int) := s.fields.zip (s.type.fields.map (·.kind))
/-- own names and kinds of what is seen are the own schema's, in order -/
structure SeenK (l : List Typ) (v : List Sn) : Prop where
  len : v.length = l.length
  at_ : ∀ (i : Nat) s t, v[i]? = some s → l[i]? = some t → List.Sublist (ownK s) (t.fields.map fun f => (f.name, f.kind))
theorem zip_eraseIdx {α β : Type} : ∀ (a : List α) (b : List β) (i : Nat), (a.eraseIdx i).zip (b.eraseIdx i) = (a.zip b).eraseIdx i
  | [], b, i => by simp
  | x :: a, [], i => by simp
  | x :: a, y :: b, 0 => by simp
  | x :: a, y :: b, i + 1 => by simp [zip_eraseIdx a b i]
theorem map_eraseIdx {α β : Type} (g : α → β) : ∀ (a : List α) (i : Nat), (a.eraseIdx i).map g = (a.map g).eraseIdx i
  | [], i => by simp
  | x :: a, 0 => by simp
  | x :: a, i + 1 => by simp [map_eraseIdx g a i]
theorem map_modify_same {α β : Type} {g : α → β} {f : α → α} (h : ∀ x, g (f x) = g x) : ∀ (a : List α) (i : Nat), (a.modify i f).map g = a.map g
  | [], i => by simp
  | x :: a, 0 => by simp [h]
  | x :: a, i + 1 => by simp [map_modify_same h a i]
theorem seenK_modify {l : List Typ} {v : List Sn} {k : Nat} {f : Sn → Sn} (h : SeenK l v) (hf : ∀ s, List.Sublist (ownK (f s)) (ownK s)) : SeenK l (v.modify k f) := by
  refine ⟨by simpa using h.len, fun i s t h1 h2 => ?_⟩
  rw [List.getElem?_modify] at h1
  cases hv : v[i]? with
  | none => rw [hv] at h1; simp at h1
  | some x =>
    rw [hv] at h1
    simp only [Option.map_eq_map, Option.map_some, Option.some.injEq] at h1
    have h3 := h.at_ i x t hv h2
    split at h1
    · subst h1; exact (hf x).trans h3
    · subst h1; exact h3
theorem reF_kind (frm to : Str) (f : Fld) : (reF frm to f).kind = f.kind := by unfold reF; split <;> rfl
theorem do_seenK {l : List Typ} {v : List Sn} {c : Chg} (h : SeenK l v) (hd : (doV v c).1 = 0) : SeenK l (doV v c).2 := by
  obtain ⟨k, s, hs, hn, _, h1⟩ := doV_ok hd
  rcases h1 with ⟨_, h2, h3, h4⟩ | ⟨f, x, hx, hxn, _, ⟨_, h4⟩ | ⟨_, h2, h3, h4⟩⟩
  · rw [h4]
    unfold callV
    rw [hs]
    simp only
    rw [← modify_set hs]
    have h5 := seenK_modify (k := k) (f := nameS c.to) h fun s => List.Sublist.refl _
    refine ⟨by simpa using h5.len, fun i s' t h6 h7 => ?_⟩
    rw [List.getElem?_map] at h6
    obtain ⟨y, hy, rfl⟩ := Option.map_eq_some_iff.1 h6
    have h8 := h5.at_ i y t hy h7
    have e : ownK (reS s.type.name c.to y) = ownK y := by
      unfold ownK reS
      simp only [List.map_map]
      congr 1
      exact List.map_congr_left fun f _ => reF_kind _ _ f
    rw [e]
    exact h8
  · rw [h4]
    refine seenK_modify h fun s => ?_
    unfold ownK hideS
    simp only
    rw [map_eraseIdx, zip_eraseIdx]
    exact List.eraseIdx_sublist _ _
  · rw [h4]
    refine seenK_modify h fun s => ?_
    unfold ownK fieldS
    simp only
    rw [map_modify_same (g := fun x : Fld => x.kind) (f := fun x => { x with name := c.to }) (fun _ => rfl)]
    exact List.Sublist.refl _
theorem seeInit_seenK (l : List Typ) : SeenK l (seeInit l) := by
  refine ⟨by simp [seeInit], fun i s t h1 h2 => ?_⟩
  unfold seeInit at h1
  rw [List.getElem?_map, h2] at h1
  simp only [Option.map_some, Option.some.injEq] at h1
  subst h1
  unfold ownK
  simp only
  have : (t.fields.map (·.name)).zip (t.fields.map (·.kind)) = t.fields.map fun f => (f.name, f.kind) := by
    rw [List.zip_map', ]
  rw [this]
  exact List.Sublist.refl _
theorem seeM_seenK {l : List Typ} {cs : List Chg} (h : (seeM l cs).2.err = 0) : SeenK l (seeM l cs).1 := by
  obtain ⟨h1, h2, h3⟩ := seeM_cases h
  rw [h3] at h ⊢
  exact (doAll_ok h).1 (P := SeenK l) (fun v c hv hd => do_seenK hv hd) (seeInit_seenK l)
/-- a type as a service sees it, and its own type -/
structure SeenAs (s : Svc) (q : Sn) (t : Typ) : Prop where
  mem : q ∈ (seeM s.types s.changes).1
  type : t ∈ s.types
  own : q.own = t.name
  len : q.fields.length = q.type.fields.length
  sub : List.Sublist (ownK q) (t.fields.map fun f => (f.name, f.kind))
theorem seenAs_of {s : Svc} (h : RightS s) {q : Sn} (hq : q ∈ (seeM s.types s.changes).1) : ∃ t, SeenAs s q t := by
  obtain ⟨_, hso⟩ := seeM_right h.see
  obtain ⟨i, hi⟩ := List.getElem?_of_mem hq
  have hlt := (List.getElem?_eq_some_iff.1 hi).1
  have ht : s.types[i]? = some (s.types[i]'(by rw [← hso.len]; exact hlt)) := List.getElem?_eq_getElem _
  obtain ⟨h1, _, h3⟩ := hso.at_ i q _ hi ht
  exact ⟨_, hq, List.mem_of_getElem? ht, h1, h3, (seeM_seenK h.see).at_ i q _ hi ht⟩
/-- own names are told apart -/
theorem seen_own {s : Svc} (h : RightS s) {q q' : Sn} (hq : q ∈ (seeM s.types s.changes).1) (hq' : q' ∈ (seeM s.types s.changes).1) (ho : q.own = q'.own) : q = q' := by
  obtain ⟨_, hso⟩ := seeM_right h.see
  obtain ⟨i, hi⟩ := List.getElem?_of_mem hq
  obtain ⟨j, hj⟩ := List.getElem?_of_mem hq'
  have hli := (List.getElem?_eq_some_iff.1 hi).1
  have hlj := (List.getElem?_eq_some_iff.1 hj).1
  have hti : s.types[i]? = some (s.types[i]'(by rw [← hso.len]; exact hli)) := List.getElem?_eq_getElem _
  have htj : s.types[j]? = some (s.types[j]'(by rw [← hso.len]; exact hlj)) := List.getElem?_eq_getElem _
  have e1 := (hso.at_ i q _ hi hti).1
  have e2 := (hso.at_ j q' _ hj htj).1
  have h1 : (s.types.map (·.name))[i]? = some q.own := by rw [List.getElem?_map, hti, e1]; rfl
  have h2 : (s.types.map (·.name))[j]? = some q.own := by rw [List.getElem?_map, htj, ho, e2]; rfl
  have hij : i = j := (List.getElem?_inj (List.getElem?_eq_some_iff.1 h1).1 h.types.nodup).1 (h1.trans h2.symm)
  subst hij
  rw [hi] at hj
  cases hj
  rfl
theorem contribs_mem : ∀ {l : List Svc} {n : Nat} {c : Int × Sn}, c ∈ contribs n l → ∃ (i : Nat) (s : Svc), l[i]? = some s ∧ c.1 = ((n + i : Nat) : Int) ∧ c.2 ∈ (seeM s.types s.changes).1
  | [], n, c, h => by simp [contribs] at h
  | s :: r, n, c, h => by
    simp only [contribs, List.mem_append, List.mem_map] at h
    rcases h with ⟨q, hq, rfl⟩ | h
    · exact ⟨0, s, rfl, rfl, hq⟩
    · obtain ⟨i, s', h1, h2, h3⟩ := contribs_mem h
      exact ⟨i + 1, s', by simpa using h1, by rw [h2]; congr 1; omega, h3⟩
theorem mem_contribs : ∀ {l : List Svc} {n i : Nat} {s : Svc} {q : Sn}, l[i]? = some s → q ∈ (seeM s.types s.changes).1 → (((n + i : Nat) : Int), q) ∈ contribs n l
  | [], n, i, s, q, h, _ => by simp at h
  | s :: r, n, 0, s', q, h, hq => by
    simp at h
    subst h
    simp only [contribs, List.mem_append, List.mem_map]
    exact .inl ⟨q, hq, rfl⟩
  | s :: r, n, i + 1, s', q, h, hq => by
    simp only [contribs, List.mem_append]
    refine .inr ?_
    have := mem_contribs (n := n + 1) (l := r) (i := i) (by simpa using h) hq
    rwa [show n + 1 + i = n + (i + 1) by omega] at this
/-- a field and its owner stand at one place -/
theorem flat_owner : ∀ {cs : List (Int × Sn)} {k : Nat} {f : Fld}, (∀ c ∈ cs, c.2.fields.length = c.2.type.fields.length) → (cs.flatMap fun c => c.2.type.fields)[k]? = some f →
    ∃ c ∈ cs, ∃ (m : Nat) (o : Str), c.2.type.fields[m]? = some f ∧ c.2.fields[m]? = some o ∧ (cs.flatMap fun c => c.2.fields.map fun o => (⟨c.1, c.2.own, o⟩ : Ownr))[k]? = some ⟨c.1, c.2.own, o⟩
  | [], k, f, _, h => by simp at h
  | c :: cs, k, f, hl, h => by
    rw [List.flatMap_cons] at h
    have hc := hl c (by simp)
    by_cases hk : k < c.2.type.fields.length
    · rw [List.getElem?_append_left hk] at h
      refine ⟨c, by simp, k, c.2.fields[k]'(by omega), h, List.getElem?_eq_getElem _, ?_⟩
      rw [List.flatMap_cons, List.getElem?_append_left (by simp; omega), List.getElem?_map, List.getElem?_eq_getElem (by omega)]
      rfl
    · rw [List.getElem?_append_right (by omega)] at h
      obtain ⟨c', hc', m, o, h1, h2, h3⟩ := flat_owner (fun d hd => hl d (by simp [hd])) h
      refine ⟨c', by simp [hc'], m, o, h1, h2, ?_⟩
      rw [List.flatMap_cons, List.getElem?_append_right (by simp; omega)]
      simp only [List.length_map]
      rw [hc]
      exact h3
theorem flat_len2 : ∀ {cs : List (Int × Sn)}, (∀ c ∈ cs, c.2.fields.length = c.2.type.fields.length) → (cs.flatMap fun c => c.2.fields.map fun o => (⟨c.1, c.2.own, o⟩ : Ownr)).length = (cs.flatMap fun c => c.2.type.fields).length
  | [], _ => rfl
  | c :: cs, hl => by rw [List.flatMap_cons, List.flatMap_cons, List.length_append, List.length_append, flat_len2 fun d hd => hl d (by simp [hd]), List.length_map, hl c (by simp)]
section
variable {l : List Svc} (h : (allM l).2.err = 0)
include h
theorem all_right : ∀ s ∈ l, RightS s := (wrongS_iff.1 (allM_canon h).2.1).2
theorem contribs_flat : ∀ c ∈ contribs 0 l, c.2.fields.length = c.2.type.fields.length := fun c hc => by
  obtain ⟨i, s, h1, _, h3⟩ := contribs_mem hc
  exact seeM_flat (all_right h s (List.mem_of_getElem? h1)) c.2 h3
theorem mine_flat (n : Str) : ∀ c ∈ mine (contribs 0 l) n, c.2.fields.length = c.2.type.fields.length := fun c hc => contribs_flat h c (List.mem_filter.1 hc).1
/-- who owns a field, and as what -/
structure OwnedBy (l : List Svc) (p : Prt) (f : Fld) (o : Ownr) (i : Nat) (s : Svc) (q : Sn) (t : Typ) (m : Nat) : Prop where
  service : o.service = (i : Int)
  svc : l[i]? = some s
  right : RightS s
  seen : SeenAs s q t
  name : q.type.name = p.type.name
  own : q.own = o.type
  fld : q.type.fields[m]? = some f
  ofld : q.fields[m]? = some o.field
theorem part_field {p : Prt} (hp : p ∈ (allM l).1) {k : Nat} {f : Fld} (hf : p.type.fields[k]? = some f) : ∃ o i s q t m, p.owners[k]? = some o ∧ OwnedBy l p f o i s q t m := by
  have hc := (allM_canon h).1
  have he := hc.eq p hp
  rw [he] at hf
  obtain ⟨c, hc1, m, o, h1, h2, h3⟩ := flat_owner (mine_flat h _) hf
  obtain ⟨hc2, hc3⟩ := List.mem_filter.1 hc1
  obtain ⟨i, s, h4, h5, h6⟩ := contribs_mem hc2
  have hr := all_right h s (List.mem_of_getElem? h4)
  obtain ⟨t, ht⟩ := seenAs_of hr h6
  refine ⟨⟨c.1, c.2.own, o⟩, i, s, c.2, t, m, ?_, by rw [h5]; simp, h4, hr, ht, of_decide_eq_true hc3, rfl, h1, h2⟩
  rw [he]
  exact h3
theorem prt_len {p : Prt} (hp : p ∈ (allM l).1) : p.owners.length = p.type.fields.length := by
  rw [(allM_canon h).1.eq p hp]
  exact flat_len2 (mine_flat h _)
theorem part_nodup {p : Prt} (hp : p ∈ (allM l).1) : (p.type.fields.map (·.name)).Nodup := by
  rw [(allM_canon h).1.eq p hp]
  exact (allM_canon h).1.nodup _
theorem part_home {p : Prt} (hp : p ∈ (allM l).1) {o : Ownr} (ho : o ∈ p.homes) : ∃ (i : Nat) (s : Svc) (q : Sn) (t : Typ), o.service = (i : Int) ∧ l[i]? = some s ∧ RightS s ∧ SeenAs s q t ∧ q.type.name = p.type.name ∧ q.own = o.type := by
  rw [(allM_canon h).1.eq p hp] at ho
  obtain ⟨c, hc1, rfl⟩ := List.mem_map.1 ho
  obtain ⟨hc2, hc3⟩ := List.mem_filter.1 hc1
  obtain ⟨i, s, h4, h5, h6⟩ := contribs_mem hc2
  have hr := all_right h s (List.mem_of_getElem? h4)
  obtain ⟨t, ht⟩ := seenAs_of hr h6
  exact ⟨i, s, c.2, t, by rw [h5]; simp, h4, hr, ht, of_decide_eq_true hc3, rfl⟩
theorem part_homes {p : Prt} (hp : p ∈ (allM l).1) : p.homes ≠ [] := by
  have hc := (allM_canon h).1
  have hn : p.type.name ∈ (contribs 0 l).map (·.2.type.name) := (hc.names _).1 (List.mem_map_of_mem hp)
  obtain ⟨c, hc1, hc2⟩ := List.mem_map.1 hn
  have hm : c ∈ mine (contribs 0 l) p.type.name := List.mem_filter.2 ⟨hc1, decide_eq_true hc2⟩
  rw [hc.eq p hp]
  intro he
  have : mine (contribs 0 l) p.type.name = [] := List.map_eq_nil_iff.1 he
  rw [this] at hm
  cases hm
/-- an owner is a home -/
theorem owner_home {p : Prt} (hp : p ∈ (allM l).1) {k : Nat} {o : Ownr} (ho : p.owners[k]? = some o) : (⟨o.service, o.type, ⟨#[]⟩⟩ : Ownr) ∈ p.homes := by
  have hlt : k < p.type.fields.length := by rw [← prt_len h hp]; exact (List.getElem?_eq_some_iff.1 ho).1
  have hc := (allM_canon h).1
  have he := hc.eq p hp
  obtain ⟨f, hf⟩ : ∃ f, p.type.fields[k]? = some f := ⟨_, List.getElem?_eq_getElem hlt⟩
  rw [he] at hf ho ⊢
  obtain ⟨c, hc1, m, o', h1, h2, h3⟩ := flat_owner (mine_flat h _) hf
  have ho : ((mine (contribs 0 l) p.type.name).flatMap fun c => c.2.fields.map fun o => (⟨c.1, c.2.own, o⟩ : Ownr))[k]? = some o := ho
  rw [h3] at ho
  cases ho
  exact List.mem_map.2 ⟨c, hc1, rfl⟩
theorem part_find {p : Prt} {k : Nat} (hp : (allM l).1[k]? = some p) : partF (allM l).1 p.type.name = (k : Int) := by
  have hn := sorted_nodup (allM_canon h).1.sorted
  refine firstIdx_hit hp (decide_eq_true rfl) fun j q hj hq => decide_eq_false fun e => ?_
  have h1 : ((allM l).1.map (·.type.name))[j]? = some p.type.name := by rw [List.getElem?_map, hq, ← e]; rfl
  have h2 : ((allM l).1.map (·.type.name))[k]? = some p.type.name := by rw [List.getElem?_map, hp]; rfl
  have := (List.getElem?_inj (List.getElem?_eq_some_iff.1 h1).1 hn).1 (h1.trans h2.symm)
  omega
/-- a field's type is one of the whole's -/
theorem part_type {p : Prt} (hp : p ∈ (allM l).1) {k : Nat} {f : Fld} (hf : p.type.fields[k]? = some f) : named f.name = true ∧ 1 ≤ f.kind ∧ f.kind ≤ 3 ∧ (f.kind ≠ 1 → f.type ∈ (allM l).1.map (·.type.name)) := by
  obtain ⟨o, i, s, q, t, m, _, hb⟩ := part_field h hp hf
  obtain ⟨hsr, _⟩ := seeM_right hb.right.see
  have hq : q.type ∈ (seeM s.types s.changes).1.map (·.type) := List.mem_map_of_mem hb.seen.mem
  obtain ⟨h1, h2, h3, _, h5⟩ := (hsr.fields q.type hq).each f (List.mem_of_getElem? hb.fld)
  refine ⟨h1, h2, h3, fun hk => ?_⟩
  have h6 := h5 hk
  rw [List.map_map] at h6
  obtain ⟨q', hq', he⟩ := List.mem_map.1 h6
  rw [(allM_canon h).1.names]
  refine List.mem_map.2 ⟨(((0 + i : Nat) : Int), q'), mem_contribs hb.svc hq', he⟩
end
end Go.Proofs.Ytgckpmcdlciibab
