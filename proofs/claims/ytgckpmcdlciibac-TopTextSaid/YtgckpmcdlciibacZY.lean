/- Several texts in one: Plain functions of chapter 7: which requests what is asked for takes. Plain laws of chapter 7: requests that can be answered, few, of what is seen; who is not asked is no matter. Plain laws of chapter 7: a thing may move: a service in two parts. -/
import Derived.Test.YtgckpmcdlciibacZV
namespace Go.Proofs.Ytgckpmcdlciibac
theorem strAt_mem {l : List Str} {x : Str} : 0 ≤ strAt l x ↔ x ∈ l := by
  unfold strAt
  rw [firstIdx_nonneg_iff, List.any_eq_true]
  constructor
  · rintro ⟨y, hy, he⟩
    rw [← of_decide_eq_true he]
    exact hy
  · intro h
    exact ⟨x, h, decide_eq_true rfl⟩
instance memDec (x : Str) (l : List Str) : Decidable (x ∈ l) := decidable_of_iff (0 ≤ strAt l x) strAt_mem
def ownerM (p : Prt) (f : Str) : Option Ownr := if fieldF p.type.fields f < 0 then none else p.owners[(fieldF p.type.fields f).toNat]?
def valOf (l : List Svc) (p : Prt) (f k : Str) : Option VVal := if fieldF p.type.fields f < 0 then none else valM l p (fieldF p.type.fields f).toNat k
/-- a home's own fields that are asked for, each once, and as what they are seen -/
def fldsStep (p : Prt) (h : Ownr) (acc : List (Str × Str)) (n : Str) : List (Str × Str) := match ownerM p n with
  | some o => if o.service = h.service ∧ o.type = h.type ∧ ¬ o.field ∈ acc.map (·.1) then acc ++ [(o.field, n)] else acc
  | none => acc
def fldsFor (p : Prt) (h : Ownr) (ns : List Str) : List (Str × Str) := ns.foldl (fldsStep p h) []
def rqFor (p : Prt) (keys : List Str) (picks : List Pck) (h : Ownr) : Rq := ⟨h.service, h.type, keys, (fldsFor p h (picks.map Pck.field)).map (·.1)⟩
def homesRq (p : Prt) (keys : List Str) (picks : List Pck) : List Rq := p.homes.map (rqFor p keys picks)
def addNew (acc : List Str) (x : Str) : List Str := if x ∈ acc then acc else acc ++ [x]
def dedup (l : List Str) : List Str := l.foldl addNew []
def leadsOf (l : List Svc) (p : Prt) (f k : Str) : List Str := match valOf l p f k with
  | some v => v.keys
  | none => []
def nextM (l : List Svc) (p : Prt) (f : Str) (keys : List Str) : List Str := dedup (keys.flatMap (leadsOf l p f))
mutual
def askP (l : List Svc) (ps : List Prt) : Pck → Prt → List Str → List Rq
  | .mk _ field sub, p, keys => match fldM p.type.fields field with
    | none => []
    | some f => if f.kind = 1 then [] else if nextM l p field keys = [] then [] else match partM ps f.type with
      | none => []
      | some q => homesRq q (nextM l p field keys) sub ++ askL l ps sub q (nextM l p field keys)
  termination_by structural p => p
def askL (l : List Svc) (ps : List Prt) : List Pck → Prt → List Str → List Rq
  | [], _, _ => []
  | p :: r, q, keys => askP l ps p q keys ++ askL l ps r q keys
  termination_by structural p => p
end
def asksM (l : List Svc) (ps : List Prt) (p : Prt) (keys : List Str) (picks : List Pck) : List Rq := homesRq p keys picks ++ askL l ps picks p keys
def runM (m : Nat) (l : List Svc) (a : Ak) : List Gt × List Rq × Int :=
  if (meanM m l a).2 = 0 then match partM (allM l).1 a.type with
    | some p => ((meanM m l a).1, asksM l (allM l).1 p [a.key] a.picks, 0)
    | none => ([], [], 5)
  else ([], [], (meanM m l a).2)
theorem dedup_go (l : List Str) : ∀ acc : List Str, acc.Nodup → (l.foldl addNew acc).Nodup ∧ ∀ x, x ∈ l.foldl addNew acc ↔ x ∈ acc ∨ x ∈ l := by
  induction l with
  | nil => intro acc h; exact ⟨h, fun x => by simp⟩
  | cons y l ih =>
    intro acc h
    rw [List.foldl_cons]
    by_cases hy : y ∈ acc
    · rw [show addNew acc y = acc from if_pos hy]
      refine ⟨(ih acc h).1, fun x => ?_⟩
      rw [(ih acc h).2]
      constructor
      · rintro (h1 | h1)
        · exact .inl h1
        · exact .inr (List.mem_cons_of_mem _ h1)
      · rintro (h1 | h1)
        · exact .inl h1
        · rcases List.mem_cons.1 h1 with rfl | h1
          · exact .inl hy
          · exact .inr h1
    · rw [show addNew acc y = acc ++ [y] from if_neg hy]
      have h2 : (acc ++ [y]).Nodup := nodup_snoc.2 ⟨h, hy⟩
      refine ⟨(ih _ h2).1, fun x => ?_⟩
      rw [(ih _ h2).2]
      simp [or_assoc]
theorem dedup_nodup (l : List Str) : (dedup l).Nodup := (dedup_go l [] List.nodup_nil).1
theorem mem_dedup {l : List Str} {x : Str} : x ∈ dedup l ↔ x ∈ l := by rw [dedup, (dedup_go l [] List.nodup_nil).2]; simp
theorem mem_next {l : List Svc} {p : Prt} {f : Str} {keys : List Str} {x : Str} : x ∈ nextM l p f keys ↔ ∃ k ∈ keys, ∃ v, valOf l p f k = some v ∧ x ∈ v.keys := by
  unfold nextM
  rw [mem_dedup, List.mem_flatMap]
  constructor
  · rintro ⟨k, hk, hx⟩
    unfold leadsOf at hx
    cases hv : valOf l p f k with
    | none => rw [hv] at hx; cases hx
    | some v => rw [hv] at hx; exact ⟨k, hk, v, hv, hx⟩
  · rintro ⟨k, hk, v, hv, hx⟩
    refine ⟨k, hk, ?_⟩
    unfold leadsOf
    rw [hv]
    exact hx
theorem flds_go (p : Prt) (h : Ownr) : ∀ (ns : List Str) (acc : List (Str × Str)), (acc.map (·.1)).Nodup → (∀ x ∈ acc, ∃ o, ownerM p x.2 = some o ∧ o.service = h.service ∧ o.type = h.type ∧ o.field = x.1) →
    ((ns.foldl (fldsStep p h) acc).map (·.1)).Nodup ∧ (∀ x ∈ ns.foldl (fldsStep p h) acc, ∃ o, ownerM p x.2 = some o ∧ o.service = h.service ∧ o.type = h.type ∧ o.field = x.1) := by
  intro ns
  induction ns with
  | nil => intro acc h1 h2; exact ⟨h1, h2⟩
  | cons n ns ih =>
    intro acc h1 h2
    rw [List.foldl_cons]
    refine ih _ ?_ ?_
    · unfold fldsStep
      cases ownerM p n with
      | none => exact h1
      | some o =>
        simp only
        split
        · rename_i hc
          rw [List.map_append]
          exact nodup_snoc.2 ⟨h1, hc.2.2⟩
        · exact h1
    · intro x hx
      unfold fldsStep at hx
      cases ho : ownerM p n with
      | none => rw [ho] at hx; exact h2 x hx
      | some o =>
        rw [ho] at hx
        simp only at hx
        split at hx
        · rename_i hc
          rcases List.mem_append.1 hx with hx | hx
          · exact h2 x hx
          · simp only [List.mem_singleton] at hx
            subst hx
            exact ⟨o, ho, hc.1, hc.2.1, rfl⟩
        · exact h2 x hx
theorem flds_nodup (p : Prt) (h : Ownr) (ns : List Str) : ((fldsFor p h ns).map (·.1)).Nodup := (flds_go p h ns [] (by simp) (fun x hx => by simp at hx)).1
theorem flds_owner {p : Prt} {h : Ownr} {ns : List Str} {x : Str × Str} (hx : x ∈ fldsFor p h ns) : ∃ o, ownerM p x.2 = some o ∧ o.service = h.service ∧ o.type = h.type ∧ o.field = x.1 := (flds_go p h ns [] (by simp) (fun x hx => by simp at hx)).2 x hx
/-- every request is one of a home of a type of the whole, of some keys, each once -/
def FromHome (ps : List Prt) (r : Rq) : Prop := ∃ p ∈ ps, ∃ keys : List Str, ∃ picks : List Pck, ∃ h ∈ p.homes, r = rqFor p keys picks h ∧ keys.Nodup ∧ keys ≠ []
theorem partM_in {ps : List Prt} {n : Str} {p : Prt} (h : partM ps n = some p) : p ∈ ps ∧ p.type.name = n := by
  unfold partM at h
  split at h
  · cases h
  · rename_i h0
    obtain ⟨k, q, hk, hq, hn, _⟩ := firstIdx_lt (l := ps) (p := fun p => decide (p.type.name = n)) (by unfold partF at h0; omega)
    have hk : partF ps n = (k : Int) := hk
    rw [hk, Int.toNat_natCast, hq] at h
    cases h
    exact ⟨List.mem_of_getElem? hq, of_decide_eq_true hn⟩
theorem ownerM_get {p : Prt} {n : Str} {o : Ownr} (h : ownerM p n = some o) : ∃ k : Nat, fieldF p.type.fields n = (k : Int) ∧ p.owners[k]? = some o := by
  unfold ownerM at h
  split at h
  · cases h
  · rename_i h0
    obtain ⟨k, hk⟩ := Int.eq_ofNat_of_zero_le (show 0 ≤ fieldF p.type.fields n by omega)
    rw [hk, Int.toNat_natCast] at h
    exact ⟨k, hk, h⟩
/-- what a home is, and whose fields it is asked for -/
theorem request_of {l : List Svc} (h : (allM l).2.err = 0) {r : Rq} (hr : FromHome (allM l).1 r) : ∃ (i : Nat) (s : Svc) (q : Sn) (t : Typ), r.service = (i : Int) ∧ l[i]? = some s ∧ RightS s ∧ SeenAs s q t ∧ q.own = r.type ∧ r.keys.Nodup ∧ r.keys ≠ [] ∧ r.fields.Nodup ∧ ∀ f ∈ r.fields, f ∈ q.fields := by
  obtain ⟨p, hp, keys, picks, o, ho, rfl, hk, hne⟩ := hr
  obtain ⟨i, s, q, t, h1, h2, h3, h4, h5, h6⟩ := part_home h hp ho
  refine ⟨i, s, q, t, h1, h2, h3, h4, h6, hk, hne, flds_nodup _ _ _, fun f hf => ?_⟩
  obtain ⟨x, hx, rfl⟩ := List.mem_map.1 hf
  obtain ⟨o2, ho2, e1, e2, e3⟩ := flds_owner hx
  obtain ⟨k, _, hk2⟩ := ownerM_get ho2
  have hlt : k < p.type.fields.length := by rw [← prt_len h hp]; exact (List.getElem?_eq_some_iff.1 hk2).1
  obtain ⟨o3, i2, s2, q2, t2, m, ho3, hb⟩ := part_field h hp (List.getElem?_eq_getElem hlt)
  rw [hk2] at ho3
  cases ho3
  have hi : i2 = i := by have := hb.service; rw [e1, h1] at this; omega
  subst hi
  have hs : s2 = s := Option.some.inj (hb.svc.symm.trans h2)
  subst hs
  have hq : q2 = q := seen_own h3 hb.seen.mem h4.mem (by rw [hb.own, e2, h6])
  subst hq
  rw [← e3]
  exact List.mem_of_getElem? hb.ofld
end Go.Proofs.Ytgckpmcdlciibac

namespace Go.Proofs.Ytgckpmcdlciibac
theorem own_names {q : Sn} {t : Typ} {s : Svc} (h : SeenAs s q t) {f : Str} (hf : f ∈ q.fields) : f ∈ t.fields.map (·.name) := by
  obtain ⟨i, hi⟩ := List.getElem?_of_mem hf
  have hlt := (List.getElem?_eq_some_iff.1 hi).1
  have h1 : (ownK q)[i]? = some (f, (q.type.fields[i]'(by rw [← h.len]; exact hlt)).kind) := by
    unfold ownK
    rw [List.getElem?_zip_eq_some]
    exact ⟨hi, by rw [List.getElem?_map, List.getElem?_eq_getElem (by rw [← h.len]; exact hlt)]; rfl⟩
  have h2 := h.sub.subset (List.mem_of_getElem? h1)
  obtain ⟨g, hg, he⟩ := List.mem_map.1 h2
  simp only [Prod.mk.injEq] at he
  exact List.mem_map.2 ⟨g, hg, he.1⟩
theorem dup_of_nodup {l : List Str} (h : l.Nodup) {j : Nat} {y : Str} (hj : l[j]? = some y) : ¬ 0 ≤ strAt (l.take j) y := fun h0 => by
  have hm := strAt_mem.1 h0
  obtain ⟨i, hi⟩ := List.getElem?_of_mem hm
  rw [List.getElem?_take] at hi
  split at hi
  · rename_i hij
    have := (List.getElem?_inj (List.getElem?_eq_some_iff.1 hi).1 h).1 (hi.trans hj.symm)
    omega
  · cases hi
theorem fieldF_mem {fs : List Fld} {n : Str} (h : n ∈ fs.map (·.name)) : ¬ fieldF fs n < 0 := fun h0 => fieldF_none.1 h0 h
theorem rq_right {l : List Svc} (h : (allM l).2.err = 0) {r : Rq} (hr : FromHome (allM l).1 r) : wrongRq l r = 0 := by
  obtain ⟨i, s, q, t, h1, h2, h3, h4, h5, h6, h7, h8, h9⟩ := request_of h hr
  have hs : l[r.service.toNat]? = some s := by rw [h1, Int.toNat_natCast]; exact h2
  rw [wrongRq_some (by omega) hs]
  obtain ⟨k, hk⟩ := List.getElem?_of_mem h4.type
  have hn : r.type ∈ s.types.map (·.name) := by rw [← h5, h4.own]; exact List.mem_map_of_mem h4.type
  have h0 : 0 ≤ findT s.types r.type := find_mem.2 hn
  obtain ⟨j, t', hj, ht', htn, _⟩ := findT_get (l := s.types) (n := r.type) (by omega)
  have e1 : (s.types.map (·.name))[k]? = some r.type := by rw [List.getElem?_map, hk, ← h5, h4.own]; rfl
  have e2 : (s.types.map (·.name))[j]? = some r.type := by rw [List.getElem?_map, ht', ← htn]; rfl
  have hkj : k = j := (List.getElem?_inj (List.getElem?_eq_some_iff.1 e1).1 h3.types.nodup).1 (e1.trans e2.symm)
  subst hkj
  rw [hk] at ht'
  cases ht'
  rw [hj, if_neg (by omega), Int.toNat_natCast, hk]
  have e3 : firstBad (rqErr t.fields r.fields) 0 r.fields = none := firstBad_none fun j y hy => by
    unfold rqErr
    rw [if_neg (fieldF_mem (own_names h4 (h9 y (List.mem_of_getElem? hy)))), if_neg (dup_of_nodup h8 hy)]
  have e4 : firstBad (dupErr r.keys) 0 r.keys = none := firstBad_none fun j y hy => by
    unfold dupErr
    rw [if_neg (dup_of_nodup h6 hy)]
  show rqTail t.fields r.fields r.keys = 0
  unfold rqTail
  rw [e3]
  dsimp only
  rw [e4]
mutual
def listsP : Pck → Nat
  | .mk _ _ ps => if ps.length = 0 then 0 else 1 + listsL ps
  termination_by structural p => p
def listsL : List Pck → Nat
  | [] => 0
  | p :: r => listsP p + listsL r
  termination_by structural p => p
end
/-- picks of at most so many levels -/
def lvl : Nat → List Pck → Prop
  | 0, ps => ps = []
  | m + 1, ps => ∀ q ∈ ps, lvl m q.picks
theorem lvl_nil : ∀ m, lvl m []
  | 0 => rfl
  | m + 1 => fun q hq => by simp at hq
theorem mine_len {n : Str} : ∀ {l : List Svc} {i : Nat}, (∀ s ∈ l, RightS s) → (mine (contribs i l) n).length ≤ l.length
  | [], i, _ => by simp [contribs, mine]
  | s :: l, i, h => by
    have ih := mine_len (n := n) (l := l) (i := i + 1) fun s' hs => h s' (by simp [hs])
    rw [show contribs i (s :: l) = (seeM s.types s.changes).1.map (fun q => ((i : Int), q)) ++ contribs (i + 1) l from rfl, mine_app, List.length_append, List.length_cons]
    have h1 : (mine ((seeM s.types s.changes).1.map (fun q => ((i : Int), q))) n).length ≤ 1 := by
      have hnd := (seeM_right (h s (by simp)).see).1.nodup
      rw [List.map_map] at hnd
      unfold mine
      rw [List.filter_map, List.length_map]
      generalize (seeM s.types s.changes).1 = v at hnd
      clear ih h
      induction v with
      | nil => simp
      | cons x v ih =>
        rw [List.map_cons, List.nodup_cons] at hnd
        rw [List.filter_cons]
        split
        · rename_i hx
          have hx : x.type.name = n := of_decide_eq_true hx
          have : v.filter ((fun c : Int × Sn => decide (c.2.type.name = n)) ∘ fun q => ((i : Int), q)) = [] := List.filter_eq_nil_iff.2 fun y hy hd => hnd.1 (by
            have hd : y.type.name = n := of_decide_eq_true hd
            refine List.mem_map.2 ⟨y, hy, ?_⟩
            simp only [Function.comp]
            rw [hd, hx])
          rw [this]
          simp
        · exact ih hnd.2
    omega
theorem homes_len {l : List Svc} (h : (allM l).2.err = 0) {p : Prt} (hp : p ∈ (allM l).1) : p.homes.length ≤ l.length := by
  have e1 : p.homes = homesOf (contribs 0 l) p.type.name := congrArg (fun p : Prt => p.homes) ((allM_canon h).1.eq p hp)
  rw [e1]
  unfold homesOf
  rw [List.length_map]
  exact mine_len (all_right h)
theorem askL_map (l : List Svc) (ps : List Prt) : ∀ (picks : List Pck) (p : Prt) (keys : List Str), askL l ps picks p keys = picks.flatMap fun q => askP l ps q p keys
  | [], p, keys => by simp [askL]
  | q :: r, p, keys => by simp [askL, askL_map l ps r p keys]
theorem listsL_sum : ∀ (picks : List Pck), listsL picks = (picks.map listsP).sum
  | [] => by simp [listsL]
  | q :: r => by simp [listsL, listsL_sum r]
theorem fldM_at {fs : List Fld} {n : Str} {j : Nat} {f : Fld} (hj : fieldF fs n = (j : Int)) (hf : fs[j]? = some f) : fldM fs n = some f := by
  unfold fldM
  rw [hj, if_neg (by omega), Int.toNat_natCast, hf]
theorem asks_few {l : List Svc} {ps : List Prt} {N : Nat} (hw : WholeOk l ps) (hN : ∀ p ∈ ps, p.homes.length ≤ N) : ∀ (m : Nat) (picks : List Pck) (p : Prt) (keys : List Str), p ∈ ps → lvl m picks → goesM m ps p.type.name picks = 0 → (askL l ps picks p keys).length ≤ listsL picks * N
  | 0, picks, p, keys, _, hl, _ => by
    have hl : picks = [] := hl
    subst hl
    simp [askL]
  | m + 1, picks, p, keys, hp, hl, hg => by
    rw [askL_map, listsL_sum]
    obtain ⟨k, t, hk, ht, hn, heach⟩ := goes_ok hg
    have htp : t = p := by
      have h1 := partM_mem hw hp
      unfold partM at h1
      rw [hk, if_neg (by omega), Int.toNat_natCast, ht] at h1
      exact Option.some.inj h1
    subst htp
    have key : ∀ q ∈ picks, (askP l ps q t keys).length ≤ listsP q * N := fun q hq => by
      obtain ⟨i, hi⟩ := List.getElem?_of_mem hq
      obtain ⟨⟨j, f, hj, hf, _, hkind, hsub⟩, _⟩ := heach i q hi
      have hlq := hl q hq
      obtain ⟨a, fd, sub⟩ := q
      simp only [Pck.field, Pck.picks] at hj hkind hsub hlq
      simp only [askP, fldM_at hj hf]
      split
      · simp
      rename_i h1
      split
      · simp
      have hne : sub ≠ [] := fun h => h1 (hkind.2 h)
      cases hq2 : partM ps f.type with
      | none => simp
      | some q2 =>
        obtain ⟨hm, hnm⟩ := partM_in hq2
        have ih := asks_few hw hN m sub q2 (nextM l t fd keys) hm hlq (by rw [hnm]; exact hsub hne)
        have h2 := hN q2 hm
        simp only [listsP, if_neg (show ¬ sub.length = 0 from fun h => hne (List.eq_nil_of_length_eq_zero h)), List.length_append, homesRq, List.length_map]
        rw [Nat.add_mul, Nat.one_mul]
        omega
    clear heach hl hg hk ht
    induction picks with
    | nil => simp
    | cons q r ih =>
      rw [List.flatMap_cons, List.map_cons, List.sum_cons, List.length_append, Nat.add_mul]
      have h1 := key q (by simp)
      have h2 := ih (fun q' hq' => key q' (by simp [hq']))
      omega
theorem asksM_few {m : Nat} {l : List Svc} (h : (allM l).2.err = 0) {p : Prt} (hp : p ∈ (allM l).1) {keys : List Str} {picks : List Pck} (hl : lvl m picks) (hg : goesM m (allM l).1 p.type.name picks = 0) :
    (asksM l (allM l).1 p keys picks).length ≤ (1 + listsL picks) * l.length ∧ 1 ≤ (asksM l (allM l).1 p keys picks).length := by
  have h1 := asks_few (wholeOk h) (fun q hq => homes_len h hq) m picks p keys hp hl hg
  have h2 := homes_len h hp
  have h3 := part_homes h hp
  unfold asksM homesRq
  rw [List.length_append, List.length_map, Nat.add_mul, Nat.one_mul]
  have h4 : p.homes.length ≠ 0 := fun h => h3 (List.eq_nil_of_length_eq_zero h)
  omega
section
variable {l l' : List Svc} (h : (allM l).2.err = 0)
include h
theorem sem_val (l2 : List Svc) {p : Prt} (hp : p ∈ (allM l).1) (f k : Str) : (semOf l2 (allM l).1).val p.type.name f k = valOf l2 p f k := by
  simp only [semOf, partM_mem (wholeOk h) hp]
  rfl
end
end Go.Proofs.Ytgckpmcdlciibac

namespace Go.Proofs.Ytgckpmcdlciibac
def half {α : Type} (b : Bool) (k : Nat) (l : List α) : List α := if b then l.take k else l.drop k
section
variable {α β : Type} {b : Bool} {k : Nat}
theorem half_sub (l : List α) : (half b k l).Sublist l := by
  unfold half
  split
  · exact List.take_sublist _ _
  · exact List.drop_sublist _ _
theorem half_len {l : List α} {m : List β} (h : l.length = m.length) : (half b k l).length = (half b k m).length := by
  unfold half
  split <;> simp [h]
theorem half_both (l : List α) : half true k l ++ half false k l = l := List.take_append_drop k l
theorem half_get {l : List α} {m : List β} {i : Nat} {x : α} {y : β} (h1 : (half b k l)[i]? = some x) (h2 : (half b k m)[i]? = some y) : ∃ j : Nat, l[j]? = some x ∧ m[j]? = some y := by
  unfold half at h1 h2
  cases b with
  | true =>
    simp only [if_true, List.getElem?_take] at h1 h2
    split at h1
    · rename_i h
      rw [if_pos h] at h2
      exact ⟨i, h1, h2⟩
    · cases h1
  | false =>
    simp only [Bool.false_eq_true, if_false, List.getElem?_drop] at h1 h2
    exact ⟨k + i, h1, h2⟩
end
def halfT (b : Bool) (k : Nat) (t : Typ) : Typ := ⟨t.name, half b k t.fields⟩
def halfX (b : Bool) (k : Nat) (x : Thg) : Thg := ⟨x.type, x.key, half b k x.vals⟩
def halfS (b : Bool) (k : Nat) (s : Svc) : Svc := ⟨s.types.map (halfT b k), [], s.things.map (halfX b k)⟩
theorem findT_names {l m : List Typ} (h : l.map (·.name) = m.map (·.name)) (n : Str) : findT l n = findT m n := by
  have e : ∀ l : List Typ, findT l n = firstIdx (l.map (·.name)) (fun x => decide (x = n)) := fun l => by
    unfold findT firstIdx
    rw [List.findIdx?_map]
    rfl
  rw [e, e, h]
theorem halfT_names (b : Bool) (k : Nat) (l : List Typ) : (l.map (halfT b k)).map (·.name) = l.map (·.name) := by
  rw [List.map_map]
  rfl
theorem thingAt_half (b : Bool) (k : Nat) (l : List Thg) (t key : Str) : thingAt (l.map (halfX b k)) t key = thingAt l t key := by
  unfold thingAt firstIdx
  rw [List.findIdx?_map]
  rfl
theorem thingM_half (b : Bool) (k : Nat) (l : List Thg) (t key : Str) : thingM (l.map (halfX b k)) t key = (thingM l t key).map (halfX b k) := by
  unfold thingM
  rw [thingAt_half]
  split
  · rfl
  · rw [List.getElem?_map]
theorem half_right {ts : List Typ} (b : Bool) (k : Nat) (h : Right ts) : Right (ts.map (halfT b k)) := by
  refine ⟨by simpa using h.len, fun t ht => ?_, by rw [halfT_names]; exact h.nodup, fun t ht => ?_⟩
  · obtain ⟨t0, h0, rfl⟩ := List.mem_map.1 ht
    exact h.names t0 h0
  · obtain ⟨t0, h0, rfl⟩ := List.mem_map.1 ht
    have hf := h.fields t0 h0
    rw [halfT_names]
    refine ⟨Nat.le_trans (half_sub t0.fields).length_le hf.len, fun f hf' => hf.each f ((half_sub t0.fields).subset hf'), ?_⟩
    show ((half b k t0.fields).map (·.name)).Nodup
    exact hf.nodup.sublist ((half_sub t0.fields).map _)
theorem see_init {ts : List Typ} (h : Right ts) : seeM ts [] = (seeInit ts, ⟨0, 0⟩) := by
  have h1 := right_iff.2 h
  unfold seeM
  rw [if_neg (by simp [h1]), if_neg (by simp)]
  rfl
theorem half_vals {fs : List Fld} {vs : List VVal} {b : Bool} {k : Nat} (h : ValsOk fs vs) : ValsOk (half b k fs) (half b k vs) := ⟨half_len h.len, fun i f v hf hv => by
  obtain ⟨j, h1, h2⟩ := half_get hf hv
  exact h.each j f v h1 h2⟩
theorem half_rightS {s : Svc} (b : Bool) (k : Nat) (h : RightS s) : RightS (halfS b k s) := by
  have hr := half_right b k h.types
  refine ⟨hr, by show (seeM (s.types.map (halfT b k)) []).2.err = 0; rw [see_init hr], by simpa [halfS] using h.len, fun x hx => ?_, fun i x hx => ?_⟩
  · obtain ⟨x0, h0, rfl⟩ := List.mem_map.1 hx
    obtain ⟨h1, j, t, h2, h3, h4, h5⟩ := h.things x0 h0
    refine ⟨h1, j, halfT b k t, ?_, ?_, h4, half_vals h5⟩
    · show findT (s.types.map (halfT b k)) x0.type = _
      rw [findT_names (halfT_names b k s.types)]
      exact h2
    · show (s.types.map (halfT b k))[j]? = _
      rw [List.getElem?_map, h3]
      rfl
  · have hx : (s.things.map (halfX b k))[i]? = some x := hx
    rw [List.getElem?_map] at hx
    obtain ⟨x0, h0, rfl⟩ := Option.map_eq_some_iff.1 hx
    show ¬ 0 ≤ thingAt ((s.things.map (halfX b k)).take i) x0.type x0.key
    rw [← List.map_take, thingAt_half]
    exact h.once i x0 h0
/-- is a thing there: some service that has the type has it -/
theorem there_iff {l : List Svc} (h : (allM l).2.err = 0) {n key : Str} : (semOf l (allM l).1).there n key = true ↔ ∃ (i : Nat) (s : Svc) (q : Sn), l[i]? = some s ∧ q ∈ (seeM s.types s.changes).1 ∧ q.type.name = n ∧ (thingM s.things q.own key).isSome := by
  have hc := (allM_canon h).1
  constructor
  · intro ht
    simp only [semOf] at ht
    cases hp : partM (allM l).1 n with
    | none => rw [hp] at ht; cases ht
    | some p =>
      rw [hp] at ht
      obtain ⟨hpm, hpn⟩ := partM_in hp
      unfold thereM at ht
      obtain ⟨o, ho, hs⟩ := List.any_eq_true.1 ht
      obtain ⟨i, s, q, t, h1, h2, _, h4, h5, h6⟩ := part_home h hpm ho
      refine ⟨i, s, q, h2, h4.mem, h5.trans hpn, ?_⟩
      rw [h6]
      unfold findW at hs
      rw [h1, Int.toNat_natCast, h2] at hs
      exact hs
  · rintro ⟨i, s, q, h1, h2, h3, h4⟩
    have hcm : (((0 + i : Nat) : Int), q) ∈ contribs 0 l := mem_contribs h1 h2
    have hn : n ∈ (allM l).1.map (·.type.name) := (hc.names n).2 (List.mem_map.2 ⟨_, hcm, h3⟩)
    obtain ⟨p, hp, hpn⟩ := List.mem_map.1 hn
    have hpm := partM_mem (wholeOk h) hp
    rw [hpn] at hpm
    simp only [semOf, hpm]
    unfold thereM
    rw [List.any_eq_true]
    have he : p.homes = homesOf (contribs 0 l) p.type.name := congrArg (fun p : Prt => p.homes) (hc.eq p hp)
    refine ⟨⟨((0 + i : Nat) : Int), q.own, ⟨#[]⟩⟩, ?_, ?_⟩
    · rw [he]
      exact List.mem_map.2 ⟨_, List.mem_filter.2 ⟨hcm, decide_eq_true (h3.trans hpn.symm)⟩, rfl⟩
    · unfold findW
      simp only [Int.toNat_natCast, Nat.zero_add, h1]
      exact h4
/-- what a field of a thing is -/
theorem val_iff {l : List Svc} (h : (allM l).2.err = 0) {n fn key : Str} {v : VVal} : (semOf l (allM l).1).val n fn key = some v ↔ ∃ (i : Nat) (s : Svc) (q : Sn), l[i]? = some s ∧ q ∈ (seeM s.types s.changes).1 ∧ q.type.name = n ∧
    ∃ (m : Nat) (f : Fld) (own : Str), q.type.fields[m]? = some f ∧ f.name = fn ∧ q.fields[m]? = some own ∧ ∃ x, thingM s.things q.own key = some x ∧ v ∈ x.vals ∧ v.field = own := by
  have hc := (allM_canon h).1
  have hw := wholeOk h
  have main : ∀ (p : Prt) (j : Nat) (f : Fld) (o : Ownr) (i : Nat) (s : Svc) (q : Sn) (t : Typ) (m : Nat), p ∈ (allM l).1 → p.type.name = n → fieldF p.type.fields fn = (j : Int) → p.type.fields[j]? = some f → p.owners[j]? = some o → OwnedBy l p f o i s q t m →
      ((semOf l (allM l).1).val n fn key = some v ↔ ∃ x, thingM s.things q.own key = some x ∧ v ∈ x.vals ∧ v.field = o.field) := by
    intro p j f o i s q t m hp hpn hj hf ho hb
    have hpm := partM_mem hw hp
    rw [hpn] at hpm
    have hfind : findW l o key = thingM s.things q.own key := by
      unfold findW
      rw [hb.service, Int.toNat_natCast, hb.svc, hb.own]
    have e : (semOf l (allM l).1).val n fn key = match thingM s.things q.own key with
        | some x => x.vals.find? fun v => decide (v.field = o.field)
        | none => none := by
      simp only [semOf, hpm]
      rw [hj, if_neg (by omega), Int.toNat_natCast]
      unfold valM
      rw [ho]
      simp only [hfind]
      cases thingM s.things q.own key <;> rfl
    rw [e]
    cases hx : thingM s.things q.own key with
    | none => simp
    | some x =>
      simp only [Option.some.injEq, exists_eq_left']
      obtain ⟨_, _, hval⟩ := hw.owner p hp j f o hf ho
      obtain ⟨u, h1, h2, h3, _⟩ := hval key x (hfind.trans hx)
      rw [← List.head?_filter, h1]
      constructor
      · intro hh
        cases hh
        exact ⟨h2, h3⟩
      · rintro ⟨h4, h5⟩
        have : v ∈ x.vals.filter fun u => decide (u.field = o.field) := List.mem_filter.2 ⟨h4, decide_eq_true h5⟩
        rw [h1] at this
        rw [List.mem_singleton.1 this]
        rfl
  constructor
  · intro hv
    have hv0 := hv
    simp only [semOf] at hv
    cases hp : partM (allM l).1 n with
    | none => rw [hp] at hv; cases hv
    | some p =>
      rw [hp] at hv
      obtain ⟨hpm, hpn⟩ := partM_in hp
      simp only at hv
      split at hv
      · cases hv
      rename_i h0
      obtain ⟨j, f, hj, hf, hfn, _⟩ := firstIdx_lt (l := p.type.fields) (p := fun t => decide (t.name = fn)) (by unfold fieldF at h0; omega)
      have hj : fieldF p.type.fields fn = (j : Int) := hj
      obtain ⟨o, i, s, q, t, m, ho, hb⟩ := part_field h hpm hf
      obtain ⟨x, h1, h2, h3⟩ := (main p j f o i s q t m hpm hpn hj hf ho hb).1 hv0
      exact ⟨i, s, q, hb.svc, hb.seen.mem, hb.name.trans hpn, m, f, o.field, hb.fld, of_decide_eq_true hfn, hb.ofld, x, h1, h2, h3⟩
  · rintro ⟨i, s, q, h1, h2, h3, m, f, own, h4, h5, h6, x, h7, h8, h9⟩
    have hcm : (((0 + i : Nat) : Int), q) ∈ contribs 0 l := mem_contribs h1 h2
    have hn : n ∈ (allM l).1.map (·.type.name) := (hc.names n).2 (List.mem_map.2 ⟨_, hcm, h3⟩)
    obtain ⟨p, hp, hpn⟩ := List.mem_map.1 hn
    have hpf : p.type.fields = fieldsOf (contribs 0 l) p.type.name := congrArg (fun p : Prt => p.type.fields) (hc.eq p hp)
    have hfm : f ∈ p.type.fields := by
      rw [hpf]
      exact List.mem_flatMap.2 ⟨_, List.mem_filter.2 ⟨hcm, decide_eq_true (h3.trans hpn.symm)⟩, List.mem_of_getElem? h4⟩
    obtain ⟨j, hj⟩ := List.getElem?_of_mem hfm
    obtain ⟨o, i2, s2, q2, t2, m2, ho, hb⟩ := part_field h hp hj
    have hcm2 : (((0 + i2 : Nat) : Int), q2) ∈ contribs 0 l := mem_contribs hb.svc hb.seen.mem
    have heq := field_uniq (hc.nodup n) hcm hcm2 h3 (hb.name.trans hpn) (List.mem_map_of_mem (List.mem_of_getElem? h4)) (List.mem_map_of_mem (List.mem_of_getElem? hb.fld))
    simp only [Prod.mk.injEq] at heq
    obtain ⟨h10, rfl⟩ := heq
    have hi : i = i2 := by omega
    subst hi
    have hs : s2 = s := Option.some.inj (hb.svc.symm.trans h1)
    subst hs
    have hnd := ((seeM_right hb.right.see).1.fields q.type (List.mem_map_of_mem hb.seen.mem)).nodup
    have e1 : (q.type.fields.map (·.name))[m]? = some f.name := by rw [List.getElem?_map, h4]; rfl
    have e2 : (q.type.fields.map (·.name))[m2]? = some f.name := by rw [List.getElem?_map, hb.fld]; rfl
    have hmm : m = m2 := (List.getElem?_inj (List.getElem?_eq_some_iff.1 e1).1 hnd).1 (e1.trans e2.symm)
    subst hmm
    have e3 : own = o.field := Option.some.inj (h6.symm.trans hb.ofld)
    subst e3
    have hjf : fieldF p.type.fields fn = (j : Int) := by rw [← h5]; exact fieldF_at (part_nodup h hp) hj
    exact (main p j f o i s2 q t2 m hp hpn hjf hj ho hb).2 ⟨x, h7, h8, h9⟩
/-- a type's fields: those of all that see it, in turn -/
theorem fld_canon {l : List Svc} (h : (allM l).2.err = 0) {n : Str} : (partM (allM l).1 n).isSome = decide (n ∈ (contribs 0 l).map (·.2.type.name)) ∧ ∀ f, (semOf l (allM l).1).fld n f = fldM (fieldsOf (contribs 0 l) n) f := by
  have hc := (allM_canon h).1
  have hiff : n ∈ (allM l).1.map (·.type.name) ↔ n ∈ (contribs 0 l).map (·.2.type.name) := hc.names n
  by_cases hn : n ∈ (contribs 0 l).map (·.2.type.name)
  · obtain ⟨p, hp, hpn⟩ := List.mem_map.1 (hiff.2 hn)
    have hpm := partM_mem (wholeOk h) hp
    rw [hpn] at hpm
    have hpf : p.type.fields = fieldsOf (contribs 0 l) p.type.name := congrArg (fun p : Prt => p.type.fields) (hc.eq p hp)
    rw [hpn] at hpf
    refine ⟨by rw [hpm]; simp [hn], fun f => ?_⟩
    rw [fld_part, hpm, ← hpf]
  · have hnone : partM (allM l).1 n = none := by
      cases hp : partM (allM l).1 n with
      | none => rfl
      | some p =>
        obtain ⟨hpm, hpn⟩ := partM_in hp
        exact absurd (hiff.1 (List.mem_map.2 ⟨p, hpm, hpn⟩)) hn
    refine ⟨by rw [hnone]; simp [hn], fun f => ?_⟩
    have : fieldsOf (contribs 0 l) n = [] := by
      unfold fieldsOf
      rw [mine_nil hn]
      rfl
    rw [fld_part, hnone, this]
    rfl
theorem fldM_perm {fs gs : List Fld} (h : fs.Perm gs) (hn : (gs.map (·.name)).Nodup) (n : Str) : fldM fs n = fldM gs n := by
  unfold fldM
  have hnf : (fs.map (·.name)).Nodup := (h.map _).nodup_iff.2 hn
  by_cases hm : n ∈ gs.map (·.name)
  · obtain ⟨f, hf, rfl⟩ := List.mem_map.1 hm
    obtain ⟨i, hi⟩ := List.getElem?_of_mem hf
    obtain ⟨j, hj⟩ := List.getElem?_of_mem (h.mem_iff.2 hf)
    rw [fieldF_at hn hi, fieldF_at hnf hj, if_neg (by omega), if_neg (by omega), Int.toNat_natCast, Int.toNat_natCast, hi, hj]
  · have hm2 : ¬ n ∈ fs.map (·.name) := fun hx => hm ((h.map _).mem_iff.1 hx)
    rw [if_pos (fieldF_none.2 hm), if_pos (fieldF_none.2 hm2)]
/-- where a service of the one list stands in the other -/
theorem moved_get {A B : List Svc} {s : Svc} {k i : Nat} {x : Svc} : (A ++ halfS true k s :: B ++ [halfS false k s])[i]? = some x → (∃ j, (A ++ s :: B)[j]? = some x ∧ j ≠ A.length) ∨ x = halfS true k s ∨ x = halfS false k s := by
  intro hx
  rw [List.append_assoc] at hx
  by_cases h1 : i < A.length
  · rw [List.getElem?_append_left h1] at hx
    exact .inl ⟨i, by rw [List.getElem?_append_left h1]; exact hx, by omega⟩
  · rw [List.getElem?_append_right (by omega)] at hx
    cases hi : i - A.length with
    | zero => rw [hi] at hx; simp at hx; exact .inr (.inl hx.symm)
    | succ m =>
      rw [hi] at hx
      simp only [List.cons_append, List.getElem?_cons_succ] at hx
      by_cases h2 : m < B.length
      · rw [List.getElem?_append_left h2] at hx
        refine .inl ⟨i, ?_, by omega⟩
        rw [List.getElem?_append_right (by omega), hi, List.getElem?_cons_succ]
        exact hx
      · rw [List.getElem?_append_right (by omega)] at hx
        have := List.mem_of_getElem? hx
        simp at this
        exact .inr (.inr this)
theorem get_moved {A B : List Svc} {s : Svc} {k i : Nat} {x : Svc} (hx : (A ++ s :: B)[i]? = some x) : x = s ∧ i = A.length ∨ (A ++ halfS true k s :: B ++ [halfS false k s])[i]? = some x := by
  by_cases h1 : i < A.length
  · rw [List.getElem?_append_left h1] at hx
    refine .inr ?_
    rw [List.append_assoc, List.getElem?_append_left h1]
    exact hx
  · rw [List.getElem?_append_right (by omega)] at hx
    cases hi : i - A.length with
    | zero => rw [hi] at hx; simp at hx; exact .inl ⟨hx.symm, by omega⟩
    | succ m =>
      rw [hi, List.getElem?_cons_succ] at hx
      have h2 := (List.getElem?_eq_some_iff.1 hx).1
      refine .inr ?_
      rw [List.append_assoc, List.getElem?_append_right (by omega), hi]
      simp only [List.cons_append, List.getElem?_cons_succ]
      rw [List.getElem?_append_left h2]
      exact hx
theorem moved_first {A B : List Svc} {s : Svc} {k : Nat} : (A ++ halfS true k s :: B ++ [halfS false k s])[A.length]? = some (halfS true k s) := by simp
theorem moved_last {A B : List Svc} {s : Svc} {k : Nat} : (A ++ halfS true k s :: B ++ [halfS false k s])[(A ++ s :: B).length]? = some (halfS false k s) := by
  rw [List.getElem?_append_right (by simp)]
  simp
section
variable {A B : List Svc} {s : Svc} {k : Nat} (h : (allM (A ++ s :: B)).2.err = 0) (hch : s.changes = [])
include h hch
theorem moved_see (b : Bool) : (seeM (halfS b k s).types (halfS b k s).changes).1 = seeInit (s.types.map (halfT b k)) ∧ (seeM s.types s.changes).1 = seeInit s.types := by
  have hr := all_right h s (by simp)
  refine ⟨?_, ?_⟩
  · show (seeM (s.types.map (halfT b k)) []).1 = _
    rw [see_init (half_right b k hr.types)]
  · rw [hch, see_init hr.types]
theorem moved_fields (n : Str) : List.Perm (fieldsOf (contribs 0 (A ++ halfS true k s :: B ++ [halfS false k s])) n) (fieldsOf (contribs 0 (A ++ s :: B)) n) := by
  have e : ∀ (x : Svc) (i : Nat), contribs i [x] = (seeM x.types x.changes).1.map fun q => ((i : Int), q) := fun x i => by simp [contribs]
  have hx : ∀ (i : Nat) (x : Svc) (r : List Svc), contribs i (x :: r) = contribs i [x] ++ contribs (i + 1) r := fun i x r => by simp [contribs]
  have fapp : ∀ a b : List (Int × Sn), fieldsOf (a ++ b) n = fieldsOf a n ++ fieldsOf b n := fun a b => by
    unfold fieldsOf
    rw [mine_app, List.flatMap_append]
  have fone : ∀ (i : Nat) (ts : List Typ), fieldsOf ((seeInit ts).map fun q => ((i : Int), q)) n = (ts.filter fun t => decide (t.name = n)).flatMap (·.fields) := fun i ts => by
    unfold fieldsOf mine seeInit
    rw [List.map_map, List.filter_map, List.flatMap_map]
    rfl
  have fhalf : ∀ b : Bool, ((s.types.map (halfT b k)).filter fun t => decide (t.name = n)).flatMap (·.fields) = (s.types.filter fun t => decide (t.name = n)).flatMap fun t => half b k t.fields := fun b => by
    rw [List.filter_map, List.flatMap_map]
    rfl
  rw [contribs_app, contribs_app, contribs_app, hx _ s, hx _ (halfS true k s), e, e, e, (moved_see h hch true).1, (moved_see h hch false).1, (moved_see (k := k) h hch true).2]
  simp only [fapp, fone, fhalf, List.append_assoc]
  refine List.Perm.append_left _ ?_
  have hp : ∀ ts : List Typ, List.Perm (ts.flatMap (fun t => half true k t.fields) ++ ts.flatMap fun t => half false k t.fields) (ts.flatMap fun t => t.fields) := fun ts => by
    induction ts with
    | nil => exact List.Perm.refl _
    | cons t ts ih =>
      simp only [List.flatMap_cons]
      have e1 : t.fields = half true k t.fields ++ half false k t.fields := (half_both _).symm
      have : List.Perm (half true k t.fields ++ ts.flatMap (fun t => half true k t.fields) ++ (half false k t.fields ++ ts.flatMap fun t => half false k t.fields)) ((half true k t.fields ++ half false k t.fields) ++ ts.flatMap fun t => t.fields) := by
        rw [List.append_assoc, List.append_assoc]
        refine List.Perm.append_left _ ?_
        refine List.Perm.trans ?_ (List.Perm.append_left _ ih)
        rw [← List.append_assoc, ← List.append_assoc]
        exact List.Perm.append_right _ List.perm_append_comm
      rwa [← e1] at this
  refine List.Perm.trans ?_ (List.Perm.append_right _ (hp _))
  rw [List.append_assoc]
  exact List.Perm.append_left _ List.perm_append_comm
theorem moved_all (hl : (A ++ s :: B).length < 5) : (allM (A ++ halfS true k s :: B ++ [halfS false k s])).2.err = 0 := by
  obtain ⟨h1, h2⟩ := allM_iff.1 h
  have hr := all_right h
  refine allM_iff.2 ⟨wrongS_iff.2 ⟨by simp only [List.length_append, List.length_cons, List.length_nil] at hl ⊢; omega, fun x hx => ?_⟩, fun n => ((moved_fields h hch n).map _).nodup_iff.2 (h2 n)⟩
  simp only [List.mem_append, List.mem_cons, List.not_mem_nil, or_false] at hx
  rcases hx with (hx | rfl | hx) | rfl
  · exact hr x (by simp [hx])
  · exact half_rightS _ _ (hr s (by simp))
  · exact hr x (by simp [hx])
  · exact half_rightS _ _ (hr s (by simp))
theorem moved_sem (hl : (A ++ s :: B).length < 5) : semOf (A ++ halfS true k s :: B ++ [halfS false k s]) (allM (A ++ halfS true k s :: B ++ [halfS false k s])).1 = semOf (A ++ s :: B) (allM (A ++ s :: B)).1 := by
  have hm := moved_all (k := k) h hch hl
  have hrs := all_right h s (by simp)
  have hnm : ∀ n, n ∈ (contribs 0 (A ++ halfS true k s :: B ++ [halfS false k s])).map (·.2.type.name) ↔ n ∈ (contribs 0 (A ++ s :: B)).map (·.2.type.name) := fun n => by
    have hin : ∀ (b : Bool), n ∈ (seeInit (s.types.map (halfT b k))).map (·.type.name) ↔ n ∈ (seeInit s.types).map (·.type.name) := fun b => by
      unfold seeInit
      rw [List.map_map, List.map_map, List.map_map]
      rfl
    constructor
    · intro hx
      obtain ⟨c, hc, hcn⟩ := List.mem_map.1 hx
      obtain ⟨i, x, h1, _, h3⟩ := contribs_mem hc
      rcases moved_get h1 with ⟨j, hj, _⟩ | rfl | rfl
      · exact List.mem_map.2 ⟨_, mem_contribs (n := 0) hj h3, hcn⟩
      · rw [(moved_see h hch true).1] at h3
        obtain ⟨q, hq, hqn⟩ := List.mem_map.1 ((hin true).1 (List.mem_map.2 ⟨_, h3, hcn⟩))
        exact List.mem_map.2 ⟨_, mem_contribs (n := 0) (i := A.length) (s := s) (by simp) (by rw [(moved_see (k := k) h hch true).2]; exact hq), hqn⟩
      · rw [(moved_see h hch false).1] at h3
        obtain ⟨q, hq, hqn⟩ := List.mem_map.1 ((hin false).1 (List.mem_map.2 ⟨_, h3, hcn⟩))
        exact List.mem_map.2 ⟨_, mem_contribs (n := 0) (i := A.length) (s := s) (by simp) (by rw [(moved_see (k := k) h hch true).2]; exact hq), hqn⟩
    · intro hx
      obtain ⟨c, hc, hcn⟩ := List.mem_map.1 hx
      obtain ⟨i, x, h1, _, h3⟩ := contribs_mem hc
      rcases get_moved (k := k) h1 with ⟨rfl, _⟩ | h4
      · rw [(moved_see (k := k) h hch true).2] at h3
        obtain ⟨q, hq, hqn⟩ := List.mem_map.1 ((hin true).2 (List.mem_map.2 ⟨_, h3, hcn⟩))
        exact List.mem_map.2 ⟨_, mem_contribs (n := 0) (moved_first) (by rw [(moved_see h hch true).1]; exact hq), hqn⟩
      · exact List.mem_map.2 ⟨_, mem_contribs (n := 0) h4 h3, hcn⟩
  refine sem_ext (fun n => ?_) (fun n f => ?_) (fun n key => ?_) (fun n f key => ?_)
  · show (partM _ n).isSome = (partM _ n).isSome
    rw [(fld_canon hm).1, (fld_canon h).1]
    simp only [hnm]
  · rw [(fld_canon hm).2, (fld_canon h).2]
    exact fldM_perm (moved_fields h hch n) ((allM_canon h).1.nodup n) f
  · rw [Bool.eq_iff_iff, there_iff hm, there_iff h]
    have back : ∀ (b : Bool) (q : Sn), q ∈ seeInit (s.types.map (halfT b k)) → q.type.name = n → (thingM (halfS b k s).things q.own key).isSome → ∃ (i : Nat) (s' : Svc) (q : Sn), (A ++ s :: B)[i]? = some s' ∧ q ∈ (seeM s'.types s'.changes).1 ∧ q.type.name = n ∧ (thingM s'.things q.own key).isSome := by
      intro b q hq hqn ht
      obtain ⟨t', ht', rfl⟩ := List.mem_map.1 hq
      obtain ⟨t, ht0, rfl⟩ := List.mem_map.1 ht'
      refine ⟨A.length, s, ⟨t, t.name, t.fields.map (·.name)⟩, by simp, by rw [(moved_see (k := k) h hch true).2]; exact List.mem_map.2 ⟨t, ht0, rfl⟩, hqn, ?_⟩
      have ht : (thingM (s.things.map (halfX b k)) t.name key).isSome := ht
      rw [thingM_half, Option.isSome_map] at ht
      exact ht
    constructor
    · rintro ⟨i, x, q, h1, h2, h3, h4⟩
      rcases moved_get h1 with ⟨j, hj, _⟩ | rfl | rfl
      · exact ⟨j, x, q, hj, h2, h3, h4⟩
      · rw [(moved_see h hch true).1] at h2
        exact back true q h2 h3 h4
      · rw [(moved_see h hch false).1] at h2
        exact back false q h2 h3 h4
    · rintro ⟨i, x, q, h1, h2, h3, h4⟩
      rcases get_moved (k := k) h1 with ⟨rfl, _⟩ | h5
      · rw [(moved_see (k := k) h hch true).2] at h2
        obtain ⟨t, ht, rfl⟩ := List.mem_map.1 h2
        refine ⟨A.length, halfS true k x, ⟨halfT true k t, t.name, (half true k t.fields).map (·.name)⟩, moved_first, ?_, h3, ?_⟩
        · rw [(moved_see h hch true).1]
          exact List.mem_map.2 ⟨halfT true k t, List.mem_map_of_mem ht, rfl⟩
        · show (thingM (x.things.map (halfX true k)) t.name key).isSome
          rw [thingM_half, Option.isSome_map]
          exact h4
      · exact ⟨i, x, q, h5, h2, h3, h4⟩
  · have key2 : ∀ v, (semOf (A ++ halfS true k s :: B ++ [halfS false k s]) (allM (A ++ halfS true k s :: B ++ [halfS false k s])).1).val n f key = some v ↔ (semOf (A ++ s :: B) (allM (A ++ s :: B)).1).val n f key = some v := by
      intro v
      rw [val_iff hm, val_iff h]
      have hvals : ∀ {t : Typ} {x : Thg}, t ∈ s.types → thingM s.things t.name key = some x → ValsOk t.fields x.vals ∧ (t.fields.map (·.name)).Nodup := fun {t x} ht hx => by
        obtain ⟨h1, h2, _⟩ := thingM_mem hx
        obtain ⟨_, j, t', _, h4, h5, h6⟩ := hrs.things x h1
        obtain ⟨i, hi⟩ := List.getElem?_of_mem ht
        have e1 : (s.types.map (·.name))[i]? = some t.name := by rw [List.getElem?_map, hi]; rfl
        have e2 : (s.types.map (·.name))[j]? = some t.name := by rw [List.getElem?_map, h4]; show some t'.name = _; rw [h5, h2]
        have hij : i = j := (List.getElem?_inj (List.getElem?_eq_some_iff.1 e1).1 hrs.types.nodup).1 (e1.trans e2.symm)
        subst hij
        rw [hi] at h4
        cases h4
        exact ⟨h6, (hrs.types.fields t ht).nodup⟩
      constructor
      · rintro ⟨i, x, q, h1, h2, h3, m, fl, own, h4, h5, h6, y, h7, h8, h9⟩
        have back : ∀ b : Bool, x = halfS b k s → ∃ (i : Nat) (s' : Svc) (q : Sn), (A ++ s :: B)[i]? = some s' ∧ q ∈ (seeM s'.types s'.changes).1 ∧ q.type.name = n ∧ ∃ (m : Nat) (fl : Fld) (own : Str), q.type.fields[m]? = some fl ∧ fl.name = f ∧ q.fields[m]? = some own ∧ ∃ x, thingM s'.things q.own key = some x ∧ v ∈ x.vals ∧ v.field = own := by
          intro b hb
          subst hb
          rw [(moved_see h hch b).1] at h2
          obtain ⟨t', ht', rfl⟩ := List.mem_map.1 h2
          obtain ⟨t, ht0, rfl⟩ := List.mem_map.1 ht'
          have h7 : thingM (s.things.map (halfX b k)) t.name key = some y := h7
          rw [thingM_half] at h7
          obtain ⟨y0, hy0, rfl⟩ := Option.map_eq_some_iff.1 h7
          have h4 : (half b k t.fields)[m]? = some fl := h4
          have h6 : ((half b k t.fields).map (·.name))[m]? = some own := h6
          rw [List.getElem?_map, h4] at h6
          have h6 : fl.name = own := Option.some.inj h6
          obtain ⟨j, hj, _⟩ := half_get h4 h4
          refine ⟨A.length, s, ⟨t, t.name, t.fields.map (·.name)⟩, by simp, by rw [(moved_see (k := k) h hch true).2]; exact List.mem_map.2 ⟨t, ht0, rfl⟩, h3, j, fl, own, hj, h5, by rw [List.getElem?_map, hj]; exact congrArg some h6, y0, hy0, (half_sub y0.vals).subset h8, h9⟩
        rcases moved_get h1 with ⟨j, hj, _⟩ | hx | hx
        · exact ⟨j, x, q, hj, h2, h3, m, fl, own, h4, h5, h6, y, h7, h8, h9⟩
        · exact back true hx
        · exact back false hx
      · rintro ⟨i, x, q, h1, h2, h3, m, fl, own, h4, h5, h6, y, h7, h8, h9⟩
        rcases get_moved (k := k) h1 with ⟨rfl, _⟩ | h10
        · rw [(moved_see (k := k) h hch true).2] at h2
          obtain ⟨t, ht, rfl⟩ := List.mem_map.1 h2
          have h4 : t.fields[m]? = some fl := h4
          have h6 : (t.fields.map (·.name))[m]? = some own := h6
          rw [List.getElem?_map, h4] at h6
          have h6 : fl.name = own := Option.some.inj h6
          have h7 : thingM x.things t.name key = some y := h7
          obtain ⟨hv1, hv2⟩ := hvals ht h7
          have hfm : fl ∈ half true k t.fields ++ half false k t.fields := by rw [half_both]; exact List.mem_of_getElem? h4
          have fwd : ∀ b : Bool, fl ∈ half b k t.fields → ∃ (m : Nat) (fl : Fld) (own : Str), (half b k t.fields)[m]? = some fl ∧ fl.name = f ∧ ((half b k t.fields).map (·.name))[m]? = some own ∧ ∃ z, thingM (x.things.map (halfX b k)) t.name key = some z ∧ v ∈ z.vals ∧ v.field = own := by
            intro b hb
            obtain ⟨j, hj⟩ := List.getElem?_of_mem hb
            have hok := half_vals (b := b) (k := k) hv1
            have hlt := (List.getElem?_eq_some_iff.1 hj).1
            have hu : (half b k y.vals)[j]? = some ((half b k y.vals)[j]'(by rw [hok.len]; exact hlt)) := List.getElem?_eq_getElem _
            have hun := (hok.each j fl _ hj hu).name
            have hvu : v = (half b k y.vals)[j]'(by rw [hok.len]; exact hlt) := by
              have hnd : (y.vals.map (·.field)).Nodup := by rw [hv1.names]; exact hv2
              have h11 := filter_one hnd h8
              have h12 : (half b k y.vals)[j]'(by rw [hok.len]; exact hlt) ∈ y.vals.filter fun u => decide (u.field = v.field) := List.mem_filter.2 ⟨(half_sub y.vals).subset (List.mem_of_getElem? hu), decide_eq_true (hun.trans (h6.trans h9.symm))⟩
              rw [h11] at h12
              exact (List.mem_singleton.1 h12).symm
            refine ⟨j, fl, own, hj, h5, by rw [List.getElem?_map, hj]; exact congrArg some h6, halfX b k y, by rw [thingM_half, h7]; rfl, ?_, h9⟩
            show v ∈ half b k y.vals
            rw [hvu]
            exact List.mem_of_getElem? hu
          rcases List.mem_append.1 hfm with hb | hb
          · obtain ⟨m', fl', own', e⟩ := fwd true hb
            refine ⟨A.length, halfS true k x, ⟨halfT true k t, t.name, (half true k t.fields).map fun g : Fld => g.name⟩, moved_first, ?_, h3, m', fl', own', e⟩
            rw [(moved_see h hch true).1]
            exact List.mem_map.2 ⟨halfT true k t, List.mem_map_of_mem ht, rfl⟩
          · obtain ⟨m', fl', own', e⟩ := fwd false hb
            refine ⟨(A ++ x :: B).length, halfS false k x, ⟨halfT false k t, t.name, (half false k t.fields).map fun g : Fld => g.name⟩, moved_last, ?_, h3, m', fl', own', e⟩
            rw [(moved_see h hch false).1]
            exact List.mem_map.2 ⟨halfT false k t, List.mem_map_of_mem ht, rfl⟩
        · exact ⟨i, x, q, h10, h2, h3, m, fl, own, h4, h5, h6, y, h7, h8, h9⟩
    cases h1 : (semOf (A ++ s :: B) (allM (A ++ s :: B)).1).val n f key with
    | some v => exact (key2 v).2 h1
    | none =>
      cases h2 : (semOf (A ++ halfS true k s :: B ++ [halfS false k s]) (allM (A ++ halfS true k s :: B ++ [halfS false k s])).1).val n f key with
      | none => rfl
      | some v => rw [(key2 v).1 h2] at h1; cases h1
theorem moved_mean (hl : (A ++ s :: B).length < 5) (m : Nat) (a : Ak) : meanM m (A ++ halfS true k s :: B ++ [halfS false k s]) a = meanM m (A ++ s :: B) a := by
  have hm := moved_all (k := k) h hch hl
  have hs := moved_sem (k := k) h hch hl
  have hc : checkM m (allM (A ++ halfS true k s :: B ++ [halfS false k s])).1 a = checkM m (allM (A ++ s :: B)).1 a := checkM_congr (l := A ++ halfS true k s :: B ++ [halfS false k s]) (l' := A ++ s :: B) (fun n => by rw [hs]) (fun n f => by rw [hs]) m a
  unfold meanM
  rw [if_pos h, if_pos hm, hs, hc]
end
end Go.Proofs.Ytgckpmcdlciibac
