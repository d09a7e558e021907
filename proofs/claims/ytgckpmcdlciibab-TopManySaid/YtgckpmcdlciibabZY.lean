/- Several texts in one: Plain functions of chapter 7: which requests what is asked for takes. Plain laws of chapter 7: requests that can be answered, few, of what is seen; who is not asked is no matter. -/
import Derived.Test.YtgckpmcdlciibabZV
namespace Go.Proofs.Ytgckpmcdlciibab
theorem strAt_mem {l : List Str} {x : Str} : 0 ≤ strAt l x ↔ x ∈ l := by
  unfold strAt
  rw [firstIdx_nonneg_iff, List.any_eq_true]
  constructor
  · rintro ⟨y, hy, he⟩
    rw [← of_decide_eq_true he]
    exact hy
  · intro h
    exact ⟨x, h, decide_eq_true rfl⟩
instance memDec (x : Str) (l : List Str) : Decidable (x ∈ l) := decidable_of_iff (0 ≤ strAt l x) strAt_mem
def ownerM (p : Prt) (f : Str) : Option Ownr := if fieldF p.type.fields f < 0 then none else p.owners[(fieldF p.type.fields f).toNat]?
def valOf (l : List Svc) (p : Prt) (f k : Str) : Option VVal := if fieldF p.type.fields f < 0 then none else valM l p (fieldF p.type.fields f).toNat k
/-- a home's own fields that are asked for, each once, and as what they are seen -/
def fldsStep (p : Prt) (h : Ownr) (acc : List (Str × Str)) (n : Str) : List (Str × Str) := match ownerM p n with
  | some o => if o.service = h.service ∧ o.type = h.type ∧ ¬ o.field ∈ acc.map (·.1) then acc ++ [(o.field, n)] else acc
  | none => acc
def fldsFor (p : Prt) (h : Ownr) (ns : List Str) : List (Str × Str) := ns.foldl (fldsStep p h) []
def rqFor (p : Prt) (keys : List Str) (picks : List Pck) (h : Ownr) : Rq := ⟨h.service, h.type, keys, (fldsFor p h (picks.map Pck.field)).map (·.1)⟩
def homesRq (p : Prt) (keys : List Str) (picks : List Pck) : List Rq := p.homes.map (rqFor p keys picks)
def addNew (acc : List Str) (x : Str) : List Str := if x ∈ acc then acc else acc ++ [x]
def dedup (l : List Str) : List Str := l.foldl addNew []
def leadsOf (l : List Svc) (p : Prt) (f k : Str) : List Str := match valOf l p f k with
  | some v => v.keys
  | none => []
def nextM (l : List Svc) (p : Prt) (f : Str) (keys : List Str) : List Str := dedup (keys.flatMap (leadsOf l p f))
mutual
def askP (l : List Svc) (ps : List Prt) : Pck → Prt → List Str → List Rq
  | .mk _ field sub, p, keys => match fldM p.type.fields field with
    | none => []
    | some f => if f.kind = 1 then [] else if nextM l p field keys = [] then [] else match partM ps f.type with
      | none => []
      | some q => homesRq q (nextM l p field keys) sub ++ askL l ps sub q (nextM l p field keys)
  termination_by structural p => p
def askL (l : List Svc) (ps : List Prt) : List Pck → Prt → List Str → List Rq
  | [], _, _ => []
  | p :: r, q, keys => askP l ps p q keys ++ askL l ps r q keys
  termination_by structural p => p
end
def asksM (l : List Svc) (ps : List Prt) (p : Prt) (keys : List Str) (picks : List Pck) : List Rq := homesRq p keys picks ++ askL l ps picks p keys
def runM (m : Nat) (l : List Svc) (a : Ak) : List Gt × List Rq × Int :=
  if (meanM m l a).2 = 0 then match partM (allM l).1 a.type with
    | some p => ((meanM m l a).1, asksM l (allM l).1 p [a.key] a.picks, 0)
    | none => ([], [], 5)
  else ([], [], (meanM m l a).2)
theorem dedup_go (l : List Str) : ∀ acc : List Str, acc.Nodup → (l.foldl addNew acc).Nodup ∧ ∀ x, x ∈ l.foldl addNew acc ↔ x ∈ acc ∨ x ∈ l := by
  induction l with
  | nil => intro acc h; exact ⟨h, fun x => by simp⟩
  | cons y l ih =>
    intro acc h
    rw [List.foldl_cons]
    by_cases hy : y ∈ acc
    · rw [show addNew acc y = acc from if_pos hy]
      refine ⟨(ih acc h).1, fun x => ?_⟩
      rw [(ih acc h).2]
      constructor
      · rintro (h1 | h1)
        · exact .inl h1
        · exact .inr (List.mem_cons_of_mem _ h1)
      · rintro (h1 | h1)
        · exact .inl h1
        · rcases List.mem_cons.1 h1 with rfl | h1
          · exact .inl hy
          · exact .inr h1
    · rw [show addNew acc y = acc ++ [y] from if_neg hy]
      have h2 : (acc ++ [y]).Nodup := nodup_snoc.2 ⟨h, hy⟩
      refine ⟨(ih _ h2).1, fun x => ?_⟩
      rw [(ih _ h2).2]
      simp [or_assoc]
theorem dedup_nodup (l : List Str) : (dedup l).Nodup := (dedup_go l [] List.nodup_nil).1
theorem mem_dedup {l : List Str} {x : Str} : x ∈ dedup l ↔ x ∈ l := by rw [dedup, (dedup_go l [] List.nodup_nil).2]; simp
theorem mem_next {l : List Svc} {p : Prt} {f : Str} {keys : List Str} {x : Str} : x ∈ nextM l p f keys ↔ ∃ k ∈ keys, ∃ v, valOf l p f k = some v ∧ x ∈ v.keys := by
  unfold nextM
  rw [mem_dedup, List.mem_flatMap]
  constructor
  · rintro ⟨k, hk, hx⟩
    unfold leadsOf at hx
    cases hv : valOf l p f k with
    | none => rw [hv] at hx; cases hx
    | some v => rw [hv] at hx; exact ⟨k, hk, v, hv, hx⟩
  · rintro ⟨k, hk, v, hv, hx⟩
    refine ⟨k, hk, ?_⟩
    unfold leadsOf
    rw [hv]
    exact hx
theorem flds_go (p : Prt) (h : Ownr) : ∀ (ns : List Str) (acc : List (Str × Str)), (acc.map (·.1)).Nodup → (∀ x ∈ acc, ∃ o, ownerM p x.2 = some o ∧ o.service = h.service ∧ o.type = h.type ∧ o.field = x.1) →
    ((ns.foldl (fldsStep p h) acc).map (·.1)).Nodup ∧ (∀ x ∈ ns.foldl (fldsStep p h) acc, ∃ o, ownerM p x.2 = some o ∧ o.service = h.service ∧ o.type = h.type ∧ o.field = x.1) := by
  intro ns
  induction ns with
  | nil => intro acc h1 h2; exact ⟨h1, h2⟩
  | cons n ns ih =>
    intro acc h1 h2
    rw [List.foldl_cons]
    refine ih _ ?_ ?_
    · unfold fldsStep
      cases ownerM p n with
      | none => exact h1
      | some o =>
        simp only
        split
        · rename_i hc
          rw [List.map_append]
          exact nodup_snoc.2 ⟨h1, hc.2.2⟩
        · exact h1
    · intro x hx
      unfold fldsStep at hx
      cases ho : ownerM p n with
      | none => rw [ho] at hx; exact h2 x hx
      | some o =>
        rw [ho] at hx
        simp only at hx
        split at hx
        · rename_i hc
          rcases List.mem_append.1 hx with hx | hx
          · exact h2 x hx
          · simp only [List.mem_singleton] at hx
            subst hx
            exact ⟨o, ho, hc.1, hc.2.1, rfl⟩
        · exact h2 x hx
theorem flds_nodup (p : Prt) (h : Ownr) (ns : List Str) : ((fldsFor p h ns).map (·.1)).Nodup := (flds_go p h ns [] (by simp) (fun x hx => by simp at hx)).1
theorem flds_owner {p : Prt} {h : Ownr} {ns : List Str} {x : Str × Str} (hx : x ∈ fldsFor p h ns) : ∃ o, ownerM p x.2 = some o ∧ o.service = h.service ∧ o.type = h.type ∧ o.field = x.1 := (flds_go p h ns [] (by simp) (fun x hx => by simp at hx)).2 x hx
/-- every request is one of a home of a type of the whole, of some keys, each once -/
def FromHome (ps : List Prt) (r : Rq) : Prop := ∃ p ∈ ps, ∃ keys : List Str, ∃ picks : List Pck, ∃ h ∈ p.homes, r = rqFor p keys picks h ∧ keys.Nodup ∧ keys ≠ []
theorem partM_in {ps : List Prt} {n : Str} {p : Prt} (h : partM ps n = some p) : p ∈ ps ∧ p.type.name = n := by
  unfold partM at h
  split at h
  · cases h
  · rename_i h0
    obtain ⟨k, q, hk, hq, hn, _⟩ := firstIdx_lt (l := ps) (p := fun p => decide (p.type.name = n)) (by unfold partF at h0; omega)
    have hk : partF ps n = (k : Int) := hk
    rw [hk, Int.toNat_natCast, hq] at h
    cases h
    exact ⟨List.mem_of_getElem? hq, of_decide_eq_true hn⟩
theorem ownerM_get {p : Prt} {n : Str} {o : Ownr} (h : ownerM p n = some o) : ∃ k : Nat, fieldF p.type.fields n = (k : Int) ∧ p.owners[k]? = some o := by
  unfold ownerM at h
  split at h
  · cases h
  · rename_i h0
    obtain ⟨k, hk⟩ := Int.eq_ofNat_of_zero_le (show 0 ≤ fieldF p.type.fields n by omega)
    rw [hk, Int.toNat_natCast] at h
    exact ⟨k, hk, h⟩
/-- what a home is, and whose fields it is asked for -/
theorem request_of {l : List Svc} (h : (allM l).2.err = 0) {r : Rq} (hr : FromHome (allM l).1 r) : ∃ (i : Nat) (s : Svc) (q : Sn) (t : Typ), r.service = (i : Int) ∧ l[i]? = some s ∧ RightS s ∧ SeenAs s q t ∧ q.own = r.type ∧ r.keys.Nodup ∧ r.keys ≠ [] ∧ r.fields.Nodup ∧ ∀ f ∈ r.fields, f ∈ q.fields := by
  obtain ⟨p, hp, keys, picks, o, ho, rfl, hk, hne⟩ := hr
  obtain ⟨i, s, q, t, h1, h2, h3, h4, h5, h6⟩ := part_home h hp ho
  refine ⟨i, s, q, t, h1, h2, h3, h4, h6, hk, hne, flds_nodup _ _ _, fun f hf => ?_⟩
  obtain ⟨x, hx, rfl⟩ := List.mem_map.1 hf
  obtain ⟨o2, ho2, e1, e2, e3⟩ := flds_owner hx
  obtain ⟨k, _, hk2⟩ := ownerM_get ho2
  have hlt : k < p.type.fields.length := by rw [← prt_len h hp]; exact (List.getElem?_eq_some_iff.1 hk2).1
  obtain ⟨o3, i2, s2, q2, t2, m, ho3, hb⟩ := part_field h hp (List.getElem?_eq_getElem hlt)
  rw [hk2] at ho3
  cases ho3
  have hi : i2 = i := by have := hb.service; rw [e1, h1] at this; omega
  subst hi
  have hs : s2 = s := Option.some.inj (hb.svc.symm.trans h2)
  subst hs
  have hq : q2 = q := seen_own h3 hb.seen.mem h4.mem (by rw [hb.own, e2, h6])
  subst hq
  rw [← e3]
  exact List.mem_of_getElem? hb.ofld
end Go.Proofs.Ytgckpmcdlciibab

namespace Go.Proofs.Ytgckpmcdlciibab
theorem own_names {q : Sn} {t : Typ} {s : Svc} (h : SeenAs s q t) {f : Str} (hf : f ∈ q.fields) : f ∈ t.fields.map (·.name) := by
  obtain ⟨i, hi⟩ := List.getElem?_of_mem hf
  have hlt := (List.getElem?_eq_some_iff.1 hi).1
  have h1 : (ownK q)[i]? = some (f, (q.type.fields[i]'(by rw [← h.len]; exact hlt)).kind) := by
    unfold ownK
    rw [List.getElem?_zip_eq_some]
    exact ⟨hi, by rw [List.getElem?_map, List.getElem?_eq_getElem (by rw [← h.len]; exact hlt)]; rfl⟩
  have h2 := h.sub.subset (List.mem_of_getElem? h1)
  obtain ⟨g, hg, he⟩ := List.mem_map.1 h2
  simp only [Prod.mk.injEq] at he
  exact List.mem_map.2 ⟨g, hg, he.1⟩
theorem dup_of_nodup {l : List Str} (h : l.Nodup) {j : Nat} {y : Str} (hj : l[j]? = some y) : ¬ 0 ≤ strAt (l.take j) y := fun h0 => by
  have hm := strAt_mem.1 h0
  obtain ⟨i, hi⟩ := List.getElem?_of_mem hm
  rw [List.getElem?_take] at hi
  split at hi
  · rename_i hij
    have := (List.getElem?_inj (List.getElem?_eq_some_iff.1 hi).1 h).1 (hi.trans hj.symm)
    omega
  · cases hi
theorem fieldF_mem {fs : List Fld} {n : Str} (h : n ∈ fs.map (·.name)) : ¬ fieldF fs n < 0 := fun h0 => fieldF_none.1 h0 h
theorem rq_right {l : List Svc} (h : (allM l).2.err = 0) {r : Rq} (hr : FromHome (allM l).1 r) : wrongRq l r = 0 := by
  obtain ⟨i, s, q, t, h1, h2, h3, h4, h5, h6, h7, h8, h9⟩ := request_of h hr
  have hs : l[r.service.toNat]? = some s := by rw [h1, Int.toNat_natCast]; exact h2
  rw [wrongRq_some (by omega) hs]
  obtain ⟨k, hk⟩ := List.getElem?_of_mem h4.type
  have hn : r.type ∈ s.types.map (·.name) := by rw [← h5, h4.own]; exact List.mem_map_of_mem h4.type
  have h0 : 0 ≤ findT s.types r.type := find_mem.2 hn
  obtain ⟨j, t', hj, ht', htn, _⟩ := findT_get (l := s.types) (n := r.type) (by omega)
  have e1 : (s.types.map (·.name))[k]? = some r.type := by rw [List.getElem?_map, hk, ← h5, h4.own]; rfl
  have e2 : (s.types.map (·.name))[j]? = some r.type := by rw [List.getElem?_map, ht', ← htn]; rfl
  have hkj : k = j := (List.getElem?_inj (List.getElem?_eq_some_iff.1 e1).1 h3.types.nodup).1 (e1.trans e2.symm)
  subst hkj
  rw [hk] at ht'
  cases ht'
  rw [hj, if_neg (by omega), Int.toNat_natCast, hk]
  have e3 : firstBad (rqErr t.fields r.fields) 0 r.fields = none := firstBad_none fun j y hy => by
    unfold rqErr
    rw [if_neg (fieldF_mem (own_names h4 (h9 y (List.mem_of_getElem? hy)))), if_neg (dup_of_nodup h8 hy)]
  have e4 : firstBad (dupErr r.keys) 0 r.keys = none := firstBad_none fun j y hy => by
    unfold dupErr
    rw [if_neg (dup_of_nodup h6 hy)]
  show rqTail t.fields r.fields r.keys = 0
  unfold rqTail
  rw [e3]
  dsimp only
  rw [e4]
mutual
def listsP : Pck → Nat
  | .mk _ _ ps => if ps.length = 0 then 0 else 1 + listsL ps
  termination_by structural p => p
def listsL : List Pck → Nat
  | [] => 0
  | p :: r => listsP p + listsL r
  termination_by structural p => p
end
/-- picks of at most so many levels -/
def lvl : Nat → List Pck → Prop
  | 0, ps => ps = []
  | m + 1, ps => ∀ q ∈ ps, lvl m q.picks
theorem lvl_nil : ∀ m, lvl m []
  | 0 => rfl
  | m + 1 => fun q hq => by simp at hq
theorem mine_len {n : Str} : ∀ {l : List Svc} {i : Nat}, (∀ s ∈ l, RightS s) → (mine (contribs i l) n).length ≤ l.length
  | [], i, _ => by simp [contribs, mine]
  | s :: l, i, h => by
    have ih := mine_len (n := n) (l := l) (i := i + 1) fun s' hs => h s' (by simp [hs])
    rw [show contribs i (s :: l) = (seeM s.types s.changes).1.map (fun q => ((i : Int), q)) ++ contribs (i + 1) l from rfl, mine_app, List.length_append, List.length_cons]
    have h1 : (mine ((seeM s.types s.changes).1.map (fun q => ((i : Int), q))) n).length ≤ 1 := by
      have hnd := (seeM_right (h s (by simp)).see).1.nodup
      rw [List.map_map] at hnd
      unfold mine
      rw [List.filter_map, List.length_map]
      generalize (seeM s.types s.changes).1 = v at hnd
      clear ih h
      induction v with
      | nil => simp
      | cons x v ih =>
        rw [List.map_cons, List.nodup_cons] at hnd
        rw [List.filter_cons]
        split
        · rename_i hx
          have hx : x.type.name = n := of_decide_eq_true hx
          have : v.filter ((fun c : Int × Sn => decide (c.2.type.name = n)) ∘ fun q => ((i : Int), q)) = [] := List.filter_eq_nil_iff.2 fun y hy hd => hnd.1 (by
            have hd : y.type.name = n := of_decide_eq_true hd
            refine List.mem_map.2 ⟨y, hy, ?_⟩
            simp only [Function.comp]
            rw [hd, hx])
          rw [this]
          simp
        · exact ih hnd.2
    omega
theorem homes_len {l : List Svc} (h : (allM l).2.err = 0) {p : Prt} (hp : p ∈ (allM l).1) : p.homes.length ≤ l.length := by
  have e1 : p.homes = homesOf (contribs 0 l) p.type.name := congrArg (fun p : Prt => p.homes) ((allM_canon h).1.eq p hp)
  rw [e1]
  unfold homesOf
  rw [List.length_map]
  exact mine_len (all_right h)
theorem askL_map (l : List Svc) (ps : List Prt) : ∀ (picks : List Pck) (p : Prt) (keys : List Str), askL l ps picks p keys = picks.flatMap fun q => askP l ps q p keys
  | [], p, keys => by simp [askL]
  | q :: r, p, keys => by simp [askL, askL_map l ps r p keys]
theorem listsL_sum : ∀ (picks : List Pck), listsL picks = (picks.map listsP).sum
  | [] => by simp [listsL]
  | q :: r => by simp [listsL, listsL_sum r]
theorem fldM_at {fs : List Fld} {n : Str} {j : Nat} {f : Fld} (hj : fieldF fs n = (j : Int)) (hf : fs[j]? = some f) : fldM fs n = some f := by
  unfold fldM
  rw [hj, if_neg (by omega), Int.toNat_natCast, hf]
theorem asks_few {l : List Svc} {ps : List Prt} {N : Nat} (hw : WholeOk l ps) (hN : ∀ p ∈ ps, p.homes.length ≤ N) : ∀ (m : Nat) (picks : List Pck) (p : Prt) (keys : List Str), p ∈ ps → lvl m picks → goesM m ps p.type.name picks = 0 → (askL l ps picks p keys).length ≤ listsL picks * N
  | 0, picks, p, keys, _, hl, _ => by
    have hl : picks = [] := hl
    subst hl
    simp [askL]
  | m + 1, picks, p, keys, hp, hl, hg => by
    rw [askL_map, listsL_sum]
    obtain ⟨k, t, hk, ht, hn, heach⟩ := goes_ok hg
    have htp : t = p := by
      have h1 := partM_mem hw hp
      unfold partM at h1
      rw [hk, if_neg (by omega), Int.toNat_natCast, ht] at h1
      exact Option.some.inj h1
    subst htp
    have key : ∀ q ∈ picks, (askP l ps q t keys).length ≤ listsP q * N := fun q hq => by
      obtain ⟨i, hi⟩ := List.getElem?_of_mem hq
      obtain ⟨⟨j, f, hj, hf, _, hkind, hsub⟩, _⟩ := heach i q hi
      have hlq := hl q hq
      obtain ⟨a, fd, sub⟩ := q
      simp only [Pck.field, Pck.picks] at hj hkind hsub hlq
      simp only [askP, fldM_at hj hf]
      split
      · simp
      rename_i h1
      split
      · simp
      have hne : sub ≠ [] := fun h => h1 (hkind.2 h)
      cases hq2 : partM ps f.type with
      | none => simp
      | some q2 =>
        obtain ⟨hm, hnm⟩ := partM_in hq2
        have ih := asks_few hw hN m sub q2 (nextM l t fd keys) hm hlq (by rw [hnm]; exact hsub hne)
        have h2 := hN q2 hm
        simp only [listsP, if_neg (show ¬ sub.length = 0 from fun h => hne (List.eq_nil_of_length_eq_zero h)), List.length_append, homesRq, List.length_map]
        rw [Nat.add_mul, Nat.one_mul]
        omega
    clear heach hl hg hk ht
    induction picks with
    | nil => simp
    | cons q r ih =>
      rw [List.flatMap_cons, List.map_cons, List.sum_cons, List.length_append, Nat.add_mul]
      have h1 := key q (by simp)
      have h2 := ih (fun q' hq' => key q' (by simp [hq']))
      omega
theorem asksM_few {m : Nat} {l : List Svc} (h : (allM l).2.err = 0) {p : Prt} (hp : p ∈ (allM l).1) {keys : List Str} {picks : List Pck} (hl : lvl m picks) (hg : goesM m (allM l).1 p.type.name picks = 0) :
    (asksM l (allM l).1 p keys picks).length ≤ (1 + listsL picks) * l.length ∧ 1 ≤ (asksM l (allM l).1 p keys picks).length := by
  have h1 := asks_few (wholeOk h) (fun q hq => homes_len h hq) m picks p keys hp hl hg
  have h2 := homes_len h hp
  have h3 := part_homes h hp
  unfold asksM homesRq
  rw [List.length_append, List.length_map, Nat.add_mul, Nat.one_mul]
  have h4 : p.homes.length ≠ 0 := fun h => h3 (List.eq_nil_of_length_eq_zero h)
  omega
section
variable {l l' : List Svc} (h : (allM l).2.err = 0)
include h
theorem sem_val (l2 : List Svc) {p : Prt} (hp : p ∈ (allM l).1) (f k : Str) : (semOf l2 (allM l).1).val p.type.name f k = valOf l2 p f k := by
  simp only [semOf, partM_mem (wholeOk h) hp]
  rfl
end
end Go.Proofs.Ytgckpmcdlciibab
