/- Several texts in one: Plain laws of chapter 7: what the homes of a type say, put together. Plain laws of chapter 7: how much it is at most; what leads on. Contracts of chapter 7: a copy of what was got. Rows of things in memory: a map of keys, for each whether it is there, and a map of its fields. -/
import Derived.Test.YtgckpmcdlciibabZY
import Derived.Test.YtgckpmcdlciibabZW
import Derived.Test.YtgckpmcdlciibabYEngP
import Derived.Test.YtgckpmcdlciibabZK
import Derived.Test.YtgckpmcdlciibabZG
namespace Go.Proofs.Ytgckpmcdlciibab
section
variable {l : List Svc} (h : (allM l).2.err = 0)
include h
/-- a field's owner tells the field -/
theorem owner_inj {p : Prt} (hp : p ∈ (allM l).1) {n n' : Str} {o o' : Ownr} (h1 : ownerM p n = some o) (h2 : ownerM p n' = some o') (hs : o.service = o'.service) (ht : o.type = o'.type) (hf : o.field = o'.field) : n = n' := by
  unfold ownerM at h1 h2
  split at h1
  · cases h1
  rename_i g1
  split at h2
  · cases h2
  rename_i g2
  obtain ⟨k, f, hk, hfk, hfn, _⟩ := firstIdx_lt (l := p.type.fields) (p := fun t => decide (t.name = n)) (by unfold fieldF at g1; omega)
  obtain ⟨k', f', hk', hfk', hfn', _⟩ := firstIdx_lt (l := p.type.fields) (p := fun t => decide (t.name = n')) (by unfold fieldF at g2; omega)
  have hk : fieldF p.type.fields n = (k : Int) := hk
  have hk' : fieldF p.type.fields n' = (k' : Int) := hk'
  rw [hk, Int.toNat_natCast] at h1
  rw [hk', Int.toNat_natCast] at h2
  obtain ⟨o1, i1, s1, q1, t1, m1, ho1, hb1⟩ := part_field h hp hfk
  obtain ⟨o2, i2, s2, q2, t2, m2, ho2, hb2⟩ := part_field h hp hfk'
  rw [h1] at ho1
  cases ho1
  rw [h2] at ho2
  cases ho2
  have hi : i1 = i2 := by have := hb1.service; have := hb2.service; omega
  subst hi
  have hss : s2 = s1 := Option.some.inj (hb2.svc.symm.trans hb1.svc)
  subst hss
  have hq : q2 = q1 := seen_own hb1.right hb2.seen.mem hb1.seen.mem (by rw [hb2.own, hb1.own, ht])
  subst hq
  have hnd : q2.fields.Nodup := by
    have e : (ownK q2).map (·.1) = q2.fields := by
      unfold ownK
      rw [List.map_fst_zip (by rw [List.length_map, hb1.seen.len]; exact Nat.le_refl _)]
    rw [← e]
    refine (hb1.seen.sub.map (·.1)).nodup ?_
    rw [List.map_map]
    exact (hb1.right.types.fields _ hb1.seen.type).nodup
  have hm : m1 = m2 := (List.getElem?_inj (List.getElem?_eq_some_iff.1 hb1.ofld).1 hnd).1 (by rw [hb1.ofld, hb2.ofld, hf])
  subst hm
  have hff := hb1.fld.symm.trans hb2.fld
  have hff := Option.some.inj hff
  rw [← of_decide_eq_true hfn, ← of_decide_eq_true hfn', hff]
theorem flds_seen {p : Prt} (hp : p ∈ (allM l).1) {hm : Ownr} : ∀ (ns : List Str) (acc : List (Str × Str)), (∀ x ∈ acc, ∃ o, ownerM p x.2 = some o ∧ o.service = hm.service ∧ o.type = hm.type ∧ o.field = x.1) →
    ∀ n, n ∈ (ns.foldl (fldsStep p hm) acc).map (·.2) ↔ n ∈ acc.map (·.2) ∨ n ∈ ns ∧ ∃ o, ownerM p n = some o ∧ o.service = hm.service ∧ o.type = hm.type
  | [], acc, _, n => by simp
  | x :: ns, acc, hacc, n => by
    rw [List.foldl_cons]
    have hstep : ∀ y ∈ fldsStep p hm acc x, ∃ o, ownerM p y.2 = some o ∧ o.service = hm.service ∧ o.type = hm.type ∧ o.field = y.1 := fun y hy => by
      unfold fldsStep at hy
      cases ho : ownerM p x with
      | none => rw [ho] at hy; exact hacc y hy
      | some o =>
        rw [ho] at hy
        simp only at hy
        split at hy
        · rename_i hc
          rcases List.mem_append.1 hy with hy | hy
          · exact hacc y hy
          · simp only [List.mem_singleton] at hy
            subst hy
            exact ⟨o, ho, hc.1, hc.2.1, rfl⟩
        · exact hacc y hy
    rw [flds_seen hp ns _ hstep n]
    have hmem : n ∈ (fldsStep p hm acc x).map (·.2) ↔ n ∈ acc.map (·.2) ∨ n = x ∧ ∃ o, ownerM p n = some o ∧ o.service = hm.service ∧ o.type = hm.type := by
      unfold fldsStep
      cases ho : ownerM p x with
      | none =>
        simp only
        constructor
        · exact .inl
        · rintro (h1 | ⟨rfl, o, h1, _⟩)
          · exact h1
          · rw [ho] at h1; cases h1
      | some o =>
        simp only
        split
        · rename_i hc
          rw [List.map_append, List.mem_append]
          simp only [List.map_cons, List.map_nil, List.mem_singleton]
          constructor
          · rintro (h1 | rfl)
            · exact .inl h1
            · exact .inr ⟨rfl, o, ho, hc.1, hc.2.1⟩
          · rintro (h1 | ⟨rfl, _⟩)
            · exact .inl h1
            · exact .inr rfl
        · rename_i hc
          constructor
          · exact .inl
          · rintro (h1 | ⟨rfl, o', h1, h2, h3⟩)
            · exact h1
            · rw [ho] at h1
              cases h1
              have hin : o.field ∈ acc.map (·.1) := by
                by_cases hin : o.field ∈ acc.map (·.1)
                · exact hin
                · exact absurd ⟨h2, h3, hin⟩ hc
              obtain ⟨y, hy, hye⟩ := List.mem_map.1 hin
              obtain ⟨o2, k1, k2, k3, k4⟩ := hacc y hy
              have := owner_inj h hp ho k1 (h2.trans k2.symm) (h3.trans k3.symm) (hye.symm.trans k4.symm)
              rw [this]
              exact List.mem_map_of_mem hy
    rw [hmem]
    constructor
    · rintro ((h1 | ⟨rfl, h2⟩) | ⟨h1, h2⟩)
      · exact .inl h1
      · exact .inr ⟨by simp, h2⟩
      · exact .inr ⟨List.mem_cons_of_mem _ h1, h2⟩
    · rintro (h1 | ⟨h1, h2⟩)
      · exact .inl (.inl h1)
      · rcases List.mem_cons.1 h1 with rfl | h1
        · exact .inl (.inr ⟨rfl, h2⟩)
        · exact .inr ⟨h1, h2⟩
end
def ownIn (p : Prt) (hs : List Ownr) (n : Str) : Bool := match ownerM p n with
  | some o => hs.any fun h => decide (o.service = h.service ∧ o.type = h.type)
  | none => false
/-- what some homes say of a thing -/
def rowF (l : List Svc) (p : Prt) (ns : List Str) (hs : List Ownr) (key n : Str) : Option VVal := if n ∈ ns ∧ ownIn p hs n = true then valOf l p n key else none
def rowT (l : List Svc) (hs : List Ownr) (key : Str) : Bool := hs.any fun h => (findW l h key).isSome
theorem rowT_snoc (l : List Svc) (hs : List Ownr) (h : Ownr) (key : Str) : rowT l (hs ++ [h]) key = (rowT l hs key || (findW l h key).isSome) := by simp [rowT]
theorem ownIn_snoc (p : Prt) (hs : List Ownr) (h : Ownr) (n : Str) : ownIn p (hs ++ [h]) n = true ↔ ownIn p hs n = true ∨ ∃ o, ownerM p n = some o ∧ o.service = h.service ∧ o.type = h.type := by
  unfold ownIn
  cases ownerM p n with
  | none => simp
  | some o => simp
/-- what an owner's home has -/
theorem valOf_owner {l : List Svc} {p : Prt} {n key : Str} {o : Ownr} (ho : ownerM p n = some o) : valOf l p n key = match findW l o key with
    | some x => x.vals.find? fun v => decide (v.field = o.field)
    | none => none := by
  unfold ownerM at ho
  unfold valOf
  split at ho
  · cases ho
  · rename_i h0
    rw [if_neg h0]
    unfold valM
    rw [ho]
    rfl
theorem find_same {l : List Svc} {o h : Ownr} {key : Str} (hs : o.service = h.service) (ht : o.type = h.type) : findW l o key = findW l h key := by
  unfold findW
  rw [hs, ht]
theorem rowF_miss {l : List Svc} {p : Prt} {ns : List Str} {hs : List Ownr} {h : Ownr} {key : Str} (hm : findW l h key = none) : rowF l p ns (hs ++ [h]) key = rowF l p ns hs key := by
  funext n
  unfold rowF
  by_cases h1 : n ∈ ns
  · by_cases h2 : ownIn p hs n = true
    · rw [if_pos ⟨h1, (ownIn_snoc p hs h n).2 (.inl h2)⟩, if_pos ⟨h1, h2⟩]
    · rw [if_neg (fun h => h2 h.2 : ¬ (n ∈ ns ∧ ownIn p hs n = true))]
      by_cases h3 : ownIn p (hs ++ [h]) n = true
      · rw [if_pos ⟨h1, h3⟩]
        rcases (ownIn_snoc p hs h n).1 h3 with h4 | ⟨o, h4, h5, h6⟩
        · exact absurd h4 h2
        · rw [valOf_owner h4, find_same h5 h6, hm]
      · rw [if_neg fun h => h3 h.2]
  · rw [if_neg fun h => h1 h.1, if_neg fun h => h1 h.1]
theorem rowF_hit {l : List Svc} (hl : (allM l).2.err = 0) {p : Prt} (hp : p ∈ (allM l).1) {ns : List Str} {hs : List Ownr} {h : Ownr} {key n : Str} : rowF l p ns (hs ++ [h]) key n = if n ∈ (fldsFor p h ns).map (·.2) then valOf l p n key else rowF l p ns hs key n := by
  have hiff := flds_seen hl hp (hm := h) ns [] (fun x hx => by simp at hx) n
  have hiff : n ∈ (fldsFor p h ns).map (·.2) ↔ n ∈ ns ∧ ∃ o, ownerM p n = some o ∧ o.service = h.service ∧ o.type = h.type := by simpa [fldsFor] using hiff
  unfold rowF
  by_cases h1 : n ∈ (fldsFor p h ns).map (·.2)
  · rw [if_pos h1, if_pos ⟨(hiff.1 h1).1, (ownIn_snoc p hs h n).2 (.inr (hiff.1 h1).2)⟩]
  · rw [if_neg h1]
    by_cases h2 : n ∈ ns
    · by_cases h3 : ownIn p hs n = true
      · rw [if_pos ⟨h2, (ownIn_snoc p hs h n).2 (.inl h3)⟩, if_pos ⟨h2, h3⟩]
      · have h6 : ¬ (n ∈ ns ∧ ownIn p (hs ++ [h]) n = true) := fun h5 => by
          rcases (ownIn_snoc p hs h n).1 h5.2 with h4 | h4
          · exact h3 h4
          · exact h1 (hiff.2 ⟨h2, h4⟩)
        rw [if_neg h6, if_neg (fun h => h3 h.2 : ¬ (n ∈ ns ∧ ownIn p hs n = true))]
    · rw [if_neg fun h => h2 h.1, if_neg fun h => h2 h.1]
/-- all homes together -/
theorem rowF_all {l : List Svc} (hl : (allM l).2.err = 0) {p : Prt} (hp : p ∈ (allM l).1) {ns : List Str} {key n : Str} (hn : n ∈ ns) : rowF l p ns p.homes key n = valOf l p n key := by
  unfold rowF
  by_cases h1 : ownIn p p.homes n = true
  · rw [if_pos ⟨hn, h1⟩]
  · rw [if_neg fun h => h1 h.2]
    unfold valOf
    split
    · rfl
    · rename_i h0
      unfold valM
      cases ho : p.owners[(fieldF p.type.fields n).toNat]? with
      | none => rfl
      | some o =>
        exfalso
        refine h1 ?_
        have hom : ownerM p n = some o := by
          unfold ownerM
          rw [if_neg h0, ho]
        unfold ownIn
        rw [hom]
        simp only [List.any_eq_true]
        exact ⟨_, owner_home hl hp ho, decide_eq_true ⟨rfl, rfl⟩⟩
theorem flatMap_one {α β : Type} {g : α → List β} : ∀ {fs : List α} {k : α → β}, (∀ f ∈ fs, g f = [k f]) → fs.flatMap g = fs.map k
  | [], _, _ => rfl
  | f :: fs, k, h => by rw [List.flatMap_cons, h f (by simp), flatMap_one fun x hx => h x (by simp [hx])]; rfl
/-- the reply of a home: value by value as they were asked for -/
theorem reply_vals {l : List Svc} (hl : (allM l).2.err = 0) {p : Prt} (hp : p ∈ (allM l).1) {h : Ownr} {ns : List Str} {key : Str} {x : Thg} (hx : findW l h key = some x) :
    (valsM ((fldsFor p h ns).map (·.1)) (some x)).length = (fldsFor p h ns).length ∧ ∀ (s : Nat) y, (fldsFor p h ns)[s]? = some y → ∃ v, (valsM ((fldsFor p h ns).map (·.1)) (some x))[s]? = some v ∧ valOf l p y.2 key = some v := by
  have hw := wholeOk hl
  have hone : ∀ y ∈ fldsFor p h ns, ∃ v, (x.vals.filter fun u => decide (u.field = y.1)) = [v] ∧ valOf l p y.2 key = some v := fun y hy => by
    obtain ⟨o, h1, h2, h3, h4⟩ := flds_owner hy
    obtain ⟨k, hk, hk2⟩ := ownerM_get h1
    have hlt : k < p.type.fields.length := by rw [← prt_len hl hp]; exact (List.getElem?_eq_some_iff.1 hk2).1
    obtain ⟨_, _, hval⟩ := hw.owner p hp k _ o (List.getElem?_eq_getElem hlt) hk2
    have hxo : findW l o key = some x := by rw [find_same h2 h3]; exact hx
    obtain ⟨v, hv, _, _, _⟩ := hval key x hxo
    refine ⟨v, by rw [← h4]; exact hv, ?_⟩
    rw [valOf_owner h1, hxo]
    simp only
    rw [← List.head?_filter, hv]
    rfl
  have hex : ∀ y : Str × Str, ∃ v : VVal, y ∈ fldsFor p h ns → (x.vals.filter fun u => decide (u.field = y.1)) = [v] ∧ valOf l p y.2 key = some v := fun y => by
    by_cases hy : y ∈ fldsFor p h ns
    · obtain ⟨v, hv⟩ := hone y hy
      exact ⟨v, fun _ => hv⟩
    · exact ⟨⟨⟨#[]⟩, ⟨#[]⟩, []⟩, fun h => absurd h hy⟩
  obtain ⟨k, hk⟩ := Classical.axiomOfChoice hex
  have he : valsM ((fldsFor p h ns).map (·.1)) (some x) = (fldsFor p h ns).map k := by
    unfold valsM
    simp only
    rw [List.flatMap_map]
    exact flatMap_one fun y hy => (hk y hy).1
  rw [he]
  refine ⟨by simp, fun s y hy => ⟨k y, ?_, (hk y (List.mem_of_getElem? hy)).2⟩⟩
  rw [List.getElem?_map, hy]
  rfl
end Go.Proofs.Ytgckpmcdlciibab

namespace Go.Proofs.Ytgckpmcdlciibab
theorem shapeM_lvl : ∀ (m : Nat) (l : List Pck) (deep n : Int) (d : Nat), deep + d = 9 → lvl m l → (shapeM m l deep n).1 = 0 → lvl d l
  | 0, l, deep, n, d, _, hl, _ => by
    have hl : l = [] := hl
    subst hl
    exact lvl_nil d
  | m + 1, l, deep, n, d, hd, hl, h => by
    simp only [shapeM] at h
    split at h
    · cases h
    rename_i h8
    split at h
    · cases h
    cases d with
    | zero => omega
    | succ d =>
      have key : ∀ (l : List Pck) (n : Int), (∀ q ∈ l, lvl m q.picks) → (shapeL (fun ps k => shapeM m ps (deep + 1) k) l n).1 = 0 → ∀ q ∈ l, lvl d q.picks := by
        intro l
        induction l with
        | nil => intro n _ _ q hq; simp at hq
        | cons p r ih =>
          intro n hl h q hq
          simp only [shapeL] at h
          split at h
          · cases h
          split at h
          · split at h
            · split at h
              · rename_i h3
                rcases List.mem_cons.1 hq with rfl | hq
                · exact shapeM_lvl m q.picks (deep + 1) (n + 1) d (by omega) (hl q (by simp)) h3
                · exact ih _ (fun x hx => hl x (by simp [hx])) h q hq
              · rename_i h3
                exact absurd h h3
            · rename_i h3
              rcases List.mem_cons.1 hq with rfl | hq
              · have : q.picks = [] := List.eq_nil_of_length_eq_zero (by omega)
                rw [this]
                exact lvl_nil d
              · exact ih _ (fun x hx => hl x (by simp [hx])) h q hq
          · cases h
      exact key l n hl h
theorem lists_count : ∀ (m : Nat) (l : List Pck) (deep n : Int), lvl m l → (shapeM m l deep n).1 = 0 → (listsL l : Int) ≤ (shapeM m l deep n).2 - n
  | 0, l, deep, n, hl, _ => by
    have hl : l = [] := hl
    subst hl
    simp [listsL, shapeM]
  | m + 1, l, deep, n, hl, h => by
    simp only [shapeM] at h ⊢
    split at h
    · cases h
    rename_i h1
    rw [if_neg h1]
    split at h
    · cases h
    rename_i h2
    rw [if_neg h2]
    have key : ∀ (l : List Pck) (n : Int), (∀ q ∈ l, lvl m q.picks) → (shapeL (fun ps k => shapeM m ps (deep + 1) k) l n).1 = 0 → (listsL l : Int) ≤ (shapeL (fun ps k => shapeM m ps (deep + 1) k) l n).2 - n := by
      intro l
      induction l with
      | nil => intro n _ _; simp [listsL, shapeL]
      | cons p r ih =>
        intro n hl h
        obtain ⟨pa, pf, pp⟩ := p
        simp only [shapeL] at h ⊢
        split at h
        · cases h
        rename_i h60
        simp only [if_neg h60]
        split at h
        · rename_i h3
          simp only [if_pos h3]
          have hpk : (Pck.mk pa pf pp).picks = pp := rfl
          rw [hpk] at h
          rw [hpk]
          by_cases h4 : 0 < pp.length
          · simp only [if_pos h4] at h ⊢
            by_cases h5 : (shapeM m pp (deep + 1) (n + 1)).1 = 0
            · simp only [if_pos h5] at h ⊢
              have e1 := lists_count m pp (deep + 1) (n + 1) (hl (.mk pa pf pp) (by simp)) h5
              have e2 := ih _ (fun x hx => hl x (by simp [hx])) h
              simp only [listsL, listsP, if_neg (show ¬ pp.length = 0 by omega)]
              omega
            · simp only [if_neg h5] at h
              exact absurd h h5
          · simp only [if_neg h4] at h ⊢
            have e2 := ih _ (fun x hx => hl x (by simp [hx])) h
            simp only [listsL, listsP, if_pos (show pp.length = 0 by omega)]
            omega
        · cases h
    exact key l n hl h
theorem asks_bound {m : Nat} {l : List Svc} {a : Ak} {p : Prt} (h : (allM l).2.err = 0) (hc : checkM m (allM l).1 a = 0) (hl : lvl m a.picks) (hp : p ∈ (allM l).1) (hn : p.type.name = a.type) (keys : List Str) : (asksM l (allM l).1 p keys a.picks).length ≤ 400 := by
  obtain ⟨_, _, h3, h4⟩ := checkM_zero.1 hc
  have h1 := (asksM_few h hp (keys := keys) hl (by rw [hn]; exact h4)).1
  have h2 := lists_count m a.picks 1 0 hl h3
  have h5 := (shapeM_le m a.picks 1 0 (by decide) h3).1
  have h6 := (wrongS_iff.1 (allM_canon h).2.1).1
  have h7 : (1 + listsL a.picks) * l.length ≤ 61 * 5 := Nat.mul_le_mul (by omega) h6
  omega
theorem foldl_addNew_len : ∀ (l acc : List Str), (l.foldl addNew acc).length ≤ acc.length + l.length
  | [], acc => by simp
  | x :: l, acc => by
    rw [List.foldl_cons]
    have h1 := foldl_addNew_len l (addNew acc x)
    have h2 : (addNew acc x).length ≤ acc.length + 1 := by unfold addNew; split <;> simp
    simp only [List.length_cons]
    omega
theorem dedup_len (l : List Str) : (dedup l).length ≤ l.length := by
  have := foldl_addNew_len l []
  simpa [dedup] using this
theorem dedup_snoc (l : List Str) (x : Str) : dedup (l ++ [x]) = addNew (dedup l) x := by
  unfold dedup
  rw [List.foldl_append]
  rfl
section
variable {l : List Svc} (h : (allM l).2.err = 0)
include h
theorem valOf_for {p : Prt} (hp : p ∈ (allM l).1) {n key : Str} {j : Nat} {f : Fld} (hj : fieldF p.type.fields n = (j : Int)) (hf : p.type.fields[j]? = some f) {v : VVal} (hv : valOf l p n key = some v) : ValFor f v ∧ rowT l p.homes key = true := by
  have hw := wholeOk h
  have hlt := (List.getElem?_eq_some_iff.1 hf).1
  have ho : p.owners[j]? = some (p.owners[j]'(by rw [hw.len p hp]; exact hlt)) := List.getElem?_eq_getElem _
  have hom : ownerM p n = some (p.owners[j]'(by rw [hw.len p hp]; exact hlt)) := by
    unfold ownerM
    rw [hj, if_neg (by omega), Int.toNat_natCast, ho]
  rw [valOf_owner hom] at hv
  cases hx : findW l (p.owners[j]'(by rw [hw.len p hp]; exact hlt)) key with
  | none => rw [hx] at hv; cases hv
  | some x =>
    rw [hx] at hv
    simp only at hv
    obtain ⟨_, _, hval⟩ := hw.owner p hp j f _ hf ho
    obtain ⟨v', h1, _, _, h2⟩ := hval key x hx
    rw [← List.head?_filter, h1] at hv
    simp only [List.head?_cons, Option.some.injEq] at hv
    refine ⟨hv ▸ h2, ?_⟩
    unfold rowT
    rw [List.any_eq_true]
    refine ⟨_, owner_home h hp ho, ?_⟩
    rw [find_same (o := ⟨_, _, ⟨#[]⟩⟩) (h := p.owners[j]'(by rw [hw.len p hp]; exact hlt)) rfl rfl, hx]
    rfl
theorem leads_len {p : Prt} (hp : p ∈ (allM l).1) {n : Str} {j : Nat} {f : Fld} (hj : fieldF p.type.fields n = (j : Int)) (hf : p.type.fields[j]? = some f) (key : Str) : (leadsOf l p n key).length ≤ 20 := by
  unfold leadsOf
  cases hv : valOf l p n key with
  | none => simp
  | some v => exact (valOf_for h hp hj hf hv).1.keys
theorem flat_leads {p : Prt} (hp : p ∈ (allM l).1) {n : Str} {j : Nat} {f : Fld} (hj : fieldF p.type.fields n = (j : Int)) (hf : p.type.fields[j]? = some f) : ∀ keys : List Str, (keys.flatMap (leadsOf l p n)).length ≤ 20 * keys.length
  | [] => by simp
  | k :: ks => by
    rw [List.flatMap_cons, List.length_append, List.length_cons]
    have h1 := leads_len h hp hj hf k
    have h2 := flat_leads hp hj hf ks
    omega
/-- what is got is not too much -/
theorem thing_small : ∀ (m : Nat) (p : Prt) (k : Str) (picks : List Pck), p ∈ (allM l).1 → goesM m (allM l).1 p.type.name picks = 0 → okSmall m picks → lvl m picks → (thingS (semOf l (allM l).1) picks p.type.name k).length ≤ 60 ∧
    ∀ g ∈ thingS (semOf l (allM l).1) picks p.type.name k, match g with
      | .mk _ _ _ _ sb ss => (sb = [] ∨ ∃ (q : Prt) (sub : List Pck) (k' : Str) (m' : Nat), m = m' + 1 ∧ q ∈ (allM l).1 ∧ goesM m' (allM l).1 q.type.name sub = 0 ∧ okSmall m' sub ∧ lvl m' sub ∧ sb = thingS (semOf l (allM l).1) sub q.type.name k') ∧ ss.length ≤ 60 ∧
        ∀ s ∈ ss, ∃ (q : Prt) (sub : List Pck) (k' : Str) (m' : Nat), m = m' + 1 ∧ q ∈ (allM l).1 ∧ goesM m' (allM l).1 q.type.name sub = 0 ∧ okSmall m' sub ∧ lvl m' sub ∧ s = thingS (semOf l (allM l).1) sub q.type.name k'
  | 0, p, k, picks, _, _, _, hl => by
    have hl : picks = [] := hl
    subst hl
    simp [thingS]
  | m + 1, p, k, picks, hp, hg, hs, hl => by
    have hw := wholeOk h
    refine ⟨by rw [thingS_len]; exact hs.1, fun g hgm => ?_⟩
    rw [thingS_map] at hgm
    obtain ⟨q, hq, rfl⟩ := List.mem_map.1 hgm
    obtain ⟨i, hi⟩ := List.getElem?_of_mem hq
    obtain ⟨kk, t, hk, ht, hn, heach⟩ := goes_ok hg
    have htp : t = p := by
      have h1 := partM_mem hw hp
      unfold partM at h1
      rw [hk, if_neg (by omega), Int.toNat_natCast, ht] at h1
      exact Option.some.inj h1
    subst htp
    obtain ⟨⟨j, f, hj, hf, _, hkind, hsub⟩, _⟩ := heach i q hi
    have hfl := pick_fld hw hp hj hf
    have hqs := hs.2 q hq
    have hql := hl q hq
    have hsv : (semOf l (allM l).1).val t.type.name q.field k = valOf l t q.field k := sem_val h l hp q.field k
    obtain ⟨a, fd, sub⟩ := q
    simp only [Pck.field, Pck.picks] at *
    simp only [pickS, hfl, hsv]
    cases hv : valOf l t fd k with
    | none => exact ⟨.inl rfl, by simp, fun s hs => by simp at hs⟩
    | some v =>
      have hvf := (valOf_for h hp hj hf hv).1
      dsimp only
      by_cases h1 : f.kind = 1
      · rw [if_pos h1]
        exact ⟨.inl rfl, by simp, fun s hs => by simp at hs⟩
      · rw [if_neg h1]
        have hne : sub ≠ [] := fun e => h1 (hkind.2 e)
        obtain ⟨k2, t2, hk2, ht2, htn2⟩ := partM_name ((hw.kind t hp j f hf).2.2 h1)
        have hlen : ((v.keys.filter ((semOf l (allM l).1).there f.type)).map fun x => thingS (semOf l (allM l).1) sub f.type x).length ≤ 20 := by
          rw [List.length_map]
          exact Nat.le_trans (List.length_filter_le _ _) hvf.keys
        have hall : ∀ s ∈ (v.keys.filter ((semOf l (allM l).1).there f.type)).map (fun x => thingS (semOf l (allM l).1) sub f.type x), ∃ (q : Prt) (sub : List Pck) (k' : Str) (m' : Nat), m + 1 = m' + 1 ∧ q ∈ (allM l).1 ∧ goesM m' (allM l).1 q.type.name sub = 0 ∧ okSmall m' sub ∧ lvl m' sub ∧ s = thingS (semOf l (allM l).1) sub q.type.name k' := fun s hs => by
          obtain ⟨x, _, rfl⟩ := List.mem_map.1 hs
          exact ⟨t2, sub, x, m, rfl, List.mem_of_getElem? ht2, by rw [htn2]; exact hsub hne, hqs, hql, by rw [htn2]⟩
        by_cases h2 : f.kind = 2
        · rw [if_pos h2]
          generalize (v.keys.filter ((semOf l (allM l).1).there f.type)).map (fun x => thingS (semOf l (allM l).1) sub f.type x) = subs at hlen hall ⊢
          cases subs with
          | nil => exact ⟨.inl rfl, by simp, fun s hs => by simp at hs⟩
          | cons s r => exact ⟨.inr (hall s (by simp)), by simp, fun s hs => by simp at hs⟩
        · rw [if_neg h2]
          exact ⟨.inl rfl, by omega, hall⟩
end
end Go.Proofs.Ytgckpmcdlciibab

namespace Go.Proofs.Ytgckpmcdlciibab
open Go.RowKit
/-- w' is w but for the blocks of X -/
structure Els (X : Nat → Prop) (w w' : World) : Prop where
  os : w'.os = w.os
  tape : w'.tape = w.tape
  output : w'.output = w.output
  size : w.heap.size ≤ w'.heap.size
  block : ∀ b, b < w.heap.size → ¬ X b → w'.heap[b]? = w.heap[b]?
section
variable {X X' : Nat → Prop} {x y z w w' : World}
theorem Els.refl (X : Nat → Prop) (w : World) : Els X w w := ⟨rfl, rfl, rfl, Nat.le_refl _, fun _ _ _ => rfl⟩
theorem Els.of_up (h : Up w w') : Els X w w' := ⟨Below.os h, Below.tape h, Below.output h, h.size, fun _ hb _ => h.block hb⟩
theorem Els.trans (h : Els X x y) (k : Els X y z) : Els X x z := ⟨k.os.trans h.os, k.tape.trans h.tape, k.output.trans h.output, Nat.le_trans h.size k.size, fun b hb hn => (k.block b (Nat.lt_of_lt_of_le hb h.size) hn).trans (h.block b hb hn)⟩
theorem Els.up_trans (h : Els X x y) (k : Up y z) : Els X x z := h.trans (.of_up k)
theorem Els.of_grown {r : Option Nat} (h : w.grownBy w' r) (hr : ∀ g, r = some g → X g) : Els X w w' := ⟨h.os, h.tape, h.output, h.size, fun b hb hn => h.block b hb fun e => hn (hr b e.symm)⟩
theorem Els.of_but {g : Nat} (h : But g w w') (hg : X g) : Els X w w' := ⟨h.os, h.tape, h.output, h.size, fun b hb hn => h.block b hb fun e => hn (by rw [e]; exact hg)⟩
theorem Els.keep (h : Els X w w') : Keep (fun b => ¬ X b) w w' := fun b hb hlt => h.block b hlt hb
theorem Els.keepS {S : Nat → Prop} (h : Els X w w') (hS : ∀ b, S b → b < w.heap.size → ¬ X b) : Keep S w w' := fun b hb hlt => h.block b hlt (hS b hb hlt)
theorem Els.up {w0 : World} (h : Els X w w') (hu : Up w0 w) (hX : ∀ b, b < w0.heap.size → ¬ X b) : Up w0 w' := Below.trans (b := w) hu ⟨h.os, h.tape, h.output, h.size, fun b hb => h.block b (Nat.lt_of_lt_of_le hb hu.size) (hX b hb)⟩
theorem Els.weak (h : Els X' w w') (hX : ∀ b, b < w.heap.size → X' b → X b) : Els X w w' := ⟨h.os, h.tape, h.output, h.size, fun b hb hn => h.block b hb fun hx => hn (hX b hb hx)⟩
end
instance : OneC rqLay := ⟨by
  rintro S w cs x ⟨v1, v2, rfl, ⟨a, c, rfl, _⟩, b, d, rfl, _⟩ c' hc
  simp only [List.mem_cons, List.not_mem_nil, or_false] at hc
  rcases hc with rfl | rfl | rfl | rfl <;> rfl⟩
/-- lists that are not too long -/
def smallG : Nat → List Gt → Prop
  | 0, _ => True
  | m + 1, l => l.length ≤ 60 ∧ ∀ g ∈ l, smallG m g.sub ∧ g.subs.length ≤ 60 ∧ ∀ s ∈ g.subs, smallG m s
def OwnC (m : Nat) : Prop := ∀ {S : Nat → Prop} {v : Value} {l : List Gt} (w : World), SliceOf (gtLay m) S w v l → smallG m l → Calls Try.prog 139 #[v] w fun en w' => ∃ v', en = .returned v' ∧ Up w w' ∧ Own (gtLay m) 33 w.heap.size (fun b => w.heap.size ≤ b) w' v' l
set_option maxHeartbeats 4000000 in
theorem own_gen {m : Nat} (H : ∀ n, m = n + 1 → OwnC n) : OwnC m := by
  intro S v l w hl hsm
  refine calls_of_sim Try.func139 rfl (Nat.le_of_ble_eq_true rfl) ?_
  obtain ⟨la, lc, rfl, hlnc, hlcm, _⟩ := id hl
  unfold maxLen at hlcm
  repeat (first | refine RL.vv ?_ | refine RL.p ?_ | refine RL.nil ?_ | refine Sim.seq ?_ | refine Sim.region ?_ | refine Sim.block ?_ | refine Sim.skip ?_ | refine Sim.inBlock ?_ | refine Sim.exit rfl ?_ | refine Sim.condT rfl ?_ | refine Sim.condF rfl ?_)
  refine Sim.loop (σ := Nat × Value) (fun st => [(9, .slice la l.length lc), (10, .int .i64 (l.length : Int)), (11, .int .i64 (st.1 : Int)), (3, st.2)])
    (fun st w' => st.1 ≤ l.length ∧ Up w w' ∧ Own (gtLay m) 33 w.heap.size (fun b => w.heap.size ≤ b) w' st.2 (l.take st.1)) (fun st => l.length - st.1) (0, .slice none 0 0) sb ⟨Nat.zero_le _, .refl _, Own.nil _ _ _ _ _⟩ ?_
  rintro ⟨i, v3⟩ w1 ⟨hi, hu, ho⟩ next0
  simp only at hi ho next0 ⊢
  by_cases hlt : i < l.length
  rotate_left
  · have : i = l.length := by omega
    subst this
    rw [List.take_length] at ho
    repeat (first | refine RL.vv ?_ | refine RL.p ?_ | refine RL.nil ?_ | refine Sim.seq ?_ | refine Sim.region ?_ | refine Sim.block ?_ | refine Sim.skip ?_ | refine Sim.inBlock ?_ | refine Sim.exit rfl ?_ | refine Sim.condT rfl ?_ | refine Sim.condF rfl ?_)
    exact Sim.ret1 Try.func139 rfl rfl ⟨_, rfl, hu, ho⟩
  have hx : l[i]? = some l[i] := List.getElem?_eq_getElem hlt
  cases m with
  | zero =>
    obtain ⟨_, _, _, _, _, _, h, _⟩ := hl.at hx
    exact h.elim
  | succ m =>
  obtain ⟨gb, go, cs, rfl, _, hgat, hgi, _⟩ := (hl.up hu).at hx
  have hgat : At w1 gb (go + i * 6) _ := hgat
  obtain ⟨h60, hsm⟩ := hsm
  obtain ⟨hsm1, hsm2, hsm3⟩ := hsm l[i] (List.mem_of_getElem? hx)
  have hts := List.take_succ_eq_append_getElem hlt
  generalize l[i] = g at *
  obtain ⟨v1, v2, rfl, hv1, hv2⟩ := gt_succ.1 hgi
  obtain ⟨a1, c1, rfl, _⟩ := id hv1
  obtain ⟨a2, c2, rfl, hn2, hm2, _⟩ := id hv2
  unfold maxLen at hm2
  have hn3 : ∀ b, w1.heap.size ≤ b → some b ≠ v3.ownBlock := fun b hb => ho.ne hb
  repeat (first | refine RL.vv ?_ | refine RL.p ?_ | refine RL.nil ?_ | refine Sim.seq ?_ | refine Sim.region ?_ | refine Sim.block ?_ | refine Sim.skip ?_ | refine Sim.inBlock ?_ | refine Sim.exit rfl ?_ | refine Sim.condT rfl ?_ | refine Sim.condF rfl ?_)
  refine RL.al (.refl w1) fun b5 w2 he5 hle5 h12 _ hb5 => ?_
  refine RL.st h12 hb5 hle5 fun w3 h13 _ hb5 => ?_
  have hb5 : Box w3 b5 _ [.string g.name, .int .i64 g.kind, .bool g.null, .string g.text, .slice a1 g.sub.length c1, .slice a2 g.subs.length c2] := hb5
  have ha5 := hb5.at
  have hl5 := hb5.lt
  clear h12 hgat
  repeat (first | refine RL.vv ?_ | refine RL.p ?_ | refine RL.nil ?_ | refine Sim.seq ?_ | refine Sim.region ?_ | refine Sim.block ?_ | refine Sim.skip ?_ | refine Sim.inBlock ?_ | refine Sim.exit rfl ?_ | refine Sim.condT rfl ?_ | refine Sim.condF rfl ?_)
  refine RL.cx (H m rfl w3 (hv1.up h13) hsm1) ?_
  rintro _ w4 ⟨x1, rfl, h34, ho1⟩
  refine ⟨_, rfl, ?_⟩
  have h14 := h13.trans h34
  have hb5 := hb5.up h34
  obtain ⟨xa, xn, xc, rfl⟩ := ho1.sh
  clear ha5
  repeat (first | refine RL.vv ?_ | refine RL.p ?_ | refine RL.nil ?_ | refine Sim.seq ?_ | refine Sim.region ?_ | refine Sim.block ?_ | refine Sim.skip ?_ | refine Sim.inBlock ?_ | refine Sim.exit rfl ?_ | refine Sim.condT rfl ?_ | refine Sim.condF rfl ?_)
  refine RL.st h14 hb5 hle5 fun w5 h15 hbt hb5 => ?_
  have hb5 : Box w5 b5 _ [.string g.name, .int .i64 g.kind, .bool g.null, .string g.text, .slice xa xn xc, .slice a2 g.subs.length c2] := hb5
  have ho1 := ho1.but hbt (fun k hk => by omega) (fun k hk => by have := (ho1.lt k hk).1; omega)
  have hs3 : w1.heap.size ≤ w3.heap.size := h13.size
  clear hbt
  have hs1 := ho1.sl (S' := fun b => w1.heap.size ≤ b ∧ b ≠ b5) (fun b hb _ _ => ⟨by omega, by omega⟩) fun k hk => by
    have := (ho1.lt k hk).1
    exact ⟨by omega, by omega⟩
  have hs5 := h15.size
  have hl55 := hb5.lt
  clear ho1
  have ha5 := hb5.at
  repeat (first | refine RL.vv ?_ | refine RL.p ?_ | refine RL.nil ?_ | refine Sim.seq ?_ | refine Sim.region ?_ | refine Sim.block ?_ | refine Sim.skip ?_ | refine Sim.inBlock ?_ | refine Sim.exit rfl ?_ | refine Sim.condT rfl ?_ | refine Sim.condF rfl ?_)
  refine Sim.loop (σ := Nat × Value) (fun st => [(9, .slice (some ⟨gb, go, none⟩) l.length lc), (10, .int .i64 (l.length : Int)), (11, .int .i64 (i : Int)), (3, v3), (5, .pointer (some ⟨b5, 0, none⟩)), (20, .slice a2 g.subs.length c2), (21, .int .i64 (g.subs.length : Int)), (22, .int .i64 (st.1 : Int)), (6, st.2)])
    (fun st w' => st.1 ≤ g.subs.length ∧ Up w5 w' ∧ Own (gtLay m).slice 24 w5.heap.size (fun b => w5.heap.size ≤ b) w' st.2 (g.subs.take st.1)) (fun st => g.subs.length - st.1) (0, .slice none 0 0) sb ⟨Nat.zero_le _, .refl _, Own.nil _ _ _ _ _⟩ ?_
  rintro ⟨k, v6⟩ w6 ⟨hk, h56, ho6⟩ next
  simp only at hk ho6 next ⊢
  have h16 := h15.trans h56
  by_cases hkl : k < g.subs.length
  · have hy : g.subs[k]? = some g.subs[k] := List.getElem?_eq_getElem hkl
    obtain ⟨ub, uo, cs, rfl, _, huat, ⟨uv, rfl, huv⟩, _⟩ := (hv2.up h16).at hy
    have huat : At w6 ub (uo + k * 1) _ := huat
    have hsmk := hsm3 g.subs[k] (List.mem_of_getElem? hy)
    have htk := List.take_succ_eq_append_getElem hkl
    generalize g.subs[k] = s at *
    obtain ⟨ua, uc, rfl, _⟩ := id huv
    repeat (first | refine RL.vv ?_ | refine RL.p ?_ | refine RL.nil ?_ | refine Sim.seq ?_ | refine Sim.region ?_ | refine Sim.block ?_ | refine Sim.skip ?_ | refine Sim.inBlock ?_ | refine Sim.exit rfl ?_ | refine Sim.condT rfl ?_ | refine Sim.condF rfl ?_)
    refine RL.cx (H m rfl w6 huv hsmk) ?_
    rintro _ w7 ⟨y1, rfl, h67, ho7⟩
    refine ⟨_, rfl, ?_⟩
    have h57 := h56.trans h67
    obtain ⟨ya, yn, yc, rfl⟩ := ho7.sh
    refine RL.bu (el := 24) [.slice ya yn yc] h57 fun b29 w8 he29 _ h58 h78 hb29 => ?_
    have hs56 := h56.size
    have hs67 := h67.size
    have hne := fun b hb => ho6.ne (b := b) hb
    refine RL.app (L := (gtLay m).slice) (el := 24) (S := fun b => w5.heap.size ≤ b) (B := w5.heap.size) (ys := [s]) h58 ((ho6.up h67).up h78) (SliceOf.one hb29 ⟨by omega, hne _ (by omega)⟩ ⟨_, rfl, (ho7.up h78).sl (fun b hb _ _ => ⟨by omega, hne b hb⟩) fun x hx => by
      have := (ho7.lt x hx).1
      exact ⟨by omega, hne x this⟩⟩) (by simp only [List.length_take, List.length_cons, List.length_nil]; omega) (Nat.le_refl _) (by have := h78.size; omega) fun v6' w9 h59 ho9 hg hv => ?_
    repeat (first | refine RL.vv ?_ | refine RL.p ?_ | refine RL.nil ?_ | refine Sim.seq ?_ | refine Sim.region ?_ | refine Sim.block ?_ | refine Sim.skip ?_ | refine Sim.inBlock ?_ | refine Sim.exit rfl ?_ | refine Sim.condT rfl ?_ | refine Sim.condF rfl ?_)
    exact next (k + 1, v6') _ _ ⟨by first | omega | (simp only; omega), h59, by simp only; rw [htk]; exact ho9⟩ (by first | omega | (simp only; omega)) sb
  have : k = g.subs.length := by omega
  subst this
  rw [List.take_length] at ho6
  obtain ⟨ya, yn, yc, rfl⟩ := ho6.sh
  have hb5 := hb5.up h56
  have hs1 := hs1.up h56
  have hs56 := h56.size
  have ho3 := ho.up h16
  clear ha5
  repeat (first | refine RL.vv ?_ | refine RL.p ?_ | refine RL.nil ?_ | refine Sim.seq ?_ | refine Sim.region ?_ | refine Sim.block ?_ | refine Sim.skip ?_ | refine Sim.inBlock ?_ | refine Sim.exit rfl ?_ | refine Sim.condT rfl ?_ | refine Sim.condF rfl ?_)
  refine RL.st h16 hb5 hle5 fun w7 h17 hbt hb5 => ?_
  have hb5 : Box w7 b5 _ [.string g.name, .int .i64 g.kind, .bool g.null, .string g.text, .slice xa xn xc, .slice ya yn yc] := hb5
  have hs1 := hs1.bt hbt fun k hk => hk.2
  have ho6 := ho6.but hbt (fun k hk => by omega) (fun k hk => by have := (ho6.lt k hk).1; omega)
  have ho3 := ho.up h17
  clear hbt
  have ha5 := hb5.at
  repeat (first | refine RL.vv ?_ | refine RL.p ?_ | refine RL.nil ?_ | refine Sim.seq ?_ | refine Sim.region ?_ | refine Sim.block ?_ | refine Sim.skip ?_ | refine Sim.inBlock ?_ | refine Sim.exit rfl ?_ | refine Sim.condT rfl ?_ | refine Sim.condF rfl ?_)
  refine RL.bu (el := 33) [.string g.name, .int .i64 g.kind, .bool g.null, .string g.text, .slice xa xn xc, .slice ya yn yc] h17 fun b36 w8 he36 _ h18 h78 hb36 => ?_
  have hsz := hu.size
  have hu8 := hu.trans h18
  have hs6 := ho6.sl (S' := fun b => w.heap.size ≤ b ∧ some b ≠ v3.ownBlock) (fun b hb _ _ => ⟨by omega, hn3 b (by omega)⟩) fun x hx => by
    have := (ho6.lt x hx).1
    exact ⟨by omega, hn3 x (by omega)⟩
  have hs1 := hs1.mono (S' := fun b => w.heap.size ≤ b ∧ some b ≠ v3.ownBlock) fun b hb => ⟨by omega, hn3 b hb.1⟩
  have hel : (gtLay (m + 1)).is (fun b => w.heap.size ≤ b ∧ some b ≠ v3.ownBlock) w8 [.string g.name, .int .i64 g.kind, .bool g.null, .string g.text, .slice xa xn xc, .slice ya yn yc] g := gt_succ.2 ⟨_, _, rfl, hs1.up h78, hs6.up h78⟩
  refine RL.app (L := gtLay (m + 1)) (el := 33) (S := fun b => w.heap.size ≤ b) (B := w.heap.size) (ys := [g]) hu8 (ho.up h18) (SliceOf.one hb36 ⟨by have := h17.size; omega, hn3 _ (by have := h17.size; omega)⟩ hel) (by simp only [List.length_take, List.length_cons, List.length_nil]; omega) (Nat.le_refl _) (by have := h18.size; omega) fun v3' w9 hu9 ho9 hg hv => ?_
  repeat (first | refine RL.vv ?_ | refine RL.p ?_ | refine RL.nil ?_ | refine Sim.seq ?_ | refine Sim.region ?_ | refine Sim.block ?_ | refine Sim.skip ?_ | refine Sim.inBlock ?_ | refine Sim.exit rfl ?_ | refine Sim.condT rfl ?_ | refine Sim.condF rfl ?_)
  exact next0 (i + 1, v3') _ _ ⟨by first | omega | (simp only; omega), hu9, by simp only; rw [hts]; exact ho9⟩ (by first | omega | (simp only; omega)) sb
theorem gown_any : ∀ m, OwnC m
  | 0 => own_gen fun n h => by cases h
  | m + 1 => own_gen fun n h => by cases h; exact gown_any m
end Go.Proofs.Ytgckpmcdlciibab

namespace Go.Proofs.Ytgckpmcdlciibab
open Go.RowKit
theorem Els.trans' {X X' : Nat → Prop} {x y z : World} (h : Els X x y) (k : Els X' y z) (hX : ∀ b, b < x.heap.size → X' b → X b) : Els X x z := ⟨k.os.trans h.os, k.tape.trans h.tape, k.output.trans h.output, Nat.le_trans h.size k.size, fun b hb hn => (k.block b (Nat.lt_of_lt_of_le hb h.size) fun hx => hn (hX b hb hx)).trans (h.block b hb hn)⟩
/-- what a row's map holds -/
def ValsAt (F : Nat → Prop) (w : World) (b : Nat) (f : Str → Option VVal) : Prop := ∃ ents : List (Str × Value), MapAt w b ents ∧ ∀ n, match f n with
  | none => mget ents n = none
  | some v => ∃ kv, mget ents n = some (.agg #[.string v.field, .string v.text, kv]) ∧ SliceOf strLay F w kv v.keys
structure RowAt (F : Nat → Prop) (w : World) (x : Nat × Nat) (th : Bool) (f : Str → Option VVal) : Prop where
  box : Box w x.1 213 [.bool th, .map (some x.2)]
  vals : ValsAt F w x.2 f
structure RowsAt (A Z : Nat) (F : Nat → Prop) (w : World) (b9 : Nat) (keys : List Str) (n : Nat) (bs : Nat → Nat × Nat) (th : Nat → Bool) (f : Nat → Str → Option VVal) : Prop where
  map : MapAt w b9 ((List.range n).map fun i => (keys.getD i ⟨#[]⟩, Value.pointer (some ⟨(bs i).1, 0, none⟩)))
  row : ∀ i, i < n → RowAt F w (bs i) (th i) (f i)
  nd : ∀ i j, i < n → j < n → (bs i).1 ≠ (bs j).2 ∧ ((bs i).1 = (bs j).1 → i = j) ∧ ((bs i).2 = (bs j).2 → i = j)
  n9 : ∀ i, i < n → (bs i).1 ≠ b9 ∧ (bs i).2 ≠ b9
  rng : ∀ i, i < n → A ≤ (bs i).1 ∧ (bs i).1 < Z ∧ A ≤ (bs i).2 ∧ (bs i).2 < Z
  rng9 : A ≤ b9 ∧ b9 < Z
section
variable {A Z : Nat} {F F' S : Nat → Prop} {w w' : World} {b9 n : Nat} {keys : List Str} {bs : Nat → Nat × Nat} {th : Nat → Bool} {f : Nat → Str → Option VVal}
theorem ValsAt.keep {b : Nat} {f : Str → Option VVal} (h : ValsAt F w b f) (hk : Keep S w w') (hb : S b) (hF : ∀ b, F b → b < w.heap.size → S b) : ValsAt F w' b f := by
  obtain ⟨ents, hm, hv⟩ := h
  refine ⟨ents, hm.keep hk hb, fun n => ?_⟩
  have := hv n
  cases hf : f n with
  | none => rw [hf] at this; exact this
  | some v =>
    rw [hf] at this
    obtain ⟨kv, h1, h2⟩ := this
    exact ⟨kv, h1, (h2.old.keep fun b hb hlt => hk b (hF b hb.1 hb.2) hlt).mono fun b hb => hb.1⟩
theorem ValsAt.mono {b : Nat} {f : Str → Option VVal} (h : ValsAt F w b f) (hF : ∀ b, F b → b < w.heap.size → F' b) : ValsAt F' w b f := by
  obtain ⟨ents, hm, hv⟩ := h
  refine ⟨ents, hm, fun n => ?_⟩
  have := hv n
  cases hf : f n with
  | none => rw [hf] at this; exact this
  | some v =>
    rw [hf] at this
    obtain ⟨kv, h1, h2⟩ := this
    exact ⟨kv, h1, h2.old.mono fun b hb => hF b hb.1 hb.2⟩
theorem RowsAt.keep (h : RowsAt A Z F w b9 keys n bs th f) (hk : Keep S w w') (hr : ∀ b, A ≤ b → b < Z → S b) (hF : ∀ b, F b → b < w.heap.size → S b) : RowsAt A Z F w' b9 keys n bs th f :=
  ⟨h.map.keep hk (hr b9 h.rng9.1 h.rng9.2), fun i hi => ⟨(h.row i hi).box.keep hk (hr _ (h.rng i hi).1 (h.rng i hi).2.1), (h.row i hi).vals.keep hk (hr _ (h.rng i hi).2.2.1 (h.rng i hi).2.2.2) hF⟩, h.nd, h.n9, h.rng, h.rng9⟩
theorem RowsAt.up (h : RowsAt A Z F w b9 keys n bs th f) (hu : Up w w') : RowsAt A Z F w' b9 keys n bs th f := h.keep (S := fun _ => True) (.of_up hu) (fun _ _ _ => trivial) fun _ _ _ => trivial
theorem RowsAt.reF (h : RowsAt A Z F w b9 keys n bs th f) (hF : ∀ b, F b → b < w.heap.size → F' b) : RowsAt A Z F' w b9 keys n bs th f :=
  ⟨h.map, fun i hi => ⟨(h.row i hi).box, (h.row i hi).vals.mono hF⟩, h.nd, h.n9, h.rng, h.rng9⟩
theorem RowsAt.cong {th' : Nat → Bool} {f' : Nat → Str → Option VVal} (h : RowsAt A Z F w b9 keys n bs th f) (h1 : ∀ i, i < n → th' i = th i) (h2 : ∀ i, i < n → f' i = f i) : RowsAt A Z F w b9 keys n bs th' f' :=
  ⟨h.map, fun i hi => by rw [h1 i hi, h2 i hi]; exact h.row i hi, h.nd, h.n9, h.rng, h.rng9⟩
theorem RowsAt.get (h : RowsAt A Z F w b9 keys n bs th f) {i : Nat} {k : Str} (hi : i < n) (hk : keys[i]? = some k) : mget ((List.range n).map fun i => (keys.getD i ⟨#[]⟩, Value.pointer (some ⟨(bs i).1, 0, none⟩))) k = some (.pointer (some ⟨(bs i).1, 0, none⟩)) := by
  refine mget_mem h.map.1 (List.mem_map.2 ⟨i, List.mem_range.2 hi, ?_⟩)
  rw [List.getD_eq_getElem?_getD, hk]
  rfl
/-- a row's thing is there -/
theorem RowsAt.there (h : RowsAt A Z F w b9 keys n bs th f) {i : Nat} (hi : i < n) (hF : ∀ b, F b → Z ≤ b) (hbt : But (bs i).1 w w') (hb : Box w' (bs i).1 213 [.bool true, .map (some (bs i).2)]) : RowsAt A Z F w' b9 keys n bs (fun j => if j = i then true else th j) f := by
  have hlt := (h.rng i hi).2.1
  have hk := hbt.keep
  refine ⟨h.map.keep hk (h.n9 i hi).1.symm, fun j hj => ?_, h.nd, h.n9, h.rng, h.rng9⟩
  have hv := (h.row j hj).vals.keep hk (Ne.symm (h.nd i j hi hj).1) fun b hb _ => by have := hF b hb; show b ≠ (bs i).1; omega
  by_cases hji : j = i
  · subst hji
    rw [if_pos rfl]
    exact ⟨hb, hv⟩
  · rw [if_neg hji]
    exact ⟨(h.row j hj).box.keep hk fun e => hji ((h.nd j i hj hi).2.1 e), hv⟩
/-- a row's field -/
theorem RowsAt.val (h : RowsAt A Z F w b9 keys n bs th f) {i : Nat} (hi : i < n) (hF : ∀ b, F b → Z ≤ b) {ents : List (Str × Value)} (hbt : But (bs i).2 w w') {v : VVal} {kv : Value} {nm : Str} (hm : MapAt w' (bs i).2 (mput ents nm (.agg #[.string v.field, .string v.text, kv])))
    (he : ∀ n, match f i n with | none => mget ents n = none | some v => ∃ kv, mget ents n = some (.agg #[.string v.field, .string v.text, kv]) ∧ SliceOf strLay F w kv v.keys) (hkv : SliceOf strLay F w kv v.keys) :
    RowsAt A Z F w' b9 keys n bs th (fun j => if j = i then (fun m => if m = nm then some v else f i m) else f j) := by
  have hlt := (h.rng i hi).2.2.2
  have hk := hbt.keep
  have hFk : ∀ b, F b → b < w.heap.size → b ≠ (bs i).2 := fun b hb _ => by have := hF b hb; omega
  have hsk : ∀ {kv : Value} {ks : List Str}, SliceOf strLay F w kv ks → SliceOf strLay F w' kv ks := fun h2 => (h2.old.keep fun b hb hlt => hk b (hFk b hb.1 hb.2) hlt).mono fun b hb => hb.1
  refine ⟨h.map.keep hk (h.n9 i hi).2.symm, fun j hj => ?_, h.nd, h.n9, h.rng, h.rng9⟩
  have hb := (h.row j hj).box.keep hk (h.nd j i hj hi).1
  by_cases hji : j = i
  · subst hji
    rw [if_pos rfl]
    refine ⟨hb, _, hm, fun m => ?_⟩
    by_cases hmn : m = nm
    · subst hmn
      simp only [if_true]
      exact ⟨kv, by rw [mget_mput, if_pos rfl], hsk hkv⟩
    · simp only [if_neg hmn]
      have := he m
      cases hf : f j m with
      | none => rw [hf] at this; simp only; rw [mget_mput, if_neg (fun e => hmn e.symm)]; exact this
      | some u =>
        rw [hf] at this
        obtain ⟨ku, h1, h2⟩ := this
        exact ⟨ku, by rw [mget_mput, if_neg (fun e => hmn e.symm)]; exact h1, hsk h2⟩
  · rw [if_neg hji]
    exact ⟨hb, (h.row j hj).vals.keep hk (fun e => hji ((h.nd j i hj hi).2.2 e)) hFk⟩
/-- a new row -/
theorem RowsAt.new (h : RowsAt A Z F w b9 keys n bs th f) (hn : keys.Nodup) {k : Str} (hk : keys[n]? = some k) {rb vb : Nat} (hbt : But b9 w w') (hm : MapAt w' b9 (mput ((List.range n).map fun i => (keys.getD i ⟨#[]⟩, Value.pointer (some ⟨(bs i).1, 0, none⟩))) k (.pointer (some ⟨rb, 0, none⟩))))
    (hb : Box w' rb 213 [.bool false, .map (some vb)]) (hv : MapAt w' vb ([] : List (Str × Value))) (hrv : rb ≠ vb) (h1 : Z ≤ rb) (h2 : Z ≤ vb) (hA : A ≤ Z) (hF : ∀ b, F b → b < w.heap.size → b ≠ b9) :
    RowsAt A (max (rb + 1) (vb + 1)) F w' b9 keys (n + 1) (fun j => if j = n then (rb, vb) else bs j) (fun j => if j = n then false else th j) (fun j => if j = n then (fun _ => none) else f j) := by
  have h9 := h.rng9
  refine ⟨?_, fun i hi => ?_, fun i j hi hj => ?_, fun i hi => ?_, fun i hi => ?_, h9.1, by omega⟩
  · rw [mput_new] at hm
    · rw [List.range_succ, List.map_append]
      have e1 : (List.range n).map (fun i => (keys.getD i ⟨#[]⟩, Value.pointer (some ⟨(if i = n then (rb, vb) else bs i).1, 0, none⟩))) = (List.range n).map fun i => (keys.getD i ⟨#[]⟩, Value.pointer (some ⟨(bs i).1, 0, none⟩)) := List.map_congr_left fun i hi => by rw [if_neg (by have := List.mem_range.1 hi; omega)]
      rw [e1]
      simp only [List.map_cons, List.map_nil, if_true]
      rw [List.getD_eq_getElem?_getD, hk]
      exact hm
    · intro x hx e
      obtain ⟨i, hi, rfl⟩ := List.mem_map.1 hx
      have hi := List.mem_range.1 hi
      simp only at e
      have hlt := (List.getElem?_eq_some_iff.1 hk).1
      have : keys[i]? = keys[n]? := by
        rw [List.getD_eq_getElem?_getD, List.getElem?_eq_getElem (by omega)] at e
        rw [hk, List.getElem?_eq_getElem (by omega)]
        exact congrArg some e
      have := (List.getElem?_inj (by omega) hn).1 this
      omega
  · by_cases hin : i = n
    · subst hin
      simp only [if_true]
      exact ⟨hb, [], hv, fun m => by simp [mget]⟩
    · simp only [if_neg hin]
      have hi : i < n := by omega
      exact ⟨(h.row i hi).box.keep hbt.keep (h.n9 i hi).1, (h.row i hi).vals.keep hbt.keep (h.n9 i hi).2 hF⟩
  · by_cases hin : i = n <;> by_cases hjn : j = n
    · subst hin; subst hjn
      simp only [if_true]
      exact ⟨hrv, fun _ => trivial, fun _ => trivial⟩
    · simp only [if_pos hin, if_neg hjn]
      have := h.rng j (by omega)
      exact ⟨by omega, by omega, by omega⟩
    · simp only [if_neg hin, if_pos hjn]
      have := h.rng i (by omega)
      exact ⟨by omega, by omega, by omega⟩
    · simp only [if_neg hin, if_neg hjn]
      exact h.nd i j (by omega) (by omega)
  · by_cases hin : i = n
    · simp only [if_pos hin]
      exact ⟨by omega, by omega⟩
    · simp only [if_neg hin]
      exact h.n9 i (by omega)
  · by_cases hin : i = n
    · simp only [if_pos hin]
      exact ⟨by omega, by omega, by omega, by omega⟩
    · simp only [if_neg hin]
      have := h.rng i (by omega)
      exact ⟨by omega, by omega, by omega, by omega⟩
end
end Go.Proofs.Ytgckpmcdlciibab
