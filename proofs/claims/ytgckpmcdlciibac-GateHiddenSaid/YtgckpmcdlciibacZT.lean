/- Plain laws of chapter 3: services in another order. -/
import Derived.Test.YtgckpmcdlciibacZR
import Derived.Test.YtgckpmcdlciibacZJ
namespace Go.Proofs.Ytgckpmcdlciibac
theorem rise_eq : ∀ {a b : List Str}, a.Pairwise (fun x y => strLt x y = true) → b.Pairwise (fun x y => strLt x y = true) → (∀ n, n ∈ a ↔ n ∈ b) → a = b
  | [], [], _, _, _ => rfl
  | [], y :: b, _, _, h => by have := (h y).2 (by simp); simp at this
  | x :: a, [], _, _, h => by have := (h x).1 (by simp); simp at this
  | x :: a, y :: b, ha, hb, h => by
    obtain ⟨ha1, ha2⟩ := List.pairwise_cons.1 ha
    obtain ⟨hb1, hb2⟩ := List.pairwise_cons.1 hb
    have hxy : x = y := by
      rcases List.mem_cons.1 ((h x).1 (by simp)) with h1 | h1
      · exact h1
      · rcases List.mem_cons.1 ((h y).2 (by simp)) with h2 | h2
        · exact h2.symm
        · have h3 := strLt_asymm (hb1 x h1)
          rw [ha1 y h2] at h3
          cases h3
    subst hxy
    congr 1
    refine rise_eq ha2 hb2 fun n => ⟨fun hn => ?_, fun hn => ?_⟩
    · rcases List.mem_cons.1 ((h n).1 (by simp [hn])) with h1 | h1
      · have := ha1 n hn
        rw [h1, strLt_irrefl] at this
        cases this
      · exact h1
    · rcases List.mem_cons.1 ((h n).2 (by simp [hn])) with h1 | h1
      · have := hb1 n hn
        rw [h1, strLt_irrefl] at this
        cases this
      · exact h1
theorem flat_uniq {α β : Type} {g : α → List β} : ∀ {cs : List α} {c1 c2 : α} {a : β}, (cs.flatMap g).Nodup → c1 ∈ cs → c2 ∈ cs → a ∈ g c1 → a ∈ g c2 → c1 = c2
  | [], _, _, _, _, h, _, _, _ => by simp at h
  | c :: cs, c1, c2, a, hn, h1, h2, ha1, ha2 => by
    rw [List.flatMap_cons, List.nodup_append] at hn
    rcases List.mem_cons.1 h1 with e1 | h3
    · rcases List.mem_cons.1 h2 with e2 | h4
      · rw [e1, e2]
      · subst e1
        exact absurd rfl (hn.2.2 a ha1 a (List.mem_flatMap.2 ⟨c2, h4, ha2⟩))
    · rcases List.mem_cons.1 h2 with e2 | h4
      · subst e2
        exact absurd rfl (hn.2.2 a ha2 a (List.mem_flatMap.2 ⟨c1, h3, ha1⟩))
      · exact flat_uniq hn.2.1 h3 h4 ha1 ha2
/-- of one name just one contribution has a field -/
theorem field_uniq {cs : List (Int × Sn)} {n f : Str} (h : ((fieldsOf cs n).map (·.name)).Nodup) {c1 c2 : Int × Sn} (h1 : c1 ∈ cs) (h2 : c2 ∈ cs) (hn1 : c1.2.type.name = n) (hn2 : c2.2.type.name = n) (hf1 : f ∈ c1.2.type.fields.map (·.name)) (hf2 : f ∈ c2.2.type.fields.map (·.name)) : c1 = c2 := by
  unfold fieldsOf at h
  rw [List.map_flatMap] at h
  exact flat_uniq h (List.mem_filter.2 ⟨h1, decide_eq_true hn1⟩) (List.mem_filter.2 ⟨h2, decide_eq_true hn2⟩) hf1 hf2
theorem contribs_app : ∀ (a b : List Svc) (n : Nat), contribs n (a ++ b) = contribs n a ++ contribs (n + a.length) b
  | [], b, n => by simp [contribs]
  | s :: a, b, n => by
    simp only [List.cons_append, contribs, contribs_app a b (n + 1), List.append_assoc, List.length_cons]
    rw [show n + 1 + a.length = n + (a.length + 1) by omega]
theorem contribs_up : ∀ (l : List Svc) (n : Nat), contribs (n + 1) l = (contribs n l).map fun c => (c.1 + 1, c.2)
  | [], n => rfl
  | s :: l, n => by
    simp only [contribs, contribs_up l (n + 1), List.map_append, List.map_map]
    congr 1
theorem contribs_rev : ∀ (l : List Svc), List.Perm (contribs 0 l.reverse) ((contribs 0 l).map fun c => ((l.length : Int) - 1 - c.1, c.2))
  | [] => by simp [contribs]
  | s :: l => by
    rw [List.reverse_cons, contribs_app]
    have e1 : contribs (0 + l.reverse.length) [s] = (seeM s.types s.changes).1.map fun q => ((l.length : Int), q) := by simp [contribs]
    have e2 : (contribs 0 (s :: l)).map (fun c => (((s :: l).length : Int) - 1 - c.1, c.2)) = ((seeM s.types s.changes).1.map fun q => ((l.length : Int), q)) ++ (contribs 0 l).map fun c => ((l.length : Int) - 1 - c.1, c.2) := by
      rw [show contribs 0 (s :: l) = (seeM s.types s.changes).1.map (fun q => (((0 : Nat) : Int), q)) ++ contribs (0 + 1) l from rfl, contribs_up, List.map_append, List.map_map, List.map_map]
      congr 1
      · refine List.map_congr_left fun q _ => ?_
        simp only [Function.comp, List.length_cons]
        congr 1
        omega
      · refine List.map_congr_left fun c _ => ?_
        simp only [Function.comp, List.length_cons]
        congr 1
        omega
    rw [e1, e2]
    exact ((contribs_rev l).append_right _).trans List.perm_append_comm
theorem fieldsOf_perm {a b : List (Int × Sn)} (g : Int → Int) (h : List.Perm a (b.map fun c => (g c.1, c.2))) (n : Str) : List.Perm (fieldsOf a n) (fieldsOf b n) := by
  have h1 : fieldsOf (b.map fun c => (g c.1, c.2)) n = fieldsOf b n := by
    unfold fieldsOf mine
    rw [List.filter_map, List.flatMap_map]
    rfl
  rw [← h1]
  unfold fieldsOf mine
  exact (h.filter _).flatMap_right _
theorem homesOf_len {a b : List (Int × Sn)} (g : Int → Int) (h : List.Perm a (b.map fun c => (g c.1, c.2))) (n : Str) : (homesOf a n).length = (homesOf b n).length := by
  unfold homesOf mine
  rw [List.length_map, List.length_map, (h.filter _).length_eq, List.filter_map, List.length_map]
  rfl
theorem rights_rev {l : List Svc} : (wrongS l.reverse).err = 0 ↔ (wrongS l).err = 0 := by
  rw [wrongS_iff, wrongS_iff]
  simp
theorem all_rev {l : List Svc} : (allM l.reverse).2.err = 0 ↔ (allM l).2.err = 0 := by
  rw [allM_iff, allM_iff, rights_rev]
  have h : ∀ n, ((fieldsOf (contribs 0 l.reverse) n).map (·.name)).Nodup ↔ ((fieldsOf (contribs 0 l) n).map (·.name)).Nodup := fun n => ((fieldsOf_perm (fun i => (l.length : Int) - 1 - i) (contribs_rev l) n).map _).nodup_iff
  simp only [h]
theorem sorted_names {l : List Prt} (h : Sorted l) : (l.map (·.type.name)).Pairwise (fun a b => strLt a b = true) := List.pairwise_map.2 h
theorem names_rev {l : List Svc} (h : (allM l).2.err = 0) : (allM l.reverse).1.map (·.type.name) = (allM l).1.map (·.type.name) := by
  have h2 := all_rev.2 h
  have hc := (allM_canon h).1
  have hc2 := (allM_canon h2).1
  refine rise_eq (sorted_names hc2.sorted) (sorted_names hc.sorted) fun n => ?_
  rw [hc2.names, hc.names, ((contribs_rev l).map fun c => c.2.type.name).mem_iff, List.map_map]
  rfl
/-- what is the same whichever way round -/
structure Turned (len : Nat) (p q : Prt) : Prop where
  name : q.type.name = p.type.name
  fields : q.type.fields.length = p.type.fields.length
  homes : q.homes.length = p.homes.length
  each : ∀ (k : Nat) f o, p.type.fields[k]? = some f → p.owners[k]? = some o → ∃ (j : Nat) (o' : Ownr), fieldF q.type.fields f.name = (j : Int) ∧ q.type.fields[j]? = some f ∧ q.owners[j]? = some o' ∧ o'.service = (len : Int) - 1 - o.service ∧ o'.type = o.type ∧ o'.field = o.field
theorem parts_rev {l : List Svc} (h : (allM l).2.err = 0) {i : Nat} {p : Prt} (hp : (allM l).1[i]? = some p) : ∃ q, (allM l.reverse).1[i]? = some q ∧ Turned l.length p q := by
  have h2 := all_rev.2 h
  have hc := (allM_canon h).1
  have hc2 := (allM_canon h2).1
  have hnm := names_rev h
  have h3 := congrArg (fun l => l[i]?) hnm
  simp only [List.getElem?_map, hp, Option.map_some] at h3
  obtain ⟨q, hq, hqn⟩ := Option.map_eq_some_iff.1 h3
  have hpm := List.mem_of_getElem? hp
  have hqm := List.mem_of_getElem? hq
  have hpe := hc.eq p hpm
  have hqe := hc2.eq q hqm
  rw [hqn] at hqe
  have hperm := fieldsOf_perm (fun i => (l.length : Int) - 1 - i) (contribs_rev l) p.type.name
  have hpf : p.type.fields = fieldsOf (contribs 0 l) p.type.name := congrArg (fun p : Prt => p.type.fields) hpe
  have hqf : q.type.fields = fieldsOf (contribs 0 l.reverse) p.type.name := congrArg (fun p : Prt => p.type.fields) hqe
  refine ⟨q, hq, hqn, by rw [hpf, hqf]; exact hperm.length_eq, ?_, fun k f o hf ho => ?_⟩
  · have e1 : p.homes = homesOf (contribs 0 l) p.type.name := congrArg (fun p : Prt => p.homes) hpe
    have e2 : q.homes = homesOf (contribs 0 l.reverse) p.type.name := congrArg (fun p : Prt => p.homes) hqe
    rw [e1, e2]
    exact homesOf_len _ (contribs_rev l) _
  · have hm : f ∈ q.type.fields := by
      rw [hqf, hperm.mem_iff, ← hpf]
      exact List.mem_of_getElem? hf
    obtain ⟨j, hj⟩ := List.getElem?_of_mem hm
    obtain ⟨o1, i1, s1, q1, t1, m1, ho1, hb1⟩ := part_field h hpm hf
    obtain ⟨o2, i2, s2, q2, t2, m2, ho2, hb2⟩ := part_field h2 hqm hj
    rw [ho] at ho1
    cases ho1
    refine ⟨j, o2, fieldF_at (part_nodup h2 hqm) hj, hj, ho2, ?_⟩
    have hi2 := (List.getElem?_eq_some_iff.1 hb2.svc).1
    rw [List.length_reverse] at hi2
    have hsv := hb2.svc
    rw [List.getElem?_reverse hi2] at hsv
    have hc1 : ((i1 : Int), q1) ∈ contribs 0 l := by have := mem_contribs (n := 0) hb1.svc hb1.seen.mem; rwa [Nat.zero_add] at this
    have hc2' : (((l.length - 1 - i2 : Nat) : Int), q2) ∈ contribs 0 l := by have := mem_contribs (n := 0) hsv hb2.seen.mem; rwa [Nat.zero_add] at this
    have heq := field_uniq (hc.nodup p.type.name) hc1 hc2' hb1.name (hb2.name.trans hqn) (List.mem_map_of_mem (List.mem_of_getElem? hb1.fld)) (List.mem_map_of_mem (List.mem_of_getElem? hb2.fld))
    simp only [Prod.mk.injEq] at heq
    obtain ⟨h4, rfl⟩ := heq
    refine ⟨by rw [hb2.service, hb1.service]; omega, hb2.own.symm.trans hb1.own, ?_⟩
    have hnd := ((seeM_right hb1.right.see).1.fields q1.type (List.mem_map_of_mem hb1.seen.mem)).nodup
    have e1 : (q1.type.fields.map (·.name))[m1]? = some f.name := by rw [List.getElem?_map, hb1.fld]; rfl
    have e2 : (q1.type.fields.map (·.name))[m2]? = some f.name := by rw [List.getElem?_map, hb2.fld]; rfl
    have hmm : m1 = m2 := (List.getElem?_inj (List.getElem?_eq_some_iff.1 e1).1 hnd).1 (e1.trans e2.symm)
    subst hmm
    have e3 := hb1.ofld.symm.trans hb2.ofld
    exact (Option.some.inj e3).symm
end Go.Proofs.Ytgckpmcdlciibac
