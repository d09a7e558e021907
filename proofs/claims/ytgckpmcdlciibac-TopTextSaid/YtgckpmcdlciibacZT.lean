/- Plain laws of chapter 3: services in another order. -/
import Derived.Test.YtgckpmcdlciibacZR
import Derived.Test.YtgckpmcdlciibacZJ
namespace Go.Proofs.Ytgckpmcdlciibac
theorem flat_uniq {α β : Type} {g : α → List β} : ∀ {cs : List α} {c1 c2 : α} {a : β}, (cs.flatMap g).Nodup → c1 ∈ cs → c2 ∈ cs → a ∈ g c1 → a ∈ g c2 → c1 = c2
  | [], _, _, _, _, h, _, _, _ => by simp at h
  | c :: cs, c1, c2, a, hn, h1, h2, ha1, ha2 => by
    rw [List.flatMap_cons, List.nodup_append] at hn
    rcases List.mem_cons.1 h1 with e1 | h3
    · rcases List.mem_cons.1 h2 with e2 | h4
      · rw [e1, e2]
      · subst e1
        exact absurd rfl (hn.2.2 a ha1 a (List.mem_flatMap.2 ⟨c2, h4, ha2⟩))
    · rcases List.mem_cons.1 h2 with e2 | h4
      · subst e2
        exact absurd rfl (hn.2.2 a ha2 a (List.mem_flatMap.2 ⟨c1, h3, ha1⟩))
      · exact flat_uniq hn.2.1 h3 h4 ha1 ha2
/-- of one name just one contribution has a field -/
theorem field_uniq {cs : List (Int × Sn)} {n f : Str} (h : ((fieldsOf cs n).map (·.name)).Nodup) {c1 c2 : Int × Sn} (h1 : c1 ∈ cs) (h2 : c2 ∈ cs) (hn1 : c1.2.type.name = n) (hn2 : c2.2.type.name = n) (hf1 : f ∈ c1.2.type.fields.map (·.name)) (hf2 : f ∈ c2.2.type.fields.map (·.name)) : c1 = c2 := by
  unfold fieldsOf at h
  rw [List.map_flatMap] at h
  exact flat_uniq h (List.mem_filter.2 ⟨h1, decide_eq_true hn1⟩) (List.mem_filter.2 ⟨h2, decide_eq_true hn2⟩) hf1 hf2
theorem contribs_app : ∀ (a b : List Svc) (n : Nat), contribs n (a ++ b) = contribs n a ++ contribs (n + a.length) b
  | [], b, n => by simp [contribs]
  | s :: a, b, n => by
    simp only [List.cons_append, contribs, contribs_app a b (n + 1), List.append_assoc, List.length_cons]
    rw [show n + 1 + a.length = n + (a.length + 1) by omega]
end Go.Proofs.Ytgckpmcdlciibac
