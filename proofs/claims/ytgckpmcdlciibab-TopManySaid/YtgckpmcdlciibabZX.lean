/- Several texts in one: Contracts of chapter 6: what a pick gets of a thing. Contracts of chapter 6: what picks get of a thing; what is meant. -/
import Derived.Test.YtgckpmcdlciibabZW
import Derived.Test.YtgckpmcdlciibabZV
import Derived.Test.YtgckpmcdlciibabZK
import Derived.Test.YtgckpmcdlciibabZS
import Derived.Test.YtgckpmcdlciibabZE
namespace Go.Proofs.Ytgckpmcdlciibab
open Go.RowKit
/-- all that a thing's picks are looked up in -/
structure InW (S S2 : Nat → Prop) (wb pb po : Nat) (lv pv fv ov hv : Value) (l : List Svc) (ps : List Prt) (p : Prt) (w : World) : Prop where
  ok : WholeOk l ps
  mem : p ∈ ps
  whole : At w wb 0 [lv, pv]
  svcs : SliceOf svcLay S w lv l
  parts : SliceOf prtLay S2 w pv ps
  part : At w pb po [.string p.type.name, fv, ov, hv]
  fields : SliceOf fldLay S2 w fv p.type.fields
  owners : SliceOf ownLay S2 w ov p.owners
  homes : SliceOf ownLay S2 w hv p.homes
theorem InW.up {S S2 : Nat → Prop} {wb pb po : Nat} {lv pv fv ov hv : Value} {l : List Svc} {ps : List Prt} {p : Prt} {w w' : World} (h : InW S S2 wb pb po lv pv fv ov hv l ps p w) (hu : Up w w') : InW S S2 wb pb po lv pv fv ov hv l ps p w' :=
  ⟨h.ok, h.mem, h.whole.up hu, h.svcs.up hu, h.parts.up hu, h.part.up hu, h.fields.up hu, h.owners.up hu, h.homes.up hu⟩
/-- the same, of another type of the whole -/
theorem InW.to {S S2 : Nat → Prop} {wb pb po pa : Nat} {pn pc : Nat} {pb' : Nat} {lv fv ov hv : Value} {l : List Svc} {ps : List Prt} {p t : Prt} {w : World} {k : Nat} (h : InW S S2 wb pb po lv (.slice (some ⟨pb', pa, none⟩) pn pc) fv ov hv l ps p w) (ht : ps[k]? = some t) : ∃ fv' ov' hv', InW S S2 wb pb' (pa + k * 4) lv (.slice (some ⟨pb', pa, none⟩) pn pc) fv' ov' hv' l ps t w := by
  obtain ⟨b, o, cs, he, _, hat, ⟨fv', ov', hv', rfl, h1, h2, h3⟩, _⟩ := h.parts.at ht
  simp only [Option.some.injEq, Addr.mk.injEq, and_true] at he
  obtain ⟨rfl, rfl⟩ := he
  exact ⟨fv', ov', hv', h.ok, List.mem_of_getElem? ht, h.whole, h.svcs, h.parts, hat, h1, h2, h3⟩
theorem pickS_def (S : Sem) (q : Pck) (n k : Str) : pickS S q n k = match S.fld n q.field with
    | none => default
    | some f => match S.val n q.field k with
      | none => .mk (calledM q) f.kind true ⟨#[]⟩ [] []
      | some v => if f.kind = 1 then .mk (calledM q) f.kind false v.text [] []
        else if f.kind = 2 then oneOf (calledM q) ((v.keys.filter (S.there f.type)).map fun x => thingS S q.picks f.type x)
        else .mk (calledM q) f.kind false ⟨#[]⟩ [] ((v.keys.filter (S.there f.type)).map fun x => thingS S q.picks f.type x) := by
  obtain ⟨a, fd, ps⟩ := q
  simp only [pickS, Pck.field, Pck.picks, calledM, Pck.as]
  rfl
theorem filter_snoc {α : Type} {l : List α} {i : Nat} {x : α} {g : α → Bool} (hx : l[i]? = some x) : (l.take (i + 1)).filter g = (l.take i).filter g ++ if g x then [x] else [] := by
  obtain ⟨hlt, rfl⟩ := List.getElem?_eq_some_iff.1 hx
  rw [List.take_succ_eq_append_getElem hlt, List.filter_append]
  cases h : g l[i] <;> simp [h]
theorem SliceOf.cell {α : Type} {L : Lay α} {S : Nat → Prop} {w : World} {v : Value} {xs : List α} (h : SliceOf L S w v xs) : v.oneCell' = true := by
  obtain ⟨a, c, rfl, _⟩ := h
  rfl
end Go.Proofs.Ytgckpmcdlciibab

namespace Go.Proofs.Ytgckpmcdlciibab
open Go.RowKit
theorem goes_pick {l : List Svc} {ps : List Prt} {m : Nat} {p : Prt} {picks : List Pck} (hw : WholeOk l ps) (hp : p ∈ ps) (hg : goesM (m + 1) ps p.type.name picks = 0) {i : Nat} {q : Pck} (hq : picks[i]? = some q) :
    ∃ (j : Nat) (f : Fld), fieldF p.type.fields q.field = (j : Int) ∧ p.type.fields[j]? = some f ∧ (f.kind = 1 ↔ q.picks = []) ∧ (q.picks ≠ [] → goesM m ps f.type q.picks = 0) := by
  obtain ⟨k, t, hk, ht, hn, heach⟩ := goes_ok hg
  have htp : t = p := by
    have h1 := partM_mem hw hp
    unfold partM at h1
    rw [hk, if_neg (by omega), Int.toNat_natCast, ht] at h1
    exact Option.some.inj h1
  subst htp
  obtain ⟨⟨j, f, h1, h2, _, h3, h4⟩, _⟩ := heach i q hq
  exact ⟨j, f, h1, h2, h3, h4⟩
end Go.Proofs.Ytgckpmcdlciibab
