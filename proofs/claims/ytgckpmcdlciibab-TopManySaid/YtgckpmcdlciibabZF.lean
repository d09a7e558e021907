/- Several texts in one: From the form's reading of an argument to its plain data. How a law's row is closed: the arguments read as they did, the result is true. From the form's reading of an argument to its plain data, sizes told: each string and each slice lies within the form's reach. -/
import Derived.Test.YtgckpmcdlciibabZB
import Derived.ProofKit
import Derived.Deep.Slices
import Derived.OpenShut
import Derived.Test.YtgckpmcdlciibabZP
import Derived.SizedLaws
namespace Go.Proofs.Ytgckpmcdlciibab
open Go.RowKit Go.Deep Go.WideMaps Go.WideElems

section
variable {H : Type} {enc : TypeId × Value → H} {w : World} {base : Nat} {spare : Nat → Bool} {held : Bool} {fuel : Nat} {cs : List Value} {x : DataW H × List MemPlace}
def All : Nat → Prop := fun _ => True

end
def okS (s : Str) : Prop := s.size ≤ maxLen
def okFld (f : Fld) : Prop := okS f.name ∧ okS f.type
end Go.Proofs.Ytgckpmcdlciibab

namespace Go.Proofs.Ytgckpmcdlciibab
open Go.ChangeShapes Go.WideShapes Go.ChangeAt Go.RowKit
theorem own : ownKnob Try.prog.godebug = none := by kernel_rfl
theorem laidOut : laidOutB Try.prog = true := by kernel_rfl
section
variable {P : Program}
def readB (P : Program) (ts : List TypeId) : Bool := ts.all fun t => P.readableRec t && decide (t < P.types.size)
theorem trodAll_up (hl : laidOutB P = true) {H : Type} {enc : TypeId × Value → H} {W W' : World} (hu : Up W W') : ∀ (ts : List TypeId) (vs : List Value) (ds : List (DataW H)) (ps : List MemPlace), DataW.TrodAll enc P W 0 (fun _ => true) true ts vs ds ps → readB P ts = true → (∀ x ∈ ps, x.block < W.heap.size) →
    DataW.TrodAll enc P W' 0 (fun b => decide (b < W.heap.size)) true ts vs ds ps := by
  intro ts
  induction ts with
  | nil =>
    intro vs ds ps h _ _
    cases vs <;> cases ds <;> first | exact h | (simp [DataW.TrodAll] at h)
  | cons t ts ih =>
    intro vs ds ps h hr hlt
    cases vs with
    | nil => simp [DataW.TrodAll] at h
    | cons v vs =>
      cases ds with
      | nil => simp [DataW.TrodAll] at h
      | cons d ds =>
        obtain ⟨p, q, h1, h2, rfl⟩ := h
        simp only [readB, List.all_cons, Bool.and_eq_true, decide_eq_true_eq] at hr
        exact ⟨p, q, Below.trod hl hr.1.1 hr.1.2 h1 hu (fun x hx => hlt x (List.mem_append_left _ hx)), ih vs ds q h2 (by simpa [readB] using hr.2) (fun x hx => hlt x (List.mem_append_right _ hx)), rfl⟩
end
theorem law_post {H : Type} {enc : TypeId × Value → H} {fn : Func} {s : ChangeSpec} {W W' : World} {args : Array Value} {ds gs : List (DataW H)} {before : List MemPlace}
    (hW : DataW.Whole enc Try.prog fn.params.toList s.vars false W args.toList ds gs before) (hv : s.vars = []) (hres : fn.resultTypes = #[4]) (hs : ∀ gs : List (DataW H), gs = [] → s.fn H (ds ++ gs) = { results := [.lit (.bool true)], args := ds }) (hr : readB Try.prog fn.params.toList = true) (hu : Up W W') :
    s.post enc Try.prog fn false true false false W args (.bool true) W' := by
  have hlt := hW.lt
  have hW' := hW
  obtain ⟨p, q, hA, hV, rfl, _, _⟩ := hW
  rw [hv] at hV
  obtain ⟨rfl, rfl⟩ := trodVars_none hV
  have hs := hs [] rfl
  have hup := trodAll_up laidOut hu _ _ _ _ hA hr (fun x hx => hlt x (List.mem_append_left _ hx))
  refine ⟨ds, [], p ++ [], [], p, [], hW', ?_, ?_, ?_, World.keptBut_mono (fun x hx => ⟨hx, .inr (.inl (by simpa using hx))⟩) (hu.below.frame _), fun h => by cases h⟩
  · rw [hs, hres]
    exact trodAll_mk1 (shut_bool Try.underlying4 true)
  · rw [hs]
    exact hup
  · rw [hs, hv]
    rfl
end Go.Proofs.Ytgckpmcdlciibab

namespace Go.Proofs.Ytgckpmcdlciibab
open Go.RowKit Go.Deep Go.WideMaps Go.WideElems
def okL {α : Type} (by_ : Nat) (ok : α → Prop) (xs : List α) : Prop := xs.length * by_ ≤ 140737488351232 ∧ ∀ y ∈ xs, ok y
section
variable {H : Type} {enc : TypeId × Value → H} {w : World} {base : Nat} {spare : Nat → Bool} {held : Bool} {fuel : Nat} {cs : List Value} {x : DataW H × List MemPlace}
end
def okWT (t : Typ) : Prop := okS t.name ∧ okL 40 okFld t.fields
def okWV (v : VVal) : Prop := okS v.field ∧ okS v.text ∧ okL 16 okS v.keys
def okWX (x : Thg) : Prop := okS x.type ∧ okS x.key ∧ okL 56 okWV x.vals
def okChg (c : Chg) : Prop := okS c.type ∧ okS c.field ∧ okS c.to
def okSvc (s : Svc) : Prop := okL 40 okWT s.types ∧ okL 56 okChg s.changes ∧ okL 56 okWX s.things
def rqLay : Lay Rq where
  k := 4
  pos := by decide
  is := fun S w cs q => ∃ v1 v2, cs = [.int .i64 q.service, .string q.type, v1, v2] ∧ SliceOf strLay S w v1 q.keys ∧ SliceOf strLay S w v2 q.fields
  len := by rintro S w cs x ⟨v1, v2, rfl, _⟩; rfl
  keep := fun ⟨v1, v2, h, h1, h2⟩ hk => ⟨v1, v2, h, h1.keep hk, h2.keep hk⟩
  mono := fun ⟨v1, v2, h, h1, h2⟩ hk => ⟨v1, v2, h, h1.mono hk, h2.mono hk⟩
  old := fun ⟨v1, v2, h, h1, h2⟩ => ⟨v1, v2, h, h1.old, h2.old⟩
end Go.Proofs.Ytgckpmcdlciibab
