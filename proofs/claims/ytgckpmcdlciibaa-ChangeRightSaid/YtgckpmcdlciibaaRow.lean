/- How a law's row is closed: the arguments read as they did, the result is true. -/
import Derived.Test.YtgckpmcdlciibaaOpen
import Derived.OpenShut
namespace Go.Proofs.Ytgckpmcdlciibaa
open Go.ChangeShapes Go.WideShapes Go.ChangeAt Go.RowKit
theorem own : ownKnob Try.prog.godebug = none := by kernel_rfl
theorem laidOut : laidOutB Try.prog = true := by kernel_rfl
section
variable {P : Program}
def readB (P : Program) (ts : List TypeId) : Bool := ts.all fun t => P.readableRec t && decide (t < P.types.size)
theorem trodAll_up (hl : laidOutB P = true) {H : Type} {enc : TypeId × Value → H} {W W' : World} (hu : Up W W') : ∀ (ts : List TypeId) (vs : List Value) (ds : List (DataW H)) (ps : List MemPlace), DataW.TrodAll enc P W 0 (fun _ => true) true ts vs ds ps → readB P ts = true → (∀ x ∈ ps, x.block < W.heap.size) →
    DataW.TrodAll enc P W' 0 (fun b => decide (b < W.heap.size)) true ts vs ds ps := by
  intro ts
  induction ts with
  | nil =>
    intro vs ds ps h _ _
    cases vs <;> cases ds <;> first | exact h | (simp [DataW.TrodAll] at h)
  | cons t ts ih =>
    intro vs ds ps h hr hlt
    cases vs with
    | nil => simp [DataW.TrodAll] at h
    | cons v vs =>
      cases ds with
      | nil => simp [DataW.TrodAll] at h
      | cons d ds =>
        obtain ⟨p, q, h1, h2, rfl⟩ := h
        simp only [readB, List.all_cons, Bool.and_eq_true, decide_eq_true_eq] at hr
        exact ⟨p, q, Below.trod hl hr.1.1 hr.1.2 h1 hu (fun x hx => hlt x (List.mem_append_left _ hx)), ih vs ds q h2 (by simpa [readB] using hr.2) (fun x hx => hlt x (List.mem_append_right _ hx)), rfl⟩
end
theorem law_post {H : Type} {enc : TypeId × Value → H} {fn : Func} {s : ChangeSpec} {W W' : World} {args : Array Value} {ds gs : List (DataW H)} {before : List MemPlace}
    (hW : DataW.Whole enc Try.prog fn.params.toList s.vars false W args.toList ds gs before) (hv : s.vars = []) (hres : fn.resultTypes = #[4]) (hs : ∀ gs : List (DataW H), gs = [] → s.fn H (ds ++ gs) = { results := [.lit (.bool true)], args := ds }) (hr : readB Try.prog fn.params.toList = true) (hu : Up W W') :
    s.post enc Try.prog fn false true false false W args (.bool true) W' := by
  have hlt := hW.lt
  have hW' := hW
  obtain ⟨p, q, hA, hV, rfl, _, _⟩ := hW
  rw [hv] at hV
  obtain ⟨rfl, rfl⟩ := trodVars_none hV
  have hs := hs [] rfl
  have hup := trodAll_up laidOut hu _ _ _ _ hA hr (fun x hx => hlt x (List.mem_append_left _ hx))
  refine ⟨ds, [], p ++ [], [], p, [], hW', ?_, ?_, ?_, World.keptBut_mono (fun x hx => ⟨hx, .inr (.inl (by simpa using hx))⟩) (hu.below.frame _), fun h => by cases h⟩
  · rw [hs, hres]
    exact trodAll_mk1 (shut_bool Try.underlying4 true)
  · rw [hs]
    exact hup
  · rw [hs, hv]
    rfl
end Go.Proofs.Ytgckpmcdlciibaa
