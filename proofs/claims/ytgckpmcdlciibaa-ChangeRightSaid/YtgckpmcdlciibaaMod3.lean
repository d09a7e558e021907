/- Plain functions of chapter 5: requests and replies. -/
import Derived.Test.YtgckpmcdlciibaaMod1
namespace Go.Proofs.Ytgckpmcdlciibaa
def strAt (l : List Str) (s : Str) : Int := firstIdx l fun x => decide (x = s)
def dupErr (l : List Str) (i : Nat) (s : Str) : Int := if 0 ≤ strAt (l.take i) s then 6 else 0
def rqErr (fs : List Fld) (l : List Str) (i : Nat) (s : Str) : Int := if fieldF fs s < 0 then 7 else if 0 ≤ strAt (l.take i) s then 6 else 0
def rqTail (fs : List Fld) (fl kl : List Str) : Int := match firstBad (rqErr fs fl) 0 fl with
  | some (_, e) => e
  | none => match firstBad (dupErr kl) 0 kl with
    | some (_, e) => e
    | none => 0
def wrongRq (l : List Svc) (q : Rq) : Int :=
  if q.service < 0 then 5 else match l[q.service.toNat]? with
    | none => 5
    | some s => if findT s.types q.type < 0 then 1 else match s.types[(findT s.types q.type).toNat]? with
      | none => 1
      | some t => rqTail t.fields q.fields q.keys
def thingM (xs : List Thg) (t k : Str) : Option Thg := if thingAt xs t k < 0 then none else xs[(thingAt xs t k).toNat]?
def valsM (fs : List Str) (x : Option Thg) : List VVal := match x with
  | none => []
  | some x => fs.flatMap fun f => x.vals.filter fun v => decide (v.field = f)
def ansKey (s : Svc) (q : Rq) (k : Str) : Bool × List VVal := ((thingM s.things q.type k).isSome, valsM q.fields (thingM s.things q.type k))
def answerM (l : List Svc) (q : Rq) : Rp × Int :=
  if wrongRq l q = 0 then match l[q.service.toNat]? with
    | none => (⟨[], []⟩, 5)
    | some s => (⟨q.keys.map fun k => (ansKey s q k).1, q.keys.map fun k => (ansKey s q k).2⟩, 0)
  else (⟨[], []⟩, wrongRq l q)
theorem wrongRq_some {l : List Svc} {q : Rq} {s : Svc} (h0 : ¬ q.service < 0) (hs : l[q.service.toNat]? = some s) : wrongRq l q = if findT s.types q.type < 0 then 1 else match s.types[(findT s.types q.type).toNat]? with
      | none => 1
      | some t => rqTail t.fields q.fields q.keys := by
  unfold wrongRq
  rw [if_neg h0, hs]
theorem wrongRq_zero {l : List Svc} {q : Rq} (h : wrongRq l q = 0) : ∃ s t : _, 0 ≤ q.service ∧ l[q.service.toNat]? = some s ∧ 0 ≤ findT s.types q.type ∧ s.types[(findT s.types q.type).toNat]? = some t ∧ rqTail t.fields q.fields q.keys = 0 := by
  unfold wrongRq at h
  split at h
  · cases h
  rename_i h0
  split at h
  · cases h
  rename_i s hs
  split at h
  · cases h
  rename_i h1
  split at h
  · cases h
  rename_i t ht
  exact ⟨s, t, by omega, hs, by omega, ht, h⟩
theorem rqTail_zero {fs : List Fld} {fl kl : List Str} (h : rqTail fs fl kl = 0) : (∀ (j : Nat) y, fl[j]? = some y → rqErr fs fl j y = 0) ∧ ∀ (j : Nat) y, kl[j]? = some y → dupErr kl j y = 0 := by
  unfold rqTail at h
  split at h
  · rename_i i e he
    obtain ⟨x, j, _, _, _, hne, _⟩ := firstBad_some he
    exact absurd h hne
  rename_i h1
  split at h
  · rename_i i e he
    obtain ⟨x, j, _, _, _, hne, _⟩ := firstBad_some he
    exact absurd h hne
  rename_i h2
  exact ⟨fun j y hj => by have := firstBad_eq_none h1 j y hj; rwa [Nat.zero_add] at this, fun j y hj => by have := firstBad_eq_none h2 j y hj; rwa [Nat.zero_add] at this⟩
end Go.Proofs.Ytgckpmcdlciibaa
