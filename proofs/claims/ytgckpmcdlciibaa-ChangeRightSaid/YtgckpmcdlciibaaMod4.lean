/- Plain functions of chapter 2: what is seen of a schema behind changes. -/
import Derived.Test.YtgckpmcdlciibaaMod1
namespace Go.Proofs.Ytgckpmcdlciibaa
def snF (v : List Sn) (n : Str) : Int := firstIdx v fun s => decide (s.type.name = n)
/-- the types' fields name a type otherwise -/
def reF (frm to : Str) (f : Fld) : Fld := if f.kind ≠ 1 ∧ f.type = frm then { f with type := to } else f
def reS (frm to : Str) (s : Sn) : Sn := { s with type := { s.type with fields := s.type.fields.map (reF frm to) } }
def nameS (to : Str) (s : Sn) : Sn := { s with type := { s.type with name := to } }
def callV (v : List Sn) (k : Nat) (to : Str) : List Sn := match v[k]? with
  | none => v
  | some s => (v.set k (nameS to s)).map (reS s.type.name to)
def hideS (f : Nat) (s : Sn) : Sn := { s with type := { s.type with fields := s.type.fields.eraseIdx f }, fields := s.fields.eraseIdx f }
def fieldS (f : Nat) (to : Str) (s : Sn) : Sn := { s with type := { s.type with fields := s.type.fields.modify f fun x => { x with name := to } } }
/-- a change: what is wrong with it (0: nothing), and what is seen behind it -/
def doV (v : List Sn) (c : Chg) : Int × List Sn :=
  if c.kind < 1 ∨ 3 < c.kind then (1, v) else
  if snF v c.type < 0 then (5, v) else
  if c.kind = 1 then
    if named c.to = true ∧ ¬ 0 ≤ snF v c.to then (0, callV v (snF v c.type).toNat c.to) else (6, v)
  else match v[(snF v c.type).toNat]? with
    | none => (5, v)
    | some s => if fieldF s.type.fields c.field < 0 then (5, v) else
      if c.kind = 3 then (0, v.modify (snF v c.type).toNat (hideS (fieldF s.type.fields c.field).toNat)) else
      if named c.to = true ∧ ¬ 0 ≤ fieldF s.type.fields c.to then (0, v.modify (snF v c.type).toNat (fieldS (fieldF s.type.fields c.field).toNat c.to)) else (6, v)
def seeInit (l : List Typ) : List Sn := l.map fun t => ⟨t, t.name, t.fields.map (·.name)⟩
/-- all changes, in turn: the first that can't be, and what is seen -/
def doAll : List Sn → Nat → List Chg → List Sn × Flt
  | v, _, [] => (v, ⟨0, 0⟩)
  | v, i, c :: cs => if (doV v c).1 = 0 then doAll (doV v c).2 (i + 1) cs else ([], ⟨(doV v c).1, i⟩)
def seeM (l : List Typ) (cs : List Chg) : List Sn × Flt :=
  if (wrongT l).err ≠ 0 then ([], wrongT l) else if 12 < cs.length then ([], ⟨4, 0⟩) else doAll (seeInit l) 0 cs
end Go.Proofs.Ytgckpmcdlciibaa
