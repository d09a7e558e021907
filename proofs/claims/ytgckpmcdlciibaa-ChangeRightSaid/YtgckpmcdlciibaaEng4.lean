/- More rules: memory that is made and written. -/
import Derived.Test.YtgckpmcdlciibaaRep
namespace Go.Proofs.Ytgckpmcdlciibaa
open Go.RowKit
section
variable {P : Program} {e : Env} {w : World} {ty : TypeId} {v : Value}

/-- a block of cells, whole -/
def Box (w : World) (b : Nat) (t : TypeId) (cs : List Value) : Prop := w.heap[b]? = some (.cells cs.toArray t)
theorem Box.at {b : Nat} {t : TypeId} {cs : List Value} (h : Box w b t cs) : At w b 0 cs := fun j v hj => by
  rw [cell_of_row _ _ _ cs.toArray t (0, 0) h]
  simpa using hj
theorem Box.lt {b : Nat} {t : TypeId} {cs : List Value} (h : Box w b t cs) : b < w.heap.size := (Array.getElem?_eq_some_iff.1 h).1
theorem Box.up {w' : World} {b : Nat} {t : TypeId} {cs : List Value} (h : Box w b t cs) (hu : Up w w') : Box w' b t cs := (hu.block h.lt).trans h
theorem Box.new (w : World) (cs : List Value) (t : TypeId) : Box (w.alloc (.cells cs.toArray t)) w.heap.size t cs := heap_alloc_new w _
theorem Box.box (w : World) (v : Value) (t : TypeId) : Box (w.alloc (.cells v.cells t)) w.heap.size t v.cells.toList := by
  have := Box.new w v.cells.toList t
  simpa using this
theorem Box.keep {S : Nat → Prop} {w' : World} {b : Nat} {t : TypeId} {cs : List Value} (h : Box w b t cs) (hk : Keep S w w') (hb : S b) : Box w' b t cs := (hk b hb h.lt).trans h

/-- w' is w but for block b -/
structure But (b : Nat) (w w' : World) : Prop where
  os : w'.os = w.os
  tape : w'.tape = w.tape
  output : w'.output = w.output
  size : w.heap.size ≤ w'.heap.size
  block : ∀ k, k < w.heap.size → k ≠ b → w'.heap[k]? = w.heap[k]?
theorem But.keep {b : Nat} {w w' : World} (h : But b w w') : Keep (fun k => k ≠ b) w w' := fun k hk hlt => h.block k hlt hk
theorem But.below {B b : Nat} {w w' : World} (h : But b w w') (hB : B ≤ w.heap.size) (hb : B ≤ b) : Below B w w' := ⟨h.os, h.tape, h.output, h.size, fun k hk => h.block k (by omega) (by omega)⟩
/-- what was new since w0 is written: w0 stands -/
theorem Up.but {b : Nat} {w0 w w' : World} (h : Up w0 w) (hb : But b w w') (hlt : w0.heap.size ≤ b) : Up w0 w' := Below.trans (b := w) h (hb.below h.size hlt)
theorem But.of_up {b : Nat} {w w' : World} (h : Up w w') : But b w w' := ⟨Below.os h, Below.tape h, Below.output h, h.size, fun _ hk _ => h.block hk⟩
theorem But.trans {b : Nat} {x y z : World} (h : But b x y) (k : But b y z) : But b x z := ⟨k.os.trans h.os, k.tape.trans h.tape, k.output.trans h.output, Nat.le_trans h.size k.size, fun i hi hne => (k.block i (Nat.lt_of_lt_of_le hi h.size) hne).trans (h.block i hi hne)⟩

/-- '[]byte(s)' -/
theorem e_bytes {t u el : TypeId} {x : Operand} {s : ByteArray} [IsStr P t] [Sli P u el] [IsInt P el .u8] (hx : e.ev x = some (.string s)) (hs : s.size ≤ maxLen) :
    ∃ (c : Nat) (w' : World), Eff P (.convert t u x) ty e w (.slice (some ⟨w.heap.size, 0, none⟩) s.size c) w' ∧ Up w w' ∧ s.size ≤ c ∧ c ≤ maxLen ∧ ∀ (i : Nat) ch, s[i]? = some ch → w'.cell? ⟨w.heap.size, 0 + i * 1, none⟩ = some (.int .u8 (ch.toNat : Int)) := by
  have h1 := run_bytes_of_string (P := P) w t u el s IsStr.h Sli.h IsInt.h
  let o : Obj := .cells (bytesRow s (grownCap w s.size 0 el)) el ((bytesRow s (grownCap w s.size 0 el)).size, (bytesRow s (grownCap w s.size 0 el)).size + 1)
  refine ⟨grownCap w s.size 0 el, w.drew.alloc o, Eff.mk fun ρ hρ => ?_, (Up.drew w).trans (Up.alloc _ _), grownCap_ge w s.size 0 el, grownCap_le_maxLen w s.size 0 el hs, fun i ch hi => ?_⟩
  · simp [xop, execOp, hρ x _ hx, h1, o]
  · have hb : (w.drew.alloc o).heap[w.heap.size]? = some o := heap_alloc_new w.drew o
    rw [cell_of_row _ _ _ _ _ _ hb]
    have hlt : i < s.size := by
      by_cases h : i < s.size
      · exact h
      · simp [h] at hi
    have hi' : s[i] = ch := by simpa [hlt] using hi
    unfold bytesRow
    rw [Array.getElem?_append_left (by simpa using hlt)]
    have : s.data[i]? = some ch := by rw [← hi']; exact Array.getElem?_eq_getElem hlt
    simp [this]

def Env.parts (e : Env) : List (Nat × Operand) → Option (List (Nat × Value))
  | [] => some []
  | (i, x) :: r => match e.ev x with
    | some v => match Env.parts e r with
      | some vs => some ((i, v) :: vs)
      | none => none
    | none => none
theorem Env.Sees.parts {ρ : Operand → Value} (h : e.Sees ρ) : ∀ {l : List (Nat × Operand)} {vs : List (Nat × Value)}, e.parts l = some vs → l.map (fun x => (x.1, ρ x.2)) = vs
  | [], vs, hv => by simpa [Env.parts] using hv
  | (i, x) :: r, vs, hv => by
    simp only [Env.parts] at hv
    split at hv
    · rename_i v hx
      split at hv
      · rename_i us hr
        simp at hv
        subst hv
        simp [h x v hx, Env.Sees.parts h hr]
      · cases hv
    · cases hv
/-- a struct's literal -/
theorem y_build {t : TypeId} {parts : Array (Nat × Operand)} {ps : List (Nat × Value)} (hp : e.parts parts.toList = some ps) (hb : ∀ w, (Instr.build t ps.toArray).run P w = .ok v w) : Yld P (.build t parts) ty e w v := Yld.mk fun ρ hρ => by
  have h1 : parts.map (fun x => (x.1, ρ x.2)) = ps.toArray := Array.toList_inj.1 (by simpa using hρ.parts hp)
  simp [xop, execOp, h1, hb w]
/-- a slice's literal -/
theorem e_buildSlice {t el : TypeId} {n : Nat} {parts : Array (Nat × Operand)} {ps : List (Nat × Value)} {cs : List Value} (hp : e.parts parts.toList = some ps) (hb : ∀ w, (Instr.buildSlice t n ps.toArray).run P w = .ok (.slice (some ⟨w.heap.size, 0, none⟩) n n) (w.alloc (.cells cs.toArray el))) :
    Eff P (.buildSlice t n parts) ty e w (.slice (some ⟨w.heap.size, 0, none⟩) n n) (w.alloc (.cells cs.toArray el)) := Eff.mk fun ρ hρ => by
  have h1 : parts.map (fun x => (x.1, ρ x.2)) = ps.toArray := Array.toList_inj.1 (by simpa using hρ.parts hp)
  simp [xop, execOp, h1, hb w]

theorem But.setRow (w : World) (b : Nat) (cs : Array Value) : But b w (w.setRow b cs) := ⟨rfl, rfl, rfl, by simp [World.setRow], fun k _ hne => setRow_other w b k cs hne⟩
/-- a store into a block that is known whole -/
theorem s_store {t u : TypeId} {x y : Operand} {b o : Nat} {cs cs' news : List Value} {k : Nat} [Siz P t k] (hx : e.ev x = some (.pointer (some ⟨b, o, none⟩))) (hy : e.ev y = some v) (hb : Box w b u cs) (hv : v.cells = news.toArray) (hk : news.length = k)
    (h1 : ∀ c ∈ news, c.oneCell' = true) (hfit : o + news.length ≤ cs.length) (hcs : cs.take o ++ news ++ cs.drop (o + news.length) = cs') :
    ∃ w', Sto P (.store t x y) ty e w w' ∧ But b w w' ∧ Box w' b u cs' := by
  have h2 := Siz.run P t (k := k) w
  have h3 := run_storeCells_at P b o u news 0 cs.toArray w hb (by simpa using hfit) h1
  refine ⟨w.setRow b cs'.toArray, Sto.mk fun ρ hρ => ?_, But.setRow w b _, ?_⟩
  · subst hk
    subst hcs
    simp at h3
    simp [xop, execOp, hρ x _ hx, hρ y _ hy, Instr.storeAt, Instr.sureAddr, storeVar, hv, h2, h3]
  · have := setRow_heap w b cs.toArray cs'.toArray u (0, 0) hb
    exact this
end
end Go.Proofs.Ytgckpmcdlciibaa
