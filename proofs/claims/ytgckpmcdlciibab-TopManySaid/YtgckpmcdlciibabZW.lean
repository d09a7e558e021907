/- Several texts in one: Contracts of chapter 6: is a thing there; a field of it. How what is got lies in memory. -/
import Derived.Test.YtgckpmcdlciibabZS
import Derived.Test.YtgckpmcdlciibabZG
import Derived.Test.YtgckpmcdlciibabZV
import Derived.Test.YtgckpmcdlciibabZR
namespace Go.Proofs.Ytgckpmcdlciibab
open Go.RowKit
theorem findW_at {l : List Svc} {o : Ownr} {k : Str} {s : Svc} (hs : l[o.service.toNat]? = some s) : findW l o k = thingM s.things o.type k := by unfold findW; rw [hs]
end Go.Proofs.Ytgckpmcdlciibab

namespace Go.Proofs.Ytgckpmcdlciibab
open Go.RowKit
def Gt.name : Gt → Str | .mk a _ _ _ _ _ => a
def Gt.kind : Gt → Int | .mk _ a _ _ _ _ => a
def Gt.null : Gt → Bool | .mk _ _ a _ _ _ => a
def Gt.text : Gt → Str | .mk _ _ _ a _ _ => a
def Gt.sub : Gt → List Gt | .mk _ _ _ _ a _ => a
def Gt.subs : Gt → List (List Gt) | .mk _ _ _ _ _ a => a
/-- a slice value whose elements are so -/
def SlIs {α : Type} (k : Nat) (is : (Nat → Prop) → World → List Value → α → Prop) (S : Nat → Prop) (w : World) (v : Value) (xs : List α) : Prop :=
  ∃ a c, v = .slice a xs.length c ∧ xs.length ≤ c ∧ c ≤ maxLen ∧ (0 < xs.length → ∃ b o, a = some ⟨b, o, none⟩ ∧ S b ∧ ∀ (i : Nat) x, xs[i]? = some x → ∃ cs, At w b (o + i * k) cs ∧ is S w cs x)
section
variable {α : Type} {k : Nat} {is is' : (Nat → Prop) → World → List Value → α → Prop} {S S' : Nat → Prop} {w w' : World} {v : Value} {xs : List α}
theorem SlIs.keep (h : SlIs k is S w v xs) (hk : Keep S w w') (hi : ∀ {cs x}, is S w cs x → is S w' cs x) : SlIs k is S w' v xs := by
  obtain ⟨a, c, rfl, h1, h2, h3⟩ := h
  refine ⟨a, c, rfl, h1, h2, fun hp => ?_⟩
  obtain ⟨b, o, rfl, hb, he⟩ := h3 hp
  exact ⟨b, o, rfl, hb, fun i x hx => by obtain ⟨cs, hc, h4⟩ := he i x hx; exact ⟨cs, hc.keep hk hb, hi h4⟩⟩
theorem SlIs.mono (h : SlIs k is S w v xs) (hS : ∀ b, S b → S' b) (hi : ∀ {cs x}, is S w cs x → is' S' w cs x) : SlIs k is' S' w v xs := by
  obtain ⟨a, c, rfl, h1, h2, h3⟩ := h
  refine ⟨a, c, rfl, h1, h2, fun hp => ?_⟩
  obtain ⟨b, o, rfl, hb, he⟩ := h3 hp
  exact ⟨b, o, rfl, hS b hb, fun i x hx => by obtain ⟨cs, hc, h4⟩ := he i x hx; exact ⟨cs, hc, hi h4⟩⟩
theorem SlIs.old (hk : 0 < k) (hl : ∀ {cs x}, is S w cs x → cs.length = k) (h : SlIs k is S w v xs) (hi : ∀ {cs x}, is S w cs x → is (fun b => S b ∧ b < w.heap.size) w cs x) : SlIs k is (fun b => S b ∧ b < w.heap.size) w v xs := by
  obtain ⟨a, c, rfl, h1, h2, h3⟩ := h
  refine ⟨a, c, rfl, h1, h2, fun hp => ?_⟩
  obtain ⟨b, o, rfl, hb, he⟩ := h3 hp
  obtain ⟨cs, hc, h4⟩ := he 0 xs[0] (List.getElem?_eq_getElem hp)
  have hlt : b < w.heap.size := by
    have := hl h4
    match cs, this with
    | c0 :: _, _ => exact hc.lt
    | [], h5 => simp at h5; omega
  exact ⟨b, o, rfl, ⟨hb, hlt⟩, fun i x hx => by obtain ⟨cs, hc, h4⟩ := he i x hx; exact ⟨cs, hc, hi h4⟩⟩
end
/-- a list in a cell -/
def cellIs (is : (Nat → Prop) → World → List Value → Gt → Prop) (S : Nat → Prop) (w : World) (cs : List Value) (xs : List Gt) : Prop := ∃ v, cs = [v] ∧ SlIs 6 is S w v xs
/-- n levels of what is got -/
def gtIs : Nat → (Nat → Prop) → World → List Value → Gt → Prop
  | 0, _, _, _, _ => False
  | n + 1, S, w, cs, g => ∃ v1 v2, cs = [.string g.name, .int .i64 g.kind, .bool g.null, .string g.text, v1, v2] ∧ SlIs 6 (gtIs n) S w v1 g.sub ∧ SlIs 1 (cellIs (gtIs n)) S w v2 g.subs
theorem gtIs_len {n : Nat} {S : Nat → Prop} {w : World} {cs : List Value} {g : Gt} (h : gtIs n S w cs g) : cs.length = 6 := by
  cases n with
  | zero => exact h.elim
  | succ n => obtain ⟨v1, v2, rfl, _⟩ := h; rfl
theorem gtIs_keep : ∀ {n : Nat} {S : Nat → Prop} {w w' : World} {cs : List Value} {g : Gt}, gtIs n S w cs g → Keep S w w' → gtIs n S w' cs g
  | 0, _, _, _, _, _, h, _ => h.elim
  | _ + 1, _, _, _, _, _, ⟨v1, v2, h, h1, h2⟩, hk => ⟨v1, v2, h, h1.keep hk fun h => gtIs_keep h hk, h2.keep hk fun ⟨v, h3, h4⟩ => ⟨v, h3, h4.keep hk fun h => gtIs_keep h hk⟩⟩
theorem gtIs_mono : ∀ {n : Nat} {S S' : Nat → Prop} {w : World} {cs : List Value} {g : Gt}, gtIs n S w cs g → (∀ b, S b → S' b) → gtIs n S' w cs g
  | 0, _, _, _, _, _, h, _ => h.elim
  | _ + 1, _, _, _, _, _, ⟨v1, v2, h, h1, h2⟩, hk => ⟨v1, v2, h, h1.mono hk fun h => gtIs_mono h hk, h2.mono hk fun ⟨v, h3, h4⟩ => ⟨v, h3, h4.mono hk fun h => gtIs_mono h hk⟩⟩
theorem gtIs_old : ∀ {n : Nat} {S : Nat → Prop} {w : World} {cs : List Value} {g : Gt}, gtIs n S w cs g → gtIs n (fun b => S b ∧ b < w.heap.size) w cs g
  | 0, _, _, _, _, h => h.elim
  | _ + 1, _, _, _, _, ⟨v1, v2, h, h1, h2⟩ => ⟨v1, v2, h, h1.old (by decide) gtIs_len fun h => gtIs_old h, h2.old (by decide) (by rintro _ _ ⟨v, rfl, _⟩; rfl) fun ⟨v, h3, h4⟩ => ⟨v, h3, h4.old (by decide) gtIs_len fun h => gtIs_old h⟩⟩
def gtLay (n : Nat) : Lay Gt where
  k := 6
  pos := by decide
  is := gtIs n
  len := gtIs_len
  keep := gtIs_keep
  mono := gtIs_mono
  old := gtIs_old
theorem gt_succ {n : Nat} {S : Nat → Prop} {w : World} {cs : List Value} {g : Gt} : (gtLay (n + 1)).is S w cs g ↔ ∃ v1 v2, cs = [.string g.name, .int .i64 g.kind, .bool g.null, .string g.text, v1, v2] ∧ SliceOf (gtLay n) S w v1 g.sub ∧ SliceOf (gtLay n).slice S w v2 g.subs := Iff.rfl
instance (n : Nat) : OneC (gtLay n) := ⟨by
  rintro S w cs x h c hc
  cases n with
  | zero => exact h.elim
  | succ n =>
    obtain ⟨v1, v2, rfl, ⟨a, c1, rfl, _⟩, ⟨b, c2, rfl, _⟩⟩ := h
    simp only [List.mem_cons, List.not_mem_nil, or_false] at hc
    rcases hc with rfl | rfl | rfl | rfl | rfl | rfl <;> rfl⟩
end Go.Proofs.Ytgckpmcdlciibab
