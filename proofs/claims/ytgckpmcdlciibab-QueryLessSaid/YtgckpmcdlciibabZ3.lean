/- Several texts in one: What a text asks, as plain functions. Plain laws of chapter 4: what is parsed is right. Plain laws of chapter 4: what is printed is parsed. -/
import Derived.Test.YtgckpmcdlciibabZP
namespace Go.Proofs.Ytgckpmcdlciibab
abbrev PErr := Int × Nat
def blAt (s : Str) (i : Nat) : Bool := match s[i]? with
  | some c => c == 32 || c == 10
  | none => false
def blankF (s : Str) : Nat → Nat → Nat
  | 0, i => i
  | n + 1, i => if blAt s i then blankF s n (i + 1) else i
def blankM (s : Str) (i : Nat) : Nat := blankF s (s.size - i) i
/-- a letter; or, behind the first, a digit -/
def nchr (first : Bool) (c : UInt8) : Bool := (97 ≤ c.toNat && c.toNat ≤ 122) || (!first && (48 ≤ c.toNat && c.toNat ≤ 57))
def nmAt (s : Str) (at_ i : Nat) : Bool := match s[i]? with
  | some c => nchr (i == at_) c
  | none => false
def endF (s : Str) (at_ : Nat) : Nat → Nat → Nat
  | 0, i => i
  | n + 1, i => if nmAt s at_ i then endF s at_ n (i + 1) else i
def endM (s : Str) (at_ i : Nat) : Nat := endF s at_ (s.size - i) i
def nameM (s : Str) (i : Nat) : Except PErr (Str × Nat) :=
  if endM s (blankM s i) (blankM s i) = blankM s i then .error (2, blankM s i)
  else if 12 < endM s (blankM s i) (blankM s i) - blankM s i then .error (6, blankM s i)
  else .ok (s.extract (blankM s i) (endM s (blankM s i) (blankM s i)), endM s (blankM s i) (blankM s i))
def isAt (s : Str) (i : Nat) (c : Nat) : Bool := match s[i]? with
  | some x => x.toNat == c
  | none => false
def mustM (s : Str) (i c : Nat) : Except PErr Nat := if isAt s (blankM s i) c then .ok (blankM s i + 1) else .error (2, blankM s i)
abbrev SubM := Nat → Nat → Except PErr (List Pck × Nat × Nat)
def tailM (sub : SubM) (s : Str) (p : Nat) (asn f : Str) (i : Nat) : Except PErr (Pck × Nat × Nat) :=
  if isAt s (blankM s i) 123 then match sub (blankM s i) p with
    | .error e => .error e
    | .ok (l, i', p') => .ok (.mk asn f l, i', p')
  else .ok (.mk asn f [], blankM s i, p)
def pickM (sub : SubM) (s : Str) (i p : Nat) : Except PErr (Pck × Nat × Nat) := match nameM s i with
  | .error e => .error e
  | .ok (n, i1) =>
    if 60 < p + 1 then .error (4, i1)
    else if isAt s (blankM s i1) 58 then match nameM s (blankM s i1 + 1) with
      | .error e => .error e
      | .ok (n2, i2) => tailM sub s (p + 1) n n2 i2
    else tailM sub s (p + 1) ⟨#[]⟩ n (blankM s i1)
def loopM (sub : SubM) (s : Str) : Nat → List Pck → Nat → Nat → Except PErr (List Pck × Nat × Nat)
  | 0, _, i, _ => .error (0, i)
  | n + 1, out, i, p =>
    if 0 < out.length ∧ isAt s (blankM s i) 125 = true then .ok (out, blankM s i + 1, p)
    else match pickM sub s (if 0 < out.length then blankM s i else i) p with
      | .error e => .error e
      | .ok (x, i', p') => loopM sub s n (out ++ [x]) i' p'
def listM (s : Str) : Nat → SubM
  | 0, i, _ => .error (3, i)
  | d + 1, i, p => match mustM s i 123 with
    | .error e => .error e
    | .ok j => loopM (listM s d) s (61 - p) [] j p
def askM (s : Str) : Except PErr Ak := match nameM s 0 with
  | .error e => .error e
  | .ok (t, i1) => match mustM s i1 40 with
    | .error e => .error e
    | .ok i2 => match nameM s i2 with
      | .error e => .error e
      | .ok (k, i3) => match mustM s i3 41 with
        | .error e => .error e
        | .ok i4 => match listM s 8 i4 0 with
          | .error e => .error e
          | .ok (l, i5, _) => if blankM s i5 < s.size then .error (2, blankM s i5) else .ok ⟨t, k, l⟩
/-- what a text asks; what is wrong, and where -/
def parseM (s : Str) : Ak × Int × Int := if 1000 < s.size then (⟨⟨#[]⟩, ⟨#[]⟩, []⟩, 3, 0) else match askM s with
  | .error (e, i) => (⟨⟨#[]⟩, ⟨#[]⟩, []⟩, e, (i : Int))
  | .ok a => (a, 0, 0)
section
variable {s : Str}
theorem blAt_lt {i : Nat} (h : blAt s i = true) : i < s.size := by
  unfold blAt at h
  cases hc : s[i]? with
  | none => rw [hc] at h; cases h
  | some c => by_cases hl : i < s.size; exact hl; simp [hl] at hc
theorem nmAt_lt {a i : Nat} (h : nmAt s a i = true) : i < s.size := by
  unfold nmAt at h
  cases hc : s[i]? with
  | none => rw [hc] at h; cases h
  | some c => by_cases hl : i < s.size; exact hl; simp [hl] at hc
theorem isAt_lt {c i : Nat} (h : isAt s i c = true) : i < s.size := by
  unfold isAt at h
  cases hc : s[i]? with
  | none => rw [hc] at h; cases h
  | some c => by_cases hl : i < s.size; exact hl; simp [hl] at hc
theorem blankM_step {i : Nat} (h : blAt s i = true) : blankM s i = blankM s (i + 1) := by
  have hl := blAt_lt h
  unfold blankM
  rw [show s.size - i = (s.size - (i + 1)) + 1 by omega]
  show (if blAt s i = true then _ else _) = _
  rw [if_pos h]
theorem blankM_stop {i : Nat} (h : blAt s i = false) : blankM s i = i := by
  unfold blankM
  cases s.size - i with
  | zero => rfl
  | succ n =>
    show (if blAt s i = true then _ else _) = _
    rw [if_neg (by rw [h]; exact Bool.false_ne_true)]
theorem blankF_ge : ∀ (n i : Nat), i ≤ blankF s n i ∧ (i ≤ s.size → blankF s n i ≤ s.size)
  | 0, i => ⟨Nat.le_refl _, fun h => h⟩
  | n + 1, i => by
    unfold blankF
    by_cases h : blAt s i = true
    · rw [if_pos h]
      have := blankF_ge n (i + 1)
      have hl := blAt_lt h
      exact ⟨by omega, fun _ => this.2 hl⟩
    · rw [if_neg h]
      exact ⟨Nat.le_refl _, fun h => h⟩
theorem blankM_ge (i : Nat) : i ≤ blankM s i := (blankF_ge _ i).1
theorem blankM_le {i : Nat} (h : i ≤ s.size) : blankM s i ≤ s.size := (blankF_ge _ i).2 h
theorem blankF_no : ∀ (n i : Nat), s.size - i ≤ n → blAt s (blankF s n i) = false
  | 0, i, h => by
    show blAt s i = false
    cases hb : blAt s i with
    | false => rfl
    | true => have := blAt_lt hb; omega
  | n + 1, i, h => by
    unfold blankF
    by_cases hb : blAt s i = true
    · rw [if_pos hb]
      exact blankF_no n (i + 1) (by omega)
    · rw [if_neg hb]
      exact Bool.eq_false_iff.2 hb
theorem blankM_idem (i : Nat) : blankM s (blankM s i) = blankM s i := blankM_stop (blankF_no _ i (Nat.le_refl _))
theorem endM_step {a i : Nat} (h : nmAt s a i = true) : endM s a i = endM s a (i + 1) := by
  have hl := nmAt_lt h
  unfold endM
  rw [show s.size - i = (s.size - (i + 1)) + 1 by omega]
  show (if nmAt s a i = true then _ else _) = _
  rw [if_pos h]
theorem endM_stop {a i : Nat} (h : nmAt s a i = false) : endM s a i = i := by
  unfold endM
  cases s.size - i with
  | zero => rfl
  | succ n =>
    show (if nmAt s a i = true then _ else _) = _
    rw [if_neg (by rw [h]; exact Bool.false_ne_true)]
theorem endF_ge {a : Nat} : ∀ (n i : Nat), i ≤ endF s a n i ∧ (i ≤ s.size → endF s a n i ≤ s.size)
  | 0, i => ⟨Nat.le_refl _, fun h => h⟩
  | n + 1, i => by
    unfold endF
    by_cases h : nmAt s a i = true
    · rw [if_pos h]
      have := endF_ge (a := a) n (i + 1)
      have hl := nmAt_lt h
      exact ⟨by omega, fun _ => this.2 hl⟩
    · rw [if_neg h]
      exact ⟨Nat.le_refl _, fun h => h⟩
theorem endM_ge (a i : Nat) : i ≤ endM s a i := (endF_ge _ i).1
theorem endM_le {a i : Nat} (h : i ≤ s.size) : endM s a i ≤ s.size := (endF_ge _ i).2 h
theorem nameM_at {i : Nat} {n : Str} {j : Nat} (h : nameM s i = .ok (n, j)) (hi : i ≤ s.size) : i < j ∧ j ≤ s.size ∧ n.size ≤ 12 := by
  unfold nameM at h
  have h1 := blankM_ge (s := s) i
  have h2 := endM_ge (s := s) (blankM s i) (blankM s i)
  have h3 := endM_le (s := s) (a := blankM s i) (blankM_le hi)
  split at h
  · cases h
  · split at h
    · cases h
    · simp only [Except.ok.injEq, Prod.mk.injEq] at h
      obtain ⟨rfl, rfl⟩ := h
      refine ⟨by omega, h3, ?_⟩
      rw [ByteArray.size_extract]
      omega
end
end Go.Proofs.Ytgckpmcdlciibab

namespace Go.Proofs.Ytgckpmcdlciibab
section
variable {s : Str}
theorem get_extract {b e k : Nat} (h : b + k < e) (he : e ≤ s.size) : (s.extract b e)[k]? = s[b + k]? := by
  have h1 : k < (s.extract b e).size := by rw [ByteArray.size_extract]; omega
  have h2 : b + k < s.size := by omega
  rw [getElem?_pos (s.extract b e) k h1, getElem?_pos s (b + k) h2]
  simp [ByteArray.getElem_extract]
theorem endF_all {a : Nat} : ∀ (n i m : Nat), i ≤ m → m < endF s a n i → nmAt s a m = true
  | 0, i, m, h1, h2 => by unfold endF at h2; omega
  | n + 1, i, m, h1, h2 => by
    unfold endF at h2
    by_cases h : nmAt s a i = true
    · rw [if_pos h] at h2
      by_cases hm : m = i
      · subst hm; exact h
      · exact endF_all n (i + 1) m (by omega) h2
    · rw [if_neg h] at h2
      omega
theorem nameM_named {i j : Nat} {n : Str} (h : nameM s i = .ok (n, j)) (hi : i ≤ s.size) : named n = true := by
  have hb := nameM_at h hi
  have h3 := endM_le (s := s) (a := blankM s i) (blankM_le hi)
  have h2 := endM_ge (s := s) (blankM s i) (blankM s i)
  unfold nameM at h
  split at h
  · cases h
  rename_i hne
  split at h
  · cases h
  rename_i h12
  simp only [Except.ok.injEq, Prod.mk.injEq] at h
  obtain ⟨rfl, rfl⟩ := h
  refine named_of ⟨by rw [ByteArray.size_extract]; omega, hb.2.2, fun k c hk hc => ?_⟩
  rw [ByteArray.size_extract] at hk
  rw [get_extract (by omega) h3] at hc
  have := endF_all (s := s) (a := blankM s i) (s.size - blankM s i) (blankM s i) (blankM s i + k) (by omega) (by unfold endM at hk; omega)
  unfold nmAt at this
  rw [hc] at this
  simp only at this
  unfold nchr at this
  unfold okc
  have e : (blankM s i + k == blankM s i) = decide (k = 0) := by
    by_cases h0 : k = 0
    · subst h0; simp
    · simp [h0]
  rw [e] at this
  by_cases h0 : k = 0
  · subst h0; simpa using this
  · simpa [h0] using this
def SubOk (s : Str) (sub : SubM) (sh : List Pck → Int → Int × Int) : Prop := ∀ (i p : Nat) (l : List Pck) (j p' : Nat), i ≤ s.size → p ≤ 60 → sub i p = .ok (l, j, p') → sh l (p : Int) = (0, (p' : Int)) ∧ 0 < l.length ∧ p ≤ p' ∧ p' ≤ 60 ∧ i ≤ j ∧ j ≤ s.size
variable {sub : SubM} {sh : List Pck → Int → Int × Int}
theorem tailM_ok (hs : SubOk s sub sh) {p i j p' : Nat} {asn f : Str} {x : Pck} (hi : i ≤ s.size) (hp : p ≤ 60) (h : tailM sub s p asn f i = .ok (x, j, p')) : x.as = asn ∧ x.field = f ∧ (x.picks.length = 0 ∧ p' = p ∨ 0 < x.picks.length ∧ sh x.picks (p : Int) = (0, (p' : Int))) ∧ p ≤ p' ∧ p' ≤ 60 ∧ i ≤ j ∧ j ≤ s.size := by
  have h1 := blankM_ge (s := s) i
  have h2 := blankM_le hi
  unfold tailM at h
  split at h
  · cases hq : sub (blankM s i) p with
    | error e => rw [hq] at h; cases h
    | ok r =>
      obtain ⟨l, i', q⟩ := r
      rw [hq] at h
      simp only [Except.ok.injEq, Prod.mk.injEq] at h
      obtain ⟨rfl, rfl, rfl⟩ := h
      obtain ⟨a, b, c, d, e, f'⟩ := hs _ _ _ _ _ h2 hp hq
      exact ⟨rfl, rfl, .inr ⟨b, a⟩, c, d, by omega, f'⟩
  · simp only [Except.ok.injEq, Prod.mk.injEq] at h
    obtain ⟨rfl, rfl, rfl⟩ := h
    exact ⟨rfl, rfl, .inl ⟨rfl, rfl⟩, Nat.le_refl _, hp, h1, h2⟩
theorem pickM_ok (hs : SubOk s sub sh) {i p j p' : Nat} {x : Pck} (hi : i ≤ s.size) (hp : p ≤ 60) (h : pickM sub s i p = .ok (x, j, p')) :
    p + 1 ≤ 60 ∧ named x.field = true ∧ ¬ (¬ x.as = ⟨#[]⟩ ∧ named x.as = false) ∧ (x.picks.length = 0 ∧ p' = p + 1 ∨ 0 < x.picks.length ∧ sh x.picks ((p + 1 : Nat) : Int) = (0, (p' : Int))) ∧ p + 1 ≤ p' ∧ p' ≤ 60 ∧ i < j ∧ j ≤ s.size := by
  unfold pickM at h
  cases hn : nameM s i with
  | error e => rw [hn] at h; cases h
  | ok r =>
    obtain ⟨n, i1⟩ := r
    rw [hn] at h
    simp only at h
    have hb := nameM_at hn hi
    have hnm := nameM_named hn hi
    have hg := blankM_ge (s := s) i1
    have hl := blankM_le hb.2.1
    split at h
    · cases h
    rename_i h60
    split at h
    · rename_i hc
      have hc' := isAt_lt hc
      cases hn2 : nameM s (blankM s i1 + 1) with
      | error e => rw [hn2] at h; cases h
      | ok r2 =>
        obtain ⟨n2, i2⟩ := r2
        rw [hn2] at h
        have hb2 := nameM_at hn2 hc'
        obtain ⟨a, b, c, d, e, f, g⟩ := tailM_ok hs hb2.2.1 (by omega) h
        refine ⟨by omega, by rw [b]; exact nameM_named hn2 hc', fun hx => ?_, c, d, e, by omega, g⟩
        rw [a, hnm] at hx
        cases hx.2
    · obtain ⟨a, b, c, d, e, f, g⟩ := tailM_ok hs hl (by omega) h
      exact ⟨by omega, by rw [b]; exact hnm, fun hx => hx.1 a, c, d, e, by omega, g⟩
theorem shapeL_cons {x : Pck} {r : List Pck} {p p' : Nat} (h1 : p + 1 ≤ 60) (h2 : named x.field = true) (h3 : ¬ (¬ x.as = ⟨#[]⟩ ∧ named x.as = false)) (h4 : x.picks.length = 0 ∧ p' = p + 1 ∨ 0 < x.picks.length ∧ sh x.picks ((p + 1 : Nat) : Int) = (0, (p' : Int))) : shapeL sh (x :: r) (p : Int) = shapeL sh r (p' : Int) := by
  simp only [shapeL]
  rw [if_neg (by omega), if_pos ⟨h2, h3⟩]
  rcases h4 with ⟨h5, rfl⟩ | ⟨h5, h6⟩
  · rw [if_neg (by omega)]
    rfl
  · rw [if_pos h5]
    have h6 : sh x.picks ((p : Int) + 1) = (0, (p' : Int)) := h6
    rw [h6, if_pos rfl]
theorem loopM_ok (hs : SubOk s sub sh) : ∀ (n : Nat) (out : List Pck) (i p : Nat) (l : List Pck) (j p' : Nat), i ≤ s.size → p ≤ 60 → loopM sub s n out i p = .ok (l, j, p') →
    ∃ r, l = out ++ r ∧ 0 < l.length ∧ shapeL sh r (p : Int) = (0, (p' : Int)) ∧ p ≤ p' ∧ p' ≤ 60 ∧ i ≤ j ∧ j ≤ s.size
  | 0, out, i, p, l, j, p', _, _, h => by simp [loopM] at h
  | n + 1, out, i, p, l, j, p', hi, hp, h => by
    have h1 := blankM_ge (s := s) i
    have h2 := blankM_le hi
    unfold loopM at h
    split at h
    · rename_i hc
      simp only [Except.ok.injEq, Prod.mk.injEq] at h
      obtain ⟨rfl, rfl, rfl⟩ := h
      have := isAt_lt hc.2
      exact ⟨[], by simp, hc.1, rfl, Nat.le_refl _, hp, by omega, this⟩
    · have hi2 : (if 0 < out.length then blankM s i else i) ≤ s.size ∧ i ≤ (if 0 < out.length then blankM s i else i) := by split <;> omega
      generalize (if 0 < out.length then blankM s i else i) = i2 at *
      cases hq : pickM sub s i2 p with
      | error e => rw [hq] at h; cases h
      | ok r =>
        obtain ⟨x, i', q⟩ := r
        rw [hq] at h
        simp only at h
        obtain ⟨a1, a2, a3, a4, a5, a6, a7, a8⟩ := pickM_ok hs hi2.1 hp hq
        obtain ⟨r, rfl, b1, b2, b3, b4, b5, b6⟩ := loopM_ok hs n (out ++ [x]) i' q l j p' a8 a6 h
        refine ⟨x :: r, by simp, b1, ?_, by omega, b4, by omega, b6⟩
        rw [shapeL_cons a1 a2 a3 a4]
        exact b2
theorem mustM_ok {i c j : Nat} (h : mustM s i c = .ok j) : i < j ∧ j ≤ s.size := by
  unfold mustM at h
  split at h
  · rename_i hc
    cases h
    have := isAt_lt hc
    have := blankM_ge (s := s) i
    omega
  · cases h
theorem listM_ok : ∀ (d m : Nat) (deep : Int), d ≤ m → deep + d = 9 → SubOk s (listM s d) (fun ps k => shapeM m ps deep k)
  | 0, m, deep, _, _ => fun i p l j p' _ _ h => by cases h
  | d + 1, 0, deep, hm, _ => by omega
  | d + 1, m + 1, deep, hm, hd => fun i p l j p' hi hp h => by
    unfold listM at h
    cases hq : mustM s i 123 with
    | error e => rw [hq] at h; cases h
    | ok j1 =>
      rw [hq] at h
      have hj := mustM_ok hq
      obtain ⟨r, rfl, b1, b2, b3, b4, b5, b6⟩ := loopM_ok (listM_ok d m (deep + 1) (by omega) (by omega)) _ _ _ _ _ _ _ hj.2 hp h
      refine ⟨?_, b1, b3, b4, by omega, b6⟩
      simp only [shapeM] at b1 ⊢
      rw [if_neg (by omega), if_neg (by omega)]
      exact b2
end
end Go.Proofs.Ytgckpmcdlciibab

namespace Go.Proofs.Ytgckpmcdlciibab
abbrev Txt := List UInt8
def bytes (n : Str) : Txt := n.data.toList
def pickT (sub : List Pck → Txt) (p : Pck) : Txt := (if p.as = ⟨#[]⟩ then [] else bytes p.as ++ [58]) ++ bytes p.field ++ (if 0 < p.picks.length then sub p.picks else [])
def restT (sub : List Pck → Txt) : List Pck → Txt
  | [] => [125]
  | p :: r => 32 :: (pickT sub p ++ restT sub r)
def listT (sub : List Pck → Txt) : List Pck → Txt
  | [] => [123, 125]
  | p :: r => 123 :: (pickT sub p ++ restT sub r)
def textT : Nat → List Pck → Txt
  | 0, _ => []
  | m + 1, l => listT (textT m) l
def lvlP : Nat → List Pck → Prop
  | 0, l => l = []
  | m + 1, l => ∀ p ∈ l, lvlP m p.picks
/-- what stands in a text at a place -/
def Has (s : Str) (i : Nat) (t : Txt) : Prop := ∀ (k : Nat) c, t[k]? = some c → s[i + k]? = some c
section
variable {s : Str}
theorem bytes_get (n : Str) (k : Nat) : (bytes n)[k]? = n[k]? := by
  unfold bytes
  by_cases h : k < n.size
  · rw [getElem?_pos n k h, Array.getElem?_toList]
    exact Array.getElem?_eq_getElem h
  · rw [getElem?_neg n k h, Array.getElem?_toList]
    exact Array.getElem?_eq_none (Nat.le_of_not_lt h)
theorem bytes_len (n : Str) : (bytes n).length = n.size := Array.length_toList
theorem Has.left {i : Nat} {a b : Txt} (h : Has s i (a ++ b)) : Has s i a := fun k c hc => h k c (by
  rw [List.getElem?_append_left (List.getElem?_eq_some_iff.1 hc).1]
  exact hc)
theorem Has.right {i : Nat} {a b : Txt} (h : Has s i (a ++ b)) : Has s (i + a.length) b := fun k c hc => by
  have := h (a.length + k) c (by rw [List.getElem?_append_right (by omega), Nat.add_sub_cancel_left]; exact hc)
  rwa [← Nat.add_assoc] at this
theorem Has.head {i : Nat} {c : UInt8} {b : Txt} (h : Has s i (c :: b)) : s[i]? = some c := h 0 c rfl
theorem Has.tail {i : Nat} {c : UInt8} {b : Txt} (h : Has s i (c :: b)) : Has s (i + 1) b := fun k d hd => by
  have := h (k + 1) d hd
  rwa [show i + (k + 1) = i + 1 + k by omega] at this
theorem isAt_get {i : Nat} {c : UInt8} (h : s[i]? = some c) (d : Nat) : isAt s i d = (c.toNat == d) := by unfold isAt; rw [h]
theorem blAt_get {i : Nat} {c : UInt8} (h : s[i]? = some c) : blAt s i = (c == 32 || c == 10) := by unfold blAt; rw [h]
theorem blank_at {i : Nat} {c : UInt8} (h : s[i]? = some c) (h1 : c ≠ 32) (h2 : c ≠ 10) : blankM s i = i := blankM_stop (by rw [blAt_get h, Bool.or_eq_false_iff]; exact ⟨beq_eq_false_iff_ne.2 h1, beq_eq_false_iff_ne.2 h2⟩)
theorem blank_space {i : Nat} {c : UInt8} (h : s[i]? = some 32) (hc : s[i + 1]? = some c) (h1 : c ≠ 32) (h2 : c ≠ 10) : blankM s i = i + 1 := by
  rw [blankM_step (by rw [blAt_get h]; rfl), blank_at hc h1 h2]
theorem letter_ne {c : UInt8} (h : 97 ≤ c.toNat) : c ≠ 32 ∧ c ≠ 10 := ⟨fun e => by subst e; exact absurd h (by decide), fun e => by subst e; exact absurd h (by decide)⟩
theorem named_first {n : Str} (h : named n = true) : ∃ c, n[0]? = some c ∧ 97 ≤ c.toNat ∧ c.toNat ≤ 122 := by
  obtain ⟨h1, h2, h3⟩ := (named_iff n).1 h
  have h0 : n[0]? = some n[0] := getElem?_pos n 0 (by omega)
  have := h3 0 n[0] (by omega) h0
  refine ⟨_, h0, ?_⟩
  unfold okc at this
  simpa using this
theorem endF_run {a e : Nat} : ∀ (n i : Nat), i ≤ e → (∀ m, i ≤ m → m < e → nmAt s a m = true) → nmAt s a e = false → e - i < n + 1 → endF s a n i = e
  | 0, i, h1, h2, h3, h4 => by
    have : i = e := by omega
    subst this
    rfl
  | n + 1, i, h1, h2, h3, h4 => by
    unfold endF
    by_cases hi : i = e
    · subst hi
      rw [h3, if_neg Bool.false_ne_true]
    · rw [h2 i (Nat.le_refl _) (by omega), if_pos rfl]
      exact endF_run n (i + 1) (by omega) (fun m hm => h2 m (by omega)) h3 (by omega)
/-- a name that stands there, and goes no further -/
theorem name_of {n : Str} {i : Nat} (hn : named n = true) (h : Has s i (bytes n)) (hend : ∀ c, s[i + n.size]? = some c → nchr false c = false) : nameM s i = .ok (n, i + n.size) := by
  obtain ⟨h1, h2, h3⟩ := (named_iff n).1 hn
  obtain ⟨c0, hc0, hl, _⟩ := named_first hn
  have hget : ∀ (k : Nat) c, n[k]? = some c → s[i + k]? = some c := fun k c hc => h k c (by rw [bytes_get]; exact hc)
  have hs0 := hget 0 c0 hc0
  have hb : blankM s i = i := blank_at hs0 (letter_ne hl).1 (letter_ne hl).2
  have hsz : i + n.size ≤ s.size := by
    have hlast : n[n.size - 1]? = some n[n.size - 1] := getElem?_pos n _ (by omega)
    have := hget _ _ hlast
    by_cases hl : i + (n.size - 1) < s.size
    · omega
    · rw [getElem?_neg s _ hl] at this
      cases this
  have hall : ∀ m, i ≤ m → m < i + n.size → nmAt s i m = true := fun m hm1 hm2 => by
    have hk : n[m - i]? = some n[m - i] := getElem?_pos n _ (by omega)
    have hg := hget _ _ hk
    rw [show i + (m - i) = m by omega] at hg
    have ho := h3 (m - i) _ (by omega) hk
    unfold nmAt
    rw [hg]
    simp only
    unfold okc at ho
    unfold nchr
    have e : (m == i) = decide (m - i = 0) := by
      by_cases h0 : m = i
      · subst h0; simp
      · rw [beq_eq_false_iff_ne.2 h0, decide_eq_false (by omega)]
    rw [e]
    generalize n[m - i] = c at *
    by_cases h0 : m - i = 0
    · simpa [h0] using ho
    · simpa [h0] using ho
  have hno : nmAt s i (i + n.size) = false := by
    unfold nmAt
    cases hc : s[i + n.size]? with
    | none => rfl
    | some c =>
      simp only
      have e : (i + n.size == i) = false := beq_eq_false_iff_ne.2 (by omega)
      rw [e]
      exact hend c hc
  have hend : endM s i i = i + n.size := endF_run _ i (by omega) hall hno (by omega)
  unfold nameM
  rw [hb, hend, if_neg (by omega), if_neg (by omega)]
  congr 2
  have hx : (s.extract i (i + n.size)).size = n.size := by rw [ByteArray.size_extract]; omega
  apply ByteArray.ext_getElem hx
  intro k hk1 hk2
  have e1 : (s.extract i (i + n.size))[k]? = some (s.extract i (i + n.size))[k] := getElem?_pos _ k hk1
  have e2 : n[k]? = some n[k] := getElem?_pos n k hk2
  rw [get_extract (by omega) hsz, hget k _ e2] at e1
  exact (Option.some.inj e1).symm
def SubTo (s : Str) (sub : SubM) (sh : List Pck → Int → Int × Int) (tx : List Pck → Txt) (ok : List Pck → Prop) : Prop := ∀ (l : List Pck) (i p p' : Nat), ok l → 0 < l.length → p ≤ 60 → sh l (p : Int) = (0, (p' : Int)) → Has s i (tx l) → sub i p = .ok (l, i + (tx l).length, p')
variable {sub : SubM} {sh : List Pck → Int → Int × Int} {tx : List Pck → Txt} {ok : List Pck → Prop}
theorem shapeL_inv (hge : ∀ l (k : Int), 0 ≤ k → 0 ≤ (sh l k).2) {x : Pck} {r : List Pck} {p : Nat} {q : Nat} (h : shapeL sh (x :: r) (p : Int) = (0, (q : Int))) :
    p + 1 ≤ 60 ∧ named x.field = true ∧ (x.as = ⟨#[]⟩ ∨ named x.as = true) ∧ ∃ p' : Nat, (x.picks.length = 0 ∧ p' = p + 1 ∨ 0 < x.picks.length ∧ sh x.picks ((p + 1 : Nat) : Int) = (0, (p' : Int))) ∧ shapeL sh r (p' : Int) = (0, (q : Int)) := by
  simp only [shapeL] at h
  split at h
  · cases h
  rename_i h60
  split at h
  · rename_i h1
    refine ⟨by omega, h1.1, ?_, ?_⟩
    · by_cases ha : x.as = ⟨#[]⟩
      · exact .inl ha
      · refine .inr ?_
        cases hn : named x.as with
        | true => rfl
        | false => exact absurd ⟨ha, hn⟩ h1.2
    · split at h
      · rename_i h2
        split at h
        · rename_i h3
          have hnn := hge x.picks ((p : Int) + 1) (by omega)
          obtain ⟨p', hp'⟩ := Int.eq_ofNat_of_zero_le hnn
          refine ⟨p', .inr ⟨h2, ?_⟩, by rw [← hp']; exact h⟩
          show sh x.picks ((p : Int) + 1) = _
          rw [← hp', ← h3]
        · rename_i h3
          rw [h] at h3
          exact absurd rfl h3
      · rename_i h2
        exact ⟨p + 1, .inl ⟨by omega, rfl⟩, h⟩
  · cases h
/-- a sign that ends a name, and is no colon and no brace -/
def endc (c : UInt8) : Prop := c = 32 ∨ c = 125
theorem tail_of (hs : SubTo s sub sh tx ok) {x : Pck} {i p p' : Nat} {c : UInt8} (hp : p ≤ 60) (hok : ok x.picks) (h : Has s i (if 0 < x.picks.length then tx x.picks else []))
    (hsh : x.picks.length = 0 ∧ p' = p ∨ 0 < x.picks.length ∧ sh x.picks (p : Int) = (0, (p' : Int))) (hbr : 0 < x.picks.length → s[i]? = some 123)
    (hc : s[i + (if 0 < x.picks.length then tx x.picks else []).length]? = some c) (hcc : endc c) (hcn : c = 32 → ∃ d, s[i + (if 0 < x.picks.length then tx x.picks else []).length + 1]? = some d ∧ 97 ≤ d.toNat ∧ d.toNat ≤ 122) :
    ∃ j, tailM sub s p x.as x.field i = .ok (x, j, p') ∧ blankM s j = blankM s (i + (if 0 < x.picks.length then tx x.picks else []).length) := by
  rcases hsh with ⟨h0, rfl⟩ | ⟨h0, h1⟩
  · have hneg : ¬ 0 < x.picks.length := by omega
    have hps : x.picks = [] := List.eq_nil_of_length_eq_zero h0
    rw [if_neg hneg] at hc hcn ⊢
    simp only [List.length_nil, Nat.add_zero] at hc hcn ⊢
    have hx : Pck.mk x.as x.field [] = x := by rw [← hps]; cases x; rfl
    refine ⟨blankM s i, ?_, blankM_idem i⟩
    unfold tailM
    rw [if_neg, hx]
    rcases hcc with rfl | rfl
    · obtain ⟨d, hd, hd1, hd2⟩ := hcn rfl
      rw [blank_space hc hd (letter_ne hd1).1 (letter_ne hd1).2, isAt_get hd, beq_eq_false_iff_ne.2 (show d.toNat ≠ 123 by omega)]
      exact Bool.false_ne_true
    · rw [blank_at hc (by decide) (by decide), isAt_get hc]
      decide
  · rw [if_pos h0] at h ⊢
    have hq := hs x.picks i p p' hok h0 hp h1 h
    have hbl : blankM s i = i := blank_at (hbr h0) (by decide) (by decide)
    have hx : Pck.mk x.as x.field x.picks = x := by cases x; rfl
    refine ⟨_, ?_, rfl⟩
    unfold tailM
    rw [hbl, if_pos (by rw [isAt_get (hbr h0)]; rfl), hq]
    show Except.ok (Pck.mk x.as x.field x.picks, _, _) = _
    rw [hx]
theorem pick_of (hs : SubTo s sub sh tx ok) (htx : ∀ l, 0 < l.length → ok l → ∃ t, tx l = 123 :: t) {x : Pck} {i p p' : Nat} {c : UInt8} (hp : p + 1 ≤ 60) (hn : named x.field = true) (ha : x.as = ⟨#[]⟩ ∨ named x.as = true) (hok : ok x.picks) (h : Has s i (pickT tx x))
    (hsh : x.picks.length = 0 ∧ p' = p + 1 ∨ 0 < x.picks.length ∧ sh x.picks ((p + 1 : Nat) : Int) = (0, (p' : Int)))
    (hc : s[i + (pickT tx x).length]? = some c) (hcc : endc c) (hcn : c = 32 → ∃ d, s[i + (pickT tx x).length + 1]? = some d ∧ 97 ≤ d.toNat ∧ d.toNat ≤ 122) :
    ∃ j, pickM sub s i p = .ok (x, j, p') ∧ blankM s j = blankM s (i + (pickT tx x).length) := by
  unfold pickT at h hc hcn ⊢
  have hsub := h.right
  have hf := h.left.right
  have hfa := h.left.left
  simp only [List.length_append] at hc hcn hsub ⊢
  generalize hS : (if 0 < x.picks.length then tx x.picks else []) = S at *
  -- what stands behind the field's name
  have hnext : ∃ d, s[i + ((if x.as = ⟨#[]⟩ then ([] : Txt) else bytes x.as ++ [58]).length + (bytes x.field).length)]? = some d ∧ nchr false d = false ∧ d ≠ 58 ∧ (0 < x.picks.length → d = 123) ∧ (x.picks.length = 0 → endc d) := by
    by_cases h0 : 0 < x.picks.length
    · rw [if_pos h0] at hS
      obtain ⟨t, ht⟩ := htx x.picks h0 hok
      rw [ht] at hS
      subst hS
      exact ⟨123, hsub.head, by decide, by decide, fun _ => rfl, fun e => by omega⟩
    · rw [if_neg h0] at hS
      subst hS
      simp only [List.length_nil, Nat.add_zero] at hc
      refine ⟨c, hc, ?_, ?_, fun e => absurd e h0, fun _ => hcc⟩
      · rcases hcc with rfl | rfl <;> decide
      · rcases hcc with rfl | rfl <;> decide
  obtain ⟨d, hd, hdn, hd58, hd123, hdend⟩ := hnext
  have htail : ∀ i0, i0 = i + ((if x.as = ⟨#[]⟩ then ([] : Txt) else bytes x.as ++ [58]).length + (bytes x.field).length) → ∃ j, tailM sub s (p + 1) x.as x.field i0 = .ok (x, j, p') ∧ blankM s j = blankM s (i0 + S.length) := fun i0 hi0 => by
    have := tail_of (c := c) hs (x := x) (i := i0) (p := p + 1) (p' := p') hp hok (by rw [hS, hi0]; exact hsub) hsh (fun h0 => by rw [hi0, hd, hd123 h0]) (by rw [hS, hi0]; rw [← hc]; congr 1; omega) hcc (fun e => by
      obtain ⟨d', hd', h1, h2⟩ := hcn e
      refine ⟨d', ?_, h1, h2⟩
      rw [hS, hi0, ← hd']
      congr 1
      omega)
    rw [hS] at this
    exact this
  unfold pickM
  by_cases has : x.as = ⟨#[]⟩
  · rw [if_pos has] at hf hd htail hcn hc ⊢
    simp only [List.length_nil, Nat.add_zero, Nat.zero_add, bytes_len] at hf hd htail hc ⊢
    rw [name_of hn hf (fun c' hc' => by rw [hd] at hc'; cases hc'; exact hdn)]
    simp only
    rw [if_neg (by omega)]
    have hne58 : isAt s (blankM s (i + x.field.size)) 58 = false := by
      by_cases h0 : 0 < x.picks.length
      · have := hd123 h0
        subst this
        rw [blank_at hd (by decide) (by decide), isAt_get hd]
        decide
      · rcases hdend (by omega) with rfl | rfl
        · rw [if_neg h0] at hS
          subst hS
          simp only [List.length_nil, Nat.add_zero] at hc
          rw [hd] at hc
          cases hc
          obtain ⟨d', hd', h1, h2⟩ := hcn rfl
          simp only [List.length_nil, Nat.add_zero, Nat.zero_add, bytes_len] at hd'
          rw [blank_space hd hd' (letter_ne h1).1 (letter_ne h1).2, isAt_get hd']
          simp
          omega
        · rw [blank_at hd (by decide) (by decide), isAt_get hd]
          decide
    rw [hne58, if_neg Bool.false_ne_true]
    -- the tail, from behind the blanks
    obtain ⟨j, h1, h2⟩ := htail _ rfl
    rw [← has]
    refine ⟨j, ?_, by rw [h2]; congr 1; omega⟩
    rw [← h1]
    unfold tailM
    rw [blankM_idem]
  · have hna : named x.as = true := ha.resolve_left has
    rw [if_neg has] at hf hfa hd htail hcn hc ⊢
    have ha1 := hfa.left
    have hcol := hfa.right.head
    simp only [List.length_append, List.length_cons, List.length_nil, Nat.zero_add, bytes_len] at hf hcol hd htail hc hcn ⊢
    rw [name_of hna ha1 (fun c' hc' => by rw [hcol] at hc'; cases hc'; decide)]
    simp only
    rw [if_neg (by omega), blank_at hcol (by decide) (by decide), isAt_get hcol, if_pos (by decide)]
    have hf' : Has s (i + x.as.size + 1) (bytes x.field) := by rw [Nat.add_assoc]; exact hf
    rw [name_of hn hf' (fun c' hc' => by
      rw [show i + x.as.size + 1 + x.field.size = i + (x.as.size + 1 + x.field.size) by omega, hd] at hc'
      cases hc'
      exact hdn)]
    simp only
    obtain ⟨j, h1, h2⟩ := htail (i + x.as.size + 1 + x.field.size) (by omega)
    exact ⟨j, h1, by rw [h2]; congr 1; omega⟩
theorem pickT_first {x : Pck} (hn : named x.field = true) (ha : x.as = ⟨#[]⟩ ∨ named x.as = true) : ∃ (d : UInt8) (t : Txt), pickT tx x = d :: t ∧ 97 ≤ d.toNat ∧ d.toNat ≤ 122 := by
  have key : ∀ n : Str, named n = true → ∃ (d : UInt8) (t : Txt), bytes n = d :: t ∧ 97 ≤ d.toNat ∧ d.toNat ≤ 122 := fun n h => by
    obtain ⟨c, hc, h1, h2⟩ := named_first h
    rw [← bytes_get] at hc
    cases hb : bytes n with
    | nil => rw [hb] at hc; cases hc
    | cons d t => rw [hb] at hc; cases hc; exact ⟨c, t, rfl, h1, h2⟩
  unfold pickT
  by_cases has : x.as = ⟨#[]⟩
  · obtain ⟨d, t, h0, h1, h2⟩ := key _ hn
    rw [if_pos has, h0]
    exact ⟨d, t ++ _, rfl, h1, h2⟩
  · obtain ⟨d, t, h0, h1, h2⟩ := key _ (ha.resolve_left has)
    rw [if_neg has, h0]
    exact ⟨d, _, rfl, h1, h2⟩
/-- what stands behind a pick, in a list whose rest is right -/
theorem rest_next (hge : ∀ l (k : Int), 0 ≤ k → 0 ≤ (sh l k).2) {r : List Pck} {e p q : Nat} (h : Has s e (restT tx r)) (hsh : shapeL sh r (p : Int) = (0, (q : Int))) : ∃ c, s[e]? = some c ∧ endc c ∧ (c = 32 → ∃ d, s[e + 1]? = some d ∧ 97 ≤ d.toNat ∧ d.toNat ≤ 122) := by
  cases r with
  | nil => exact ⟨125, h.head, .inr rfl, fun e => by cases e⟩
  | cons x r =>
    obtain ⟨_, h2, h3, _⟩ := shapeL_inv hge hsh
    obtain ⟨d, t, h4, h5, h6⟩ := pickT_first (tx := tx) h2 h3
    refine ⟨32, h.head, .inl rfl, fun _ => ⟨d, ?_, h5, h6⟩⟩
    have := h.tail.left
    rw [h4] at this
    exact this.head
theorem rest_of (hs : SubTo s sub sh tx ok) (htx : ∀ l, 0 < l.length → ok l → ∃ t, tx l = 123 :: t) (hge : ∀ l (k : Int), 0 ≤ k → 0 ≤ (sh l k).2) (hle : ∀ l (k : Int), k ≤ 60 → (sh l k).1 = 0 → (sh l k).2 ≤ 60 ∧ k ≤ (sh l k).2) :
    ∀ (r out : List Pck) (n i e p q : Nat), 0 < out.length → (∀ x ∈ r, ok x.picks) → Has s e (restT tx r) → blankM s i = blankM s e → shapeL sh r (p : Int) = (0, (q : Int)) → p ≤ 60 → 61 ≤ n + p → loopM sub s n out i p = .ok (out ++ r, e + (restT tx r).length, q)
  | _, _, 0, _, _, p, _, _, _, _, _, _, hp, hn => by omega
  | [], out, n + 1, i, e, p, q, ho, _, h, hb, hsh, hp, hn => by
    have hh : s[e]? = some 125 := h.head
    have hbe : blankM s e = e := blank_at hh (by decide) (by decide)
    simp only [shapeL, Prod.mk.injEq, true_and] at hsh
    unfold loopM
    rw [hb, hbe, if_pos ⟨ho, by rw [isAt_get hh]; decide⟩]
    simp only [List.append_nil, restT, List.length_cons, List.length_nil, Except.ok.injEq, Prod.mk.injEq, true_and]
    omega
  | x :: r, out, n + 1, i, e, p, q, ho, hok, h, hb, hsh, hp, hn => by
    obtain ⟨h1, h2, h3, p', h4, h5⟩ := shapeL_inv hge hsh
    obtain ⟨d, t, h6, h7, h8⟩ := pickT_first (tx := tx) h2 h3
    have hh : s[e]? = some 32 := h.head
    have ht : Has s (e + 1) (pickT tx x ++ restT tx r) := h.tail
    have hp1 := ht.left
    have hr := ht.right
    have hd : s[e + 1]? = some d := by rw [h6] at hp1; exact hp1.head
    have hbe : blankM s e = e + 1 := blank_space hh hd (letter_ne h7).1 (letter_ne h7).2
    obtain ⟨c, hc, hcc, hcn⟩ := rest_next hge hr h5
    obtain ⟨j, hj1, hj2⟩ := pick_of hs htx h1 h2 h3 (hok x (by simp)) hp1 h4 hc hcc hcn
    have hpp : p' ≤ 60 ∧ p + 1 ≤ p' := by
      rcases h4 with ⟨_, rfl⟩ | ⟨_, h4⟩
      · omega
      · have := hle x.picks ((p + 1 : Nat) : Int) (by omega) (by rw [h4])
        rw [h4] at this
        have e1 : ((p' : Nat) : Int) ≤ 60 := this.1
        have e2 : ((p + 1 : Nat) : Int) ≤ (p' : Int) := this.2
        omega
    unfold loopM
    rw [hb, hbe, if_neg (by rintro ⟨_, hx⟩; rw [isAt_get hd] at hx; simp at hx; omega), if_pos ho, hj1]
    simp only
    rw [rest_of hs htx hge hle r (out ++ [x]) n j (e + 1 + (pickT tx x).length) p' q (by simp) (fun y hy => hok y (by simp [hy])) hr hj2 h5 hpp.1 (by omega)]
    simp only [List.append_assoc, List.cons_append, List.nil_append, restT, List.length_cons, List.length_append]
    congr 3
    omega
theorem textT_first {m : Nat} {l : List Pck} (h : 0 < l.length) (hl : lvlP m l) : ∃ t, textT m l = 123 :: t := by
  cases m with
  | zero =>
    have hl : l = [] := hl
    rw [hl] at h
    cases h
  | succ m =>
    cases l with
    | nil => cases h
    | cons x r => exact ⟨_, rfl⟩
theorem shapeM_nn : ∀ (m : Nat) (deep : Int) (l : List Pck) (k : Int), 0 ≤ k → 0 ≤ (shapeM m l deep k).2
  | 0, _, _, k, hk => hk
  | m + 1, deep, l, k, hk => by
    have key : ∀ (l : List Pck) (k : Int), 0 ≤ k → 0 ≤ (shapeL (fun ps k => shapeM m ps (deep + 1) k) l k).2 := by
      intro l
      induction l with
      | nil => exact fun k hk => hk
      | cons x r ih =>
        intro k hk
        have hx := shapeM_nn m (deep + 1) x.picks (k + 1) (by omega)
        simp only [shapeL]
        split
        · simp only; omega
        · split
          · split
            · split
              · exact ih _ hx
              · exact hx
            · exact ih _ (by omega)
          · simp only; omega
    simp only [shapeM]
    split
    · exact hk
    · split
      · exact hk
      · exact key l k hk
/-- a list that stands there is parsed -/
theorem list_of : ∀ (m d : Nat) (deep : Int), deep + d = 9 → SubTo s (listM s d) (fun l k => shapeM m l deep k) (textT m) (lvlP m)
  | 0, d, deep, _ => fun l i p p' hl h0 => by
    have hl : l = [] := hl
    rw [hl] at h0
    cases h0
  | m + 1, d, deep, hd => fun l i p q hl h0 hp hsh h => by
    simp only [shapeM] at hsh
    split at hsh
    · cases hsh
    rename_i hdeep
    rw [if_neg (by omega)] at hsh
    cases d with
    | zero => omega
    | succ d =>
      cases l with
      | nil => cases h0
      | cons x r =>
        have hge := shapeM_nn m (deep + 1)
        have hs := list_of m d (deep + 1) (by omega)
        have htx : ∀ l, 0 < l.length → lvlP m l → ∃ t, textT m l = 123 :: t := fun l h1 h2 => textT_first h1 h2
        obtain ⟨h1, h2, h3, p', h4, h5⟩ := shapeL_inv hge hsh
        obtain ⟨c0, t, h6, h7, h8⟩ := pickT_first (tx := textT m) h2 h3
        have hh : s[i]? = some 123 := h.head
        have ht : Has s (i + 1) (pickT (textT m) x ++ restT (textT m) r) := h.tail
        have hp1 := ht.left
        have hr := ht.right
        obtain ⟨c, hc, hcc, hcn⟩ := rest_next hge hr h5
        obtain ⟨j, hj1, hj2⟩ := pick_of hs htx h1 h2 h3 (hl x (by simp)) hp1 h4 hc hcc hcn
        have hle := fun l (k : Int) => shapeM_le m l (deep + 1) k
        have hpp : p' ≤ 60 ∧ p + 1 ≤ p' := by
          rcases h4 with ⟨_, rfl⟩ | ⟨_, h4⟩
          · omega
          · have := hle x.picks ((p + 1 : Nat) : Int) (by omega) (by rw [h4])
            rw [h4] at this
            have e1 : ((p' : Nat) : Int) ≤ 60 := this.1
            have e2 : ((p + 1 : Nat) : Int) ≤ (p' : Int) := this.2
            omega
        have hm : mustM s i 123 = .ok (i + 1) := by
          unfold mustM
          rw [blank_at hh (by decide) (by decide), isAt_get hh, if_pos (by decide)]
        unfold listM
        rw [hm]
        simp only
        rw [show 61 - p = (60 - p) + 1 by omega]
        unfold loopM
        rw [if_neg (by rintro ⟨hx, _⟩; cases hx), if_neg (by simp), hj1]
        simp only
        rw [rest_of hs htx hge hle r ([] ++ [x]) (60 - p) j (i + 1 + (pickT (textT m) x).length) p' q (by simp) (fun y hy => hl y (by simp [hy])) hr hj2 h5 hpp.1 (by omega)]
        simp only [List.nil_append, List.cons_append, textT, listT, List.length_cons, List.length_append]
        congr 3
        omega
def askT (m : Nat) (a : Ak) : Txt := bytes a.type ++ (40 :: (bytes a.key ++ (41 :: textT m a.picks)))
/-- what is printed is parsed -/
theorem ask_of {m : Nat} {a : Ak} (hw : wrongAsk (m + 1) a = 0) (hl : lvlP (m + 1) a.picks) (hs : bytes s = askT (m + 1) a) : askM s = .ok a := by
  unfold wrongAsk at hw
  split at hw
  rotate_left
  · cases hw
  rename_i hn
  have h0 : 0 < a.picks.length := by
    simp only [shapeM] at hw
    split at hw
    · cases hw
    · split at hw
      · cases hw
      · omega
  have hall : Has s 0 (askT (m + 1) a) := fun k c hc => by rw [Nat.zero_add, ← bytes_get, hs]; exact hc
  have hlen : s.size = (askT (m + 1) a).length := by rw [← hs, bytes_len]
  unfold askT at hall hlen
  have h1 := hall.left
  have h2 := hall.right
  rw [bytes_len, Nat.zero_add] at h2
  have h3 := h2.tail.left
  have h4 := h2.tail.right
  rw [bytes_len] at h4
  have h5 := h4.tail
  have e1 : nameM s 0 = .ok (a.type, 0 + a.type.size) := name_of hn.1 h1 (fun c hc => by rw [Nat.zero_add, h2.head] at hc; cases hc; decide)
  have e2 : mustM s (0 + a.type.size) 40 = .ok (a.type.size + 1) := by
    unfold mustM
    rw [Nat.zero_add, blank_at h2.head (by decide) (by decide), isAt_get h2.head, if_pos (by decide)]
  have e3 := name_of hn.2 h3 (fun c hc => by rw [h4.head] at hc; cases hc; decide)
  have e4 : mustM s (a.type.size + 1 + a.key.size) 41 = .ok (a.type.size + 1 + a.key.size + 1) := by
    unfold mustM
    rw [blank_at h4.head (by decide) (by decide), isAt_get h4.head, if_pos (by decide)]
  have hge := shapeM_nn (m + 1) 1 a.picks 0 (Int.le_refl _)
  obtain ⟨q, hq⟩ := Int.eq_ofNat_of_zero_le hge
  have e5 := list_of (s := s) (m + 1) 8 1 (by omega) a.picks (a.type.size + 1 + a.key.size + 1) 0 q hl h0 (by omega) (Prod.ext hw hq) h5
  have hend : a.type.size + 1 + a.key.size + 1 + (textT (m + 1) a.picks).length = s.size := by
    rw [hlen]
    simp only [List.length_append, List.length_cons, bytes_len]
    omega
  unfold askM
  rw [e1]
  simp only
  rw [e2]
  simp only
  rw [e3]
  simp only
  rw [e4]
  simp only
  rw [e5]
  simp only
  rw [hend, blankM_stop (by unfold blAt; rw [getElem?_neg s s.size (Nat.lt_irrefl _)]), if_neg (Nat.lt_irrefl _)]
end
end Go.Proofs.Ytgckpmcdlciibab
