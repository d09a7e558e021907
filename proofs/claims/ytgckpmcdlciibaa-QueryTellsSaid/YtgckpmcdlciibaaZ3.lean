/- Several texts in one: What a text asks, as plain functions. Plain laws of chapter 4: what is parsed is right. Plain laws of chapter 4: what is printed is parsed. -/
import Derived.Test.YtgckpmcdlciibaaZP
namespace Go.Proofs.Ytgckpmcdlciibaa
abbrev PErr := Int × Nat
def blAt (s : Str) (i : Nat) : Bool := match s[i]? with
  | some c => c == 32 || c == 10
  | none => false
def blankF (s : Str) : Nat → Nat → Nat
  | 0, i => i
  | n + 1, i => if blAt s i then blankF s n (i + 1) else i
def blankM (s : Str) (i : Nat) : Nat := blankF s (s.size - i) i
/-- a letter; or, behind the first, a digit -/
def nchr (first : Bool) (c : UInt8) : Bool := (97 ≤ c.toNat && c.toNat ≤ 122) || (!first && (48 ≤ c.toNat && c.toNat ≤ 57))
def nmAt (s : Str) (at_ i : Nat) : Bool := match s[i]? with
  | some c => nchr (i == at_) c
  | none => false
def endF (s : Str) (at_ : Nat) : Nat → Nat → Nat
  | 0, i => i
  | n + 1, i => if nmAt s at_ i then endF s at_ n (i + 1) else i
def endM (s : Str) (at_ i : Nat) : Nat := endF s at_ (s.size - i) i
def nameM (s : Str) (i : Nat) : Except PErr (Str × Nat) :=
  if endM s (blankM s i) (blankM s i) = blankM s i then .error (2, blankM s i)
  else if 12 < endM s (blankM s i) (blankM s i) - blankM s i then .error (6, blankM s i)
  else .ok (s.extract (blankM s i) (endM s (blankM s i) (blankM s i)), endM s (blankM s i) (blankM s i))
def isAt (s : Str) (i : Nat) (c : Nat) : Bool := match s[i]? with
  | some x => x.toNat == c
  | none => false
def mustM (s : Str) (i c : Nat) : Except PErr Nat := if isAt s (blankM s i) c then .ok (blankM s i + 1) else .error (2, blankM s i)
abbrev SubM := Nat → Nat → Except PErr (List Pck × Nat × Nat)
def tailM (sub : SubM) (s : Str) (p : Nat) (asn f : Str) (i : Nat) : Except PErr (Pck × Nat × Nat) :=
  if isAt s (blankM s i) 123 then match sub (blankM s i) p with
    | .error e => .error e
    | .ok (l, i', p') => .ok (.mk asn f l, i', p')
  else .ok (.mk asn f [], blankM s i, p)
def pickM (sub : SubM) (s : Str) (i p : Nat) : Except PErr (Pck × Nat × Nat) := match nameM s i with
  | .error e => .error e
  | .ok (n, i1) =>
    if 60 < p + 1 then .error (4, i1)
    else if isAt s (blankM s i1) 58 then match nameM s (blankM s i1 + 1) with
      | .error e => .error e
      | .ok (n2, i2) => tailM sub s (p + 1) n n2 i2
    else tailM sub s (p + 1) ⟨#[]⟩ n (blankM s i1)
def loopM (sub : SubM) (s : Str) : Nat → List Pck → Nat → Nat → Except PErr (List Pck × Nat × Nat)
  | 0, _, i, _ => .error (0, i)
  | n + 1, out, i, p =>
    if 0 < out.length ∧ isAt s (blankM s i) 125 = true then .ok (out, blankM s i + 1, p)
    else match pickM sub s (if 0 < out.length then blankM s i else i) p with
      | .error e => .error e
      | .ok (x, i', p') => loopM sub s n (out ++ [x]) i' p'
def listM (s : Str) : Nat → SubM
  | 0, i, _ => .error (3, i)
  | d + 1, i, p => match mustM s i 123 with
    | .error e => .error e
    | .ok j => loopM (listM s d) s (61 - p) [] j p
def askM (s : Str) : Except PErr Ak := match nameM s 0 with
  | .error e => .error e
  | .ok (t, i1) => match mustM s i1 40 with
    | .error e => .error e
    | .ok i2 => match nameM s i2 with
      | .error e => .error e
      | .ok (k, i3) => match mustM s i3 41 with
        | .error e => .error e
        | .ok i4 => match listM s 8 i4 0 with
          | .error e => .error e
          | .ok (l, i5, _) => if blankM s i5 < s.size then .error (2, blankM s i5) else .ok ⟨t, k, l⟩
/-- what a text asks; what is wrong, and where -/
def parseM (s : Str) : Ak × Int × Int := if 1000 < s.size then (⟨⟨#[]⟩, ⟨#[]⟩, []⟩, 3, 0) else match askM s with
  | .error (e, i) => (⟨⟨#[]⟩, ⟨#[]⟩, []⟩, e, (i : Int))
  | .ok a => (a, 0, 0)
section
variable {s : Str}
theorem blAt_lt {i : Nat} (h : blAt s i = true) : i < s.size := by
  unfold blAt at h
  cases hc : s[i]? with
  | none => rw [hc] at h; cases h
  | some c => by_cases hl : i < s.size; exact hl; simp [hl] at hc
theorem nmAt_lt {a i : Nat} (h : nmAt s a i = true) : i < s.size := by
  unfold nmAt at h
  cases hc : s[i]? with
  | none => rw [hc] at h; cases h
  | some c => by_cases hl : i < s.size; exact hl; simp [hl] at hc
theorem isAt_lt {c i : Nat} (h : isAt s i c = true) : i < s.size := by
  unfold isAt at h
  cases hc : s[i]? with
  | none => rw [hc] at h; cases h
  | some c => by_cases hl : i < s.size; exact hl; simp [hl] at hc
theorem blankM_step {i : Nat} (h : blAt s i = true) : blankM s i = blankM s (i + 1) := by
  have hl := blAt_lt h
  unfold blankM
  rw [show s.size - i = (s.size - (i + 1)) + 1 by omega]
  show (if blAt s i = true then _ else _) = _
  rw [if_pos h]
theorem blankM_stop {i : Nat} (h : blAt s i = false) : blankM s i = i := by
  unfold blankM
  cases s.size - i with
  | zero => rfl
  | succ n =>
    show (if blAt s i = true then _ else _) = _
    rw [if_neg (by rw [h]; exact Bool.false_ne_true)]
theorem blankF_ge : ∀ (n i : Nat), i ≤ blankF s n i ∧ (i ≤ s.size → blankF s n i ≤ s.size)
  | 0, i => ⟨Nat.le_refl _, fun h => h⟩
  | n + 1, i => by
    unfold blankF
    by_cases h : blAt s i = true
    · rw [if_pos h]
      have := blankF_ge n (i + 1)
      have hl := blAt_lt h
      exact ⟨by omega, fun _ => this.2 hl⟩
    · rw [if_neg h]
      exact ⟨Nat.le_refl _, fun h => h⟩
theorem blankM_ge (i : Nat) : i ≤ blankM s i := (blankF_ge _ i).1
theorem blankM_le {i : Nat} (h : i ≤ s.size) : blankM s i ≤ s.size := (blankF_ge _ i).2 h
theorem endM_step {a i : Nat} (h : nmAt s a i = true) : endM s a i = endM s a (i + 1) := by
  have hl := nmAt_lt h
  unfold endM
  rw [show s.size - i = (s.size - (i + 1)) + 1 by omega]
  show (if nmAt s a i = true then _ else _) = _
  rw [if_pos h]
theorem endM_stop {a i : Nat} (h : nmAt s a i = false) : endM s a i = i := by
  unfold endM
  cases s.size - i with
  | zero => rfl
  | succ n =>
    show (if nmAt s a i = true then _ else _) = _
    rw [if_neg (by rw [h]; exact Bool.false_ne_true)]
theorem endF_ge {a : Nat} : ∀ (n i : Nat), i ≤ endF s a n i ∧ (i ≤ s.size → endF s a n i ≤ s.size)
  | 0, i => ⟨Nat.le_refl _, fun h => h⟩
  | n + 1, i => by
    unfold endF
    by_cases h : nmAt s a i = true
    · rw [if_pos h]
      have := endF_ge (a := a) n (i + 1)
      have hl := nmAt_lt h
      exact ⟨by omega, fun _ => this.2 hl⟩
    · rw [if_neg h]
      exact ⟨Nat.le_refl _, fun h => h⟩
theorem endM_ge (a i : Nat) : i ≤ endM s a i := (endF_ge _ i).1
theorem endM_le {a i : Nat} (h : i ≤ s.size) : endM s a i ≤ s.size := (endF_ge _ i).2 h
theorem nameM_at {i : Nat} {n : Str} {j : Nat} (h : nameM s i = .ok (n, j)) (hi : i ≤ s.size) : i < j ∧ j ≤ s.size ∧ n.size ≤ 12 := by
  unfold nameM at h
  have h1 := blankM_ge (s := s) i
  have h2 := endM_ge (s := s) (blankM s i) (blankM s i)
  have h3 := endM_le (s := s) (a := blankM s i) (blankM_le hi)
  split at h
  · cases h
  · split at h
    · cases h
    · simp only [Except.ok.injEq, Prod.mk.injEq] at h
      obtain ⟨rfl, rfl⟩ := h
      refine ⟨by omega, h3, ?_⟩
      rw [ByteArray.size_extract]
      omega
end
end Go.Proofs.Ytgckpmcdlciibaa

namespace Go.Proofs.Ytgckpmcdlciibaa
section
variable {s : Str}
theorem get_extract {b e k : Nat} (h : b + k < e) (he : e ≤ s.size) : (s.extract b e)[k]? = s[b + k]? := by
  have h1 : k < (s.extract b e).size := by rw [ByteArray.size_extract]; omega
  have h2 : b + k < s.size := by omega
  rw [getElem?_pos (s.extract b e) k h1, getElem?_pos s (b + k) h2]
  simp [ByteArray.getElem_extract]
theorem endF_all {a : Nat} : ∀ (n i m : Nat), i ≤ m → m < endF s a n i → nmAt s a m = true
  | 0, i, m, h1, h2 => by unfold endF at h2; omega
  | n + 1, i, m, h1, h2 => by
    unfold endF at h2
    by_cases h : nmAt s a i = true
    · rw [if_pos h] at h2
      by_cases hm : m = i
      · subst hm; exact h
      · exact endF_all n (i + 1) m (by omega) h2
    · rw [if_neg h] at h2
      omega
theorem nameM_named {i j : Nat} {n : Str} (h : nameM s i = .ok (n, j)) (hi : i ≤ s.size) : named n = true := by
  have hb := nameM_at h hi
  have h3 := endM_le (s := s) (a := blankM s i) (blankM_le hi)
  have h2 := endM_ge (s := s) (blankM s i) (blankM s i)
  unfold nameM at h
  split at h
  · cases h
  rename_i hne
  split at h
  · cases h
  rename_i h12
  simp only [Except.ok.injEq, Prod.mk.injEq] at h
  obtain ⟨rfl, rfl⟩ := h
  refine named_of ⟨by rw [ByteArray.size_extract]; omega, hb.2.2, fun k c hk hc => ?_⟩
  rw [ByteArray.size_extract] at hk
  rw [get_extract (by omega) h3] at hc
  have := endF_all (s := s) (a := blankM s i) (s.size - blankM s i) (blankM s i) (blankM s i + k) (by omega) (by unfold endM at hk; omega)
  unfold nmAt at this
  rw [hc] at this
  simp only at this
  unfold nchr at this
  unfold okc
  have e : (blankM s i + k == blankM s i) = decide (k = 0) := by
    by_cases h0 : k = 0
    · subst h0; simp
    · simp [h0]
  rw [e] at this
  by_cases h0 : k = 0
  · subst h0; simpa using this
  · simpa [h0] using this
def SubOk (s : Str) (sub : SubM) (sh : List Pck → Int → Int × Int) : Prop := ∀ (i p : Nat) (l : List Pck) (j p' : Nat), i ≤ s.size → p ≤ 60 → sub i p = .ok (l, j, p') → sh l (p : Int) = (0, (p' : Int)) ∧ 0 < l.length ∧ p ≤ p' ∧ p' ≤ 60 ∧ i ≤ j ∧ j ≤ s.size
variable {sub : SubM} {sh : List Pck → Int → Int × Int}
theorem tailM_ok (hs : SubOk s sub sh) {p i j p' : Nat} {asn f : Str} {x : Pck} (hi : i ≤ s.size) (hp : p ≤ 60) (h : tailM sub s p asn f i = .ok (x, j, p')) : x.as = asn ∧ x.field = f ∧ (x.picks.length = 0 ∧ p' = p ∨ 0 < x.picks.length ∧ sh x.picks (p : Int) = (0, (p' : Int))) ∧ p ≤ p' ∧ p' ≤ 60 ∧ i ≤ j ∧ j ≤ s.size := by
  have h1 := blankM_ge (s := s) i
  have h2 := blankM_le hi
  unfold tailM at h
  split at h
  · cases hq : sub (blankM s i) p with
    | error e => rw [hq] at h; cases h
    | ok r =>
      obtain ⟨l, i', q⟩ := r
      rw [hq] at h
      simp only [Except.ok.injEq, Prod.mk.injEq] at h
      obtain ⟨rfl, rfl, rfl⟩ := h
      obtain ⟨a, b, c, d, e, f'⟩ := hs _ _ _ _ _ h2 hp hq
      exact ⟨rfl, rfl, .inr ⟨b, a⟩, c, d, by omega, f'⟩
  · simp only [Except.ok.injEq, Prod.mk.injEq] at h
    obtain ⟨rfl, rfl, rfl⟩ := h
    exact ⟨rfl, rfl, .inl ⟨rfl, rfl⟩, Nat.le_refl _, hp, h1, h2⟩
theorem pickM_ok (hs : SubOk s sub sh) {i p j p' : Nat} {x : Pck} (hi : i ≤ s.size) (hp : p ≤ 60) (h : pickM sub s i p = .ok (x, j, p')) :
    p + 1 ≤ 60 ∧ named x.field = true ∧ ¬ (¬ x.as = ⟨#[]⟩ ∧ named x.as = false) ∧ (x.picks.length = 0 ∧ p' = p + 1 ∨ 0 < x.picks.length ∧ sh x.picks ((p + 1 : Nat) : Int) = (0, (p' : Int))) ∧ p + 1 ≤ p' ∧ p' ≤ 60 ∧ i < j ∧ j ≤ s.size := by
  unfold pickM at h
  cases hn : nameM s i with
  | error e => rw [hn] at h; cases h
  | ok r =>
    obtain ⟨n, i1⟩ := r
    rw [hn] at h
    simp only at h
    have hb := nameM_at hn hi
    have hnm := nameM_named hn hi
    have hg := blankM_ge (s := s) i1
    have hl := blankM_le hb.2.1
    split at h
    · cases h
    rename_i h60
    split at h
    · rename_i hc
      have hc' := isAt_lt hc
      cases hn2 : nameM s (blankM s i1 + 1) with
      | error e => rw [hn2] at h; cases h
      | ok r2 =>
        obtain ⟨n2, i2⟩ := r2
        rw [hn2] at h
        have hb2 := nameM_at hn2 hc'
        obtain ⟨a, b, c, d, e, f, g⟩ := tailM_ok hs hb2.2.1 (by omega) h
        refine ⟨by omega, by rw [b]; exact nameM_named hn2 hc', fun hx => ?_, c, d, e, by omega, g⟩
        rw [a, hnm] at hx
        cases hx.2
    · obtain ⟨a, b, c, d, e, f, g⟩ := tailM_ok hs hl (by omega) h
      exact ⟨by omega, by rw [b]; exact hnm, fun hx => hx.1 a, c, d, e, by omega, g⟩
theorem shapeL_cons {x : Pck} {r : List Pck} {p p' : Nat} (h1 : p + 1 ≤ 60) (h2 : named x.field = true) (h3 : ¬ (¬ x.as = ⟨#[]⟩ ∧ named x.as = false)) (h4 : x.picks.length = 0 ∧ p' = p + 1 ∨ 0 < x.picks.length ∧ sh x.picks ((p + 1 : Nat) : Int) = (0, (p' : Int))) : shapeL sh (x :: r) (p : Int) = shapeL sh r (p' : Int) := by
  simp only [shapeL]
  rw [if_neg (by omega), if_pos ⟨h2, h3⟩]
  rcases h4 with ⟨h5, rfl⟩ | ⟨h5, h6⟩
  · rw [if_neg (by omega)]
    rfl
  · rw [if_pos h5]
    have h6 : sh x.picks ((p : Int) + 1) = (0, (p' : Int)) := h6
    rw [h6, if_pos rfl]
theorem loopM_ok (hs : SubOk s sub sh) : ∀ (n : Nat) (out : List Pck) (i p : Nat) (l : List Pck) (j p' : Nat), i ≤ s.size → p ≤ 60 → loopM sub s n out i p = .ok (l, j, p') →
    ∃ r, l = out ++ r ∧ 0 < l.length ∧ shapeL sh r (p : Int) = (0, (p' : Int)) ∧ p ≤ p' ∧ p' ≤ 60 ∧ i ≤ j ∧ j ≤ s.size
  | 0, out, i, p, l, j, p', _, _, h => by simp [loopM] at h
  | n + 1, out, i, p, l, j, p', hi, hp, h => by
    have h1 := blankM_ge (s := s) i
    have h2 := blankM_le hi
    unfold loopM at h
    split at h
    · rename_i hc
      simp only [Except.ok.injEq, Prod.mk.injEq] at h
      obtain ⟨rfl, rfl, rfl⟩ := h
      have := isAt_lt hc.2
      exact ⟨[], by simp, hc.1, rfl, Nat.le_refl _, hp, by omega, this⟩
    · have hi2 : (if 0 < out.length then blankM s i else i) ≤ s.size ∧ i ≤ (if 0 < out.length then blankM s i else i) := by split <;> omega
      generalize (if 0 < out.length then blankM s i else i) = i2 at *
      cases hq : pickM sub s i2 p with
      | error e => rw [hq] at h; cases h
      | ok r =>
        obtain ⟨x, i', q⟩ := r
        rw [hq] at h
        simp only at h
        obtain ⟨a1, a2, a3, a4, a5, a6, a7, a8⟩ := pickM_ok hs hi2.1 hp hq
        obtain ⟨r, rfl, b1, b2, b3, b4, b5, b6⟩ := loopM_ok hs n (out ++ [x]) i' q l j p' a8 a6 h
        refine ⟨x :: r, by simp, b1, ?_, by omega, b4, by omega, b6⟩
        rw [shapeL_cons a1 a2 a3 a4]
        exact b2
theorem mustM_ok {i c j : Nat} (h : mustM s i c = .ok j) : i < j ∧ j ≤ s.size := by
  unfold mustM at h
  split at h
  · rename_i hc
    cases h
    have := isAt_lt hc
    have := blankM_ge (s := s) i
    omega
  · cases h
theorem listM_ok : ∀ (d m : Nat) (deep : Int), d ≤ m → deep + d = 9 → SubOk s (listM s d) (fun ps k => shapeM m ps deep k)
  | 0, m, deep, _, _ => fun i p l j p' _ _ h => by cases h
  | d + 1, 0, deep, hm, _ => by omega
  | d + 1, m + 1, deep, hm, hd => fun i p l j p' hi hp h => by
    unfold listM at h
    cases hq : mustM s i 123 with
    | error e => rw [hq] at h; cases h
    | ok j1 =>
      rw [hq] at h
      have hj := mustM_ok hq
      obtain ⟨r, rfl, b1, b2, b3, b4, b5, b6⟩ := loopM_ok (listM_ok d m (deep + 1) (by omega) (by omega)) _ _ _ _ _ _ _ hj.2 hp h
      refine ⟨?_, b1, b3, b4, by omega, b6⟩
      simp only [shapeM] at b1 ⊢
      rw [if_neg (by omega), if_neg (by omega)]
      exact b2
theorem nameM_err {i j : Nat} {e : Int} (h : nameM s i = .error (e, j)) (hi : i ≤ s.size) : e ≠ 0 ∧ j ≤ s.size := by
  have := blankM_le hi
  unfold nameM at h
  split at h
  · cases h; exact ⟨by decide, this⟩
  · split at h
    · cases h; exact ⟨by decide, this⟩
    · cases h
theorem mustM_err {i j c : Nat} {e : Int} (h : mustM s i c = .error (e, j)) (hi : i ≤ s.size) : e ≠ 0 ∧ j ≤ s.size := by
  have := blankM_le hi
  unfold mustM at h
  split at h
  · cases h
  · cases h; exact ⟨by decide, this⟩
def SubBad (s : Str) (sub : SubM) : Prop := ∀ (i p : Nat) (e : Int) (j : Nat), i ≤ s.size → p ≤ 60 → sub i p = .error (e, j) → e ≠ 0 ∧ j ≤ s.size
theorem tailM_err (hb : SubBad s sub) {i p j : Nat} {e : Int} {asn f : Str} (hi : i ≤ s.size) (hp : p ≤ 60) (h : tailM sub s p asn f i = .error (e, j)) : e ≠ 0 ∧ j ≤ s.size := by
  have h2 := blankM_le hi
  unfold tailM at h
  split at h
  · cases hq : sub (blankM s i) p with
    | error x => rw [hq] at h; cases h; exact hb _ _ _ _ h2 hp hq
    | ok r => obtain ⟨l, i', q⟩ := r; rw [hq] at h; cases h
  · cases h
theorem pickM_err (hb : SubBad s sub) {i p j : Nat} {e : Int} (hi : i ≤ s.size) (hp : p ≤ 60) (h : pickM sub s i p = .error (e, j)) : e ≠ 0 ∧ j ≤ s.size := by
  unfold pickM at h
  cases hn : nameM s i with
  | error x => rw [hn] at h; cases h; exact nameM_err hn hi
  | ok r =>
    obtain ⟨n, i1⟩ := r
    rw [hn] at h
    simp only at h
    have hb1 := nameM_at hn hi
    have hl := blankM_le hb1.2.1
    split at h
    · cases h; exact ⟨by decide, hb1.2.1⟩
    rename_i h60
    split at h
    · rename_i hc
      have hc' := isAt_lt hc
      cases hn2 : nameM s (blankM s i1 + 1) with
      | error x => rw [hn2] at h; cases h; exact nameM_err hn2 hc'
      | ok r2 =>
        obtain ⟨n2, i2⟩ := r2
        rw [hn2] at h
        exact tailM_err hb (nameM_at hn2 hc').2.1 (by omega) h
    · exact tailM_err hb hl (by omega) h
theorem loopM_err (hs : SubOk s sub sh) (hb : SubBad s sub) : ∀ (n : Nat) (out : List Pck) (i p : Nat) (e : Int) (j : Nat), i ≤ s.size → p ≤ 60 → 61 ≤ n + p → loopM sub s n out i p = .error (e, j) → e ≠ 0 ∧ j ≤ s.size
  | 0, out, i, p, e, j, _, hp, hn, h => by omega
  | n + 1, out, i, p, e, j, hi, hp, hn, h => by
    have h1 := blankM_ge (s := s) i
    have h2 := blankM_le hi
    unfold loopM at h
    split at h
    · cases h
    · have hi2 : (if 0 < out.length then blankM s i else i) ≤ s.size := by split <;> omega
      generalize (if 0 < out.length then blankM s i else i) = i2 at *
      cases hq : pickM sub s i2 p with
      | error x => rw [hq] at h; cases h; exact pickM_err hb hi2 hp hq
      | ok r =>
        obtain ⟨x, i', q⟩ := r
        rw [hq] at h
        simp only at h
        obtain ⟨a1, a2, a3, a4, a5, a6, a7, a8⟩ := pickM_ok hs hi2 hp hq
        exact loopM_err hs hb n _ i' q e j a8 a6 (by omega) h
theorem listM_err : ∀ (d : Nat) (deep : Int), deep + d = 9 → SubBad s (listM s d)
  | 0, deep, _ => fun i p e j hi _ h => by cases h; exact ⟨by decide, hi⟩
  | d + 1, deep, hd => fun i p e j hi hp h => by
    unfold listM at h
    cases hq : mustM s i 123 with
    | error x => rw [hq] at h; cases h; exact mustM_err hq hi
    | ok j1 =>
      rw [hq] at h
      have hj := mustM_ok hq
      exact loopM_err (listM_ok d d (deep + 1) (Nat.le_refl _) (by omega)) (listM_err d (deep + 1) (by omega)) _ _ _ _ _ _ hj.2 hp (by omega) h
end
end Go.Proofs.Ytgckpmcdlciibaa

namespace Go.Proofs.Ytgckpmcdlciibaa
abbrev Txt := List UInt8
def bytes (n : Str) : Txt := n.data.toList
def pickT (sub : List Pck → Txt) (p : Pck) : Txt := (if p.as = ⟨#[]⟩ then [] else bytes p.as ++ [58]) ++ bytes p.field ++ (if 0 < p.picks.length then sub p.picks else [])
def restT (sub : List Pck → Txt) : List Pck → Txt
  | [] => [125]
  | p :: r => 32 :: (pickT sub p ++ restT sub r)
def listT (sub : List Pck → Txt) : List Pck → Txt
  | [] => [123, 125]
  | p :: r => 123 :: (pickT sub p ++ restT sub r)
def textT : Nat → List Pck → Txt
  | 0, _ => []
  | m + 1, l => listT (textT m) l
def lvlP : Nat → List Pck → Prop
  | 0, l => l = []
  | m + 1, l => ∀ p ∈ l, lvlP m p.picks
/-- what stands in a text at a place -/
def Has (s : Str) (i : Nat) (t : Txt) : Prop := ∀ (k : Nat) c, t[k]? = some c → s[i + k]? = some c
section
variable {s : Str}
theorem bytes_len (n : Str) : (bytes n).length = n.size := Array.length_toList
theorem Has.left {i : Nat} {a b : Txt} (h : Has s i (a ++ b)) : Has s i a := fun k c hc => h k c (by
  rw [List.getElem?_append_left (List.getElem?_eq_some_iff.1 hc).1]
  exact hc)
theorem Has.right {i : Nat} {a b : Txt} (h : Has s i (a ++ b)) : Has s (i + a.length) b := fun k c hc => by
  have := h (a.length + k) c (by rw [List.getElem?_append_right (by omega), Nat.add_sub_cancel_left]; exact hc)
  rwa [← Nat.add_assoc] at this
theorem Has.head {i : Nat} {c : UInt8} {b : Txt} (h : Has s i (c :: b)) : s[i]? = some c := h 0 c rfl
variable {sub : SubM} {sh : List Pck → Int → Int × Int} {tx : List Pck → Txt} {ok : List Pck → Prop}
def askT (m : Nat) (a : Ak) : Txt := bytes a.type ++ (40 :: (bytes a.key ++ (41 :: textT m a.picks)))
end
end Go.Proofs.Ytgckpmcdlciibaa
