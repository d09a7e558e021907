/- Several texts in one: A list of picks, as it is written: pick by pick. Plain laws of chapter 4: what is printed; how much it is at most. Bytes as a text. -/
import Derived.Test.YtgckpmcdlciibabZ3
namespace Go.Proofs.Ytgckpmcdlciibab
def spT (sub : List Pck → Txt) (r : List Pck) : Txt := r.flatMap fun p => 32 :: pickT sub p
def preT (sub : List Pck → Txt) : List Pck → Txt
  | [] => [123]
  | p :: r => 123 :: (pickT sub p ++ spT sub r)
theorem rest_sp (sub : List Pck → Txt) : ∀ r, restT sub r = spT sub r ++ [125]
  | [] => rfl
  | p :: r => by simp [restT, spT, rest_sp sub r]
theorem list_pre (sub : List Pck → Txt) (l : List Pck) : listT sub l = preT sub l ++ [125] := by
  cases l with
  | nil => rfl
  | cons p r => simp [listT, preT, rest_sp]
theorem pre_snoc (sub : List Pck → Txt) {l : List Pck} {i : Nat} {p : Pck} (h : l[i]? = some p) : preT sub (l.take (i + 1)) = preT sub (l.take i) ++ (if 0 < i then [32] else []) ++ pickT sub p := by
  cases l with
  | nil => simp at h
  | cons q r =>
    cases i with
    | zero =>
      simp at h
      subst h
      simp [preT, spT]
    | succ i =>
      have h : r[i]? = some p := by simpa using h
      obtain ⟨hlt, rfl⟩ := List.getElem?_eq_some_iff.1 h
      rw [List.take_succ_cons, List.take_succ_cons]
      simp only [preT, spT, List.take_succ_eq_append_getElem hlt, List.flatMap_append]
      simp
theorem pre_le (sub : List Pck → Txt) (l : List Pck) : ∀ (k i : Nat), i + k = l.length → (preT sub (l.take i)).length ≤ (preT sub l).length
  | 0, i, h => by
    rw [List.take_of_length_le (by omega)]
    exact Nat.le_refl _
  | k + 1, i, h => by
    have h1 := pre_le sub l k (i + 1) (by omega)
    rw [pre_snoc sub (List.getElem?_eq_getElem (show i < l.length by omega)), List.length_append, List.length_append] at h1
    omega
end Go.Proofs.Ytgckpmcdlciibab

namespace Go.Proofs.Ytgckpmcdlciibab
theorem named_len {n : Str} (h : named n = true) : n.size ≤ 12 := ((named_iff n).1 h).2.1
theorem pickT_le {tx : List Pck → Txt} {p : Pck} {k : Nat} (h1 : named p.field = true) (h2 : ¬ (¬ p.as = ⟨#[]⟩ ∧ named p.as = false)) (h3 : 0 < p.picks.length → (tx p.picks).length ≤ k) : (pickT tx p).length ≤ 25 + k := by
  have hf := named_len h1
  unfold pickT
  rw [List.length_append, List.length_append, bytes_len]
  have ha : (if p.as = ⟨#[]⟩ then ([] : Txt) else bytes p.as ++ [58]).length ≤ 13 := by
    by_cases h : p.as = ⟨#[]⟩
    · rw [if_pos h]; exact Nat.zero_le _
    · rw [if_neg h, List.length_append, bytes_len, List.length_singleton]
      have : named p.as = true := by
        cases hn : named p.as with
        | true => rfl
        | false => exact absurd ⟨h, hn⟩ h2
      have := named_len this
      omega
  have hs : (if 0 < p.picks.length then tx p.picks else []).length ≤ k := by
    by_cases h : 0 < p.picks.length
    · rw [if_pos h]; exact h3 h
    · rw [if_neg h]; exact Nat.zero_le _
  omega
theorem restT_le {tx : List Pck → Txt} {sh : List Pck → Int → Int × Int} (hs : ∀ ps k, 0 < ps.length → (sh ps k).1 = 0 → ((tx ps).length : Int) ≤ 1 + 27 * ((sh ps k).2 - k)) : ∀ (l : List Pck) (n : Int), (shapeL sh l n).1 = 0 → ((restT tx l).length : Int) ≤ 1 + 27 * ((shapeL sh l n).2 - n)
  | [], n, _ => by simp [restT, shapeL]
  | p :: r, n, h => by
    simp only [shapeL] at h ⊢
    split at h
    · cases h
    rename_i h60
    rw [if_neg h60]
    split at h
    rotate_left
    · cases h
    rename_i h1
    rw [if_pos h1]
    have hl : ((restT tx (p :: r)).length : Int) = 1 + ((pickT tx p).length : Int) + ((restT tx r).length : Int) := by
      simp only [restT, List.length_cons, List.length_append]
      omega
    rw [hl]
    split at h
    · rename_i h2
      rw [if_pos h2]
      split at h
      · rename_i h3
        rw [if_pos h3]
        have hb := hs p.picks (n + 1) h2 h3
        have hr := restT_le hs r _ h
        have hp := pickT_le (tx := tx) (k := (tx p.picks).length) h1.1 h1.2 (fun _ => Nat.le_refl _)
        omega
      · rename_i h3
        exact absurd h h3
    · rename_i h2
      rw [if_neg h2]
      have hr := restT_le hs r _ h
      have hp := pickT_le (tx := tx) (k := 0) h1.1 h1.2 (fun h => absurd h h2)
      omega
theorem textT_le : ∀ (m : Nat) (l : List Pck) (deep n : Int), (shapeM m l deep n).1 = 0 → ((textT m l).length : Int) ≤ 1 + 27 * ((shapeM m l deep n).2 - n)
  | 0, l, deep, n, _ => by simp [textT, shapeM]
  | m + 1, l, deep, n, h => by
    simp only [shapeM] at h ⊢
    split at h
    · cases h
    rename_i h1
    rw [if_neg h1]
    split at h
    · cases h
    rename_i h2
    rw [if_neg h2]
    have := restT_le (tx := textT m) (fun ps k _ he => textT_le m ps (deep + 1) k he) l n h
    cases l with
    | nil => exact absurd rfl h2
    | cons p r => exact this
/-- of a right ask the text is not long -/
theorem askT_le {m : Nat} {a : Ak} (h : wrongAsk m a = 0) : a.type.size ≤ 12 ∧ a.key.size ≤ 12 ∧ (textT m a.picks).length ≤ 1621 ∧ (askT m a).length = a.type.size + a.key.size + 2 + (textT m a.picks).length := by
  unfold wrongAsk at h
  split at h
  rotate_left
  · cases h
  rename_i hn
  have h1 := textT_le m a.picks 1 0 h
  have h2 := (shapeM_le m a.picks 1 0 (by omega) h).1
  refine ⟨named_len hn.1, named_len hn.2, by omega, ?_⟩
  unfold askT
  simp only [List.length_append, List.length_cons, bytes_len]
  omega
def printM (m : Nat) (a : Ak) : Str × Int := if wrongAsk m a = 0 then (if 1000 < (askT m a).length then (⟨#[]⟩, 3) else (⟨(askT m a).toArray⟩, 0)) else (⟨#[]⟩, wrongAsk m a)
theorem printM_ok {m : Nat} {a : Ak} (h : (printM m a).2 = 0) : wrongAsk m a = 0 ∧ (askT m a).length ≤ 1000 ∧ (printM m a).1 = ⟨(askT m a).toArray⟩ := by
  unfold printM at h ⊢
  split at h
  · rename_i h1
    split at h
    · cases h
    · rename_i h2
      rw [if_pos h1, if_neg h2]
      exact ⟨h1, by omega, rfl⟩
  · rename_i h1
    exact absurd h h1
/-- what is printed is parsed -/
theorem print_parse {m : Nat} {a : Ak} (h : (printM (m + 1) a).2 = 0) (hl : lvlP (m + 1) a.picks) : parseM (printM (m + 1) a).1 = (a, 0, 0) := by
  obtain ⟨h1, h2, h3⟩ := printM_ok h
  rw [h3]
  have hb : bytes (⟨(askT (m + 1) a).toArray⟩ : Str) = askT (m + 1) a := by unfold bytes; simp
  have hz : (⟨(askT (m + 1) a).toArray⟩ : Str).size = (askT (m + 1) a).length := by rw [← bytes_len, hb]
  unfold parseM
  rw [if_neg (by rw [hz]; omega), ask_of h1 hl hb]
/-- the closed text -/
def aliveS : Str := ⟨#[117, 115, 101, 114, 40, 97, 110, 110, 41, 123, 110, 97, 109, 101, 32, 99, 104, 105, 101, 102, 58, 98, 111, 115, 115, 123, 110, 97, 109, 101, 125, 125]⟩
def aliveA : Ak := ⟨⟨#[117, 115, 101, 114]⟩, ⟨#[97, 110, 110]⟩, [.mk ⟨#[]⟩ ⟨#[110, 97, 109, 101]⟩ [], .mk ⟨#[99, 104, 105, 101, 102]⟩ ⟨#[98, 111, 115, 115]⟩ [.mk ⟨#[]⟩ ⟨#[110, 97, 109, 101]⟩ []]]⟩
theorem alive_print : printM 8 aliveA = (aliveS, 0) := by decide +kernel
theorem alive_parse : parseM aliveS = (aliveA, 0, 0) := by
  have := print_parse (m := 7) (a := aliveA) (by rw [alive_print]) (by simp [lvlP, aliveA, Pck.picks])
  rw [alive_print] at this
  exact this
end Go.Proofs.Ytgckpmcdlciibab

namespace Go.Proofs.Ytgckpmcdlciibab
theorem bytes_app (a b : Str) : bytes (a ++ b) = bytes a ++ bytes b := by simp [bytes]
theorem ask_str (a : Ak) (m : Nat) : bytes (a.type ++ (⟨#[40]⟩ : Str) ++ a.key ++ (⟨#[41]⟩ : Str)) ++ textT m a.picks = askT m a := by
  simp [askT, bytes]
theorem pickT_congr {tx ty : List Pck → Txt} {p : Pck} (h : 0 < p.picks.length → tx p.picks = ty p.picks) : pickT tx p = pickT ty p := by
  unfold pickT
  by_cases h0 : 0 < p.picks.length
  · rw [if_pos h0, if_pos h0, h h0]
  · rw [if_neg h0, if_neg h0]
theorem restT_congr {tx ty : List Pck → Txt} : ∀ {l : List Pck}, (∀ p ∈ l, 0 < p.picks.length → tx p.picks = ty p.picks) → restT tx l = restT ty l
  | [], _ => rfl
  | p :: r, h => by
    unfold restT
    rw [pickT_congr (h p (by simp)), restT_congr fun q hq => h q (by simp [hq])]
theorem listT_congr {tx ty : List Pck → Txt} {l : List Pck} (h : ∀ p ∈ l, 0 < p.picks.length → tx p.picks = ty p.picks) : listT tx l = listT ty l := by
  cases l with
  | nil => rfl
  | cons p r =>
    show 123 :: (pickT tx p ++ restT tx r) = 123 :: (pickT ty p ++ restT ty r)
    rw [pickT_congr (h p (by simp)), restT_congr fun q hq => h q (by simp [hq])]
/-- deep enough is deep enough -/
theorem text_lvl : ∀ (m : Nat) (l : List Pck), lvlP (m + 1) l → textT (m + 2) l = textT (m + 1) l
  | 0, l, h => listT_congr fun p hp h0 => by
    have : p.picks = [] := h p hp
    rw [this] at h0
    cases h0
  | m + 1, l, h => listT_congr fun p hp _ => text_lvl m p.picks (h p hp)
end Go.Proofs.Ytgckpmcdlciibab
