/- From the form's reading of an argument to its plain data, sizes told: each string and each slice lies within the form's reach. -/
import Derived.Test.YtgckpmcdlciibaaOpen2
import Derived.Test.YtgckpmcdlciibaaRow
import Derived.SizedLaws
namespace Go.Proofs.Ytgckpmcdlciibaa
open Go.RowKit Go.Deep Go.WideMaps Go.WideElems
/-- what a datum weighs lies within the form's reach -/
def Light {H : Type} (t : TypeId) (d : DataW H) : Prop := ∀ n ∈ d.weights Try.prog t, n ≤ reachBytes
theorem weightsAll_mem {H : Type} {P : Program} {e : TypeId} : ∀ {ds : List (DataW H)} {d : DataW H}, d ∈ ds → ∀ n ∈ d.weights P e, n ∈ DataW.weightsAll P e ds
  | d0 :: ds, d, hd, n, hn => by
    simp only [DataW.weightsAll, List.mem_append]
    rcases List.mem_cons.1 hd with rfl | h
    · exact .inl hn
    · exact .inr (weightsAll_mem h n hn)
theorem light_slice {H : Type} {t e : TypeId} {elems spare : List (DataW H)} (ht : Try.prog.underlying t = some (.slice e)) (h : Light t (.slice elems spare)) : elems.length * Try.prog.bytesOf e ≤ reachBytes ∧ ∀ d ∈ elems, Light e d := by
  unfold Light at h ⊢
  simp only [DataW.weights, ht] at h
  refine ⟨Nat.le_trans (Nat.mul_le_mul_right _ (Nat.le_add_right _ _)) (h _ (List.mem_cons_self ..)), fun d hd n hn => h n (List.mem_cons_of_mem _ (List.mem_append_left _ (weightsAll_mem hd n hn)))⟩
theorem light_agg {H : Type} {t : TypeId} {fs : Array Field} {parts : List (DataW H)} (ht : Try.prog.underlying t = some (.struct fs)) (h : Light t (.agg parts)) {i : Nat} {f : Field} {d : DataW H} (hi : fs[i]? = some f) (hd : parts[i]? = some d) : Light f.type d := by
  unfold Light at h ⊢
  simp only [DataW.weights, ht] at h
  exact fun n hn => h n (DataW.weights_mem_each (by simpa using ⟨f, hi, rfl⟩) hd n hn)
theorem light_each {H : Type} {ts : List TypeId} {ds : List (DataW H)} (h : (DataW.weightsEach Try.prog ts ds).all (· ≤ reachBytes) = true) {j : Nat} {t : TypeId} {d : DataW H} (ht : ts[j]? = some t) (hd : ds[j]? = some d) : Light t d := fun n hn => by
  have := List.all_eq_true.1 h _ (DataW.weights_mem_each ht hd n hn)
  simpa using this
def okL {α : Type} (by_ : Nat) (ok : α → Prop) (xs : List α) : Prop := xs.length * by_ ≤ 140737488351232 ∧ ∀ y ∈ xs, ok y
section
variable {H : Type} {enc : TypeId × Value → H} {w : World} {base : Nat} {spare : Nat → Bool} {held : Bool} {fuel : Nat} {cs : List Value} {x : DataW H × List MemPlace}
/-- a list's elements read with less fuel -/
theorem openW_list {α : Type} {L : Lay α} {ok : α → Prop} {t e : TypeId} {by_ : Nat} (ht : Try.prog.underlying t = some (.slice e)) (hk : Try.prog.cellsOf e = L.k) (hby : Try.prog.bytesOf e = by_)
    (he : ∀ (n : Nat) cs' x', fuel = n + 1 → DataW.trod enc Try.prog w base spare held n e cs' = some x' → Light e x'.1 → ∃ a, L.is All w cs' a ∧ ok a) (h : DataW.trod enc Try.prog w base spare held fuel t cs = some x) (hx : Light t x.1) :
    ∃ v xs, cs = [v] ∧ SliceOf L All w v xs ∧ okL by_ ok xs := by
  rcases DataW.trod_slice ht h with ⟨rfl, _⟩ | ⟨a, len, cap, elems, rest, n, hfn, rfl, rfl, _, hlc, hcm, hlen0, hel, _, _⟩
  · exact ⟨_, [], rfl, SliceOf.nil L All w, by simp [okL], fun y hy => by simp at hy⟩
  obtain ⟨hsz, hlt⟩ := light_slice ht hx
  rw [hby, List.length_map, hlen0] at hsz
  have hex : ∀ i : Fin len, ∃ y cs', w.cells? base (a.add (i.1 * Try.prog.cellsOf e)) (Try.prog.cellsOf e) = some cs' ∧ L.is All w cs' y ∧ ok y := fun i => by
    have h1 := hel i.1 i.2
    rw [List.getElem?_eq_getElem (by rw [hlen0]; exact i.2), Option.bind_eq_some_iff] at h1
    obtain ⟨cs', h1, h2⟩ := h1
    obtain ⟨y, h3, h4⟩ := he n cs' _ hfn h2 (hlt _ (List.mem_map.2 ⟨_, List.getElem_mem _, rfl⟩))
    exact ⟨y, cs', h1, h3, h4⟩
  obtain ⟨f, hf⟩ := Classical.axiomOfChoice hex
  have hlen : (List.ofFn f).length = len := by simp
  refine ⟨_, List.ofFn f, rfl, ⟨some a, cap, by rw [hlen], by omega, hcm, fun hp => ?_⟩, by rw [hlen]; exact hsz, fun y hy => ?_⟩
  · have h0 : 0 < len := by omega
    obtain ⟨cs0, h1, h2, _⟩ := hf ⟨0, h0⟩
    obtain ⟨_, hl0, hc0⟩ := World.cells?_some h1
    have hspot : a.spot = none := by
      have h3 := hc0 0 (by rw [hk]; exact L.pos)
      have h4 : 0 < cs0.length := by rw [hl0, hk]; exact L.pos
      rw [List.getElem?_eq_getElem h4] at h3
      have h5 : (a.add (0 * Try.prog.cellsOf e)).add 0 = a := by simp [Addr.add]
      rw [h5] at h3
      unfold World.cell? at h3
      split at h3
      · split at h3
        · cases h3
        · rename_i hs
          cases hh : a.spot with
          | none => rfl
          | some _ => rw [hh] at hs; simp at hs
      · cases h3
    obtain ⟨b, o, sp⟩ := a
    simp only at hspot
    subst hspot
    refine ⟨b, o, rfl, trivial, fun i y hy => ?_⟩
    rw [List.getElem?_ofFn] at hy
    split at hy
    · rename_i hi
      simp at hy
      subst hy
      obtain ⟨cs', h1, h2, _⟩ := hf ⟨i, hi⟩
      obtain ⟨_, hl', hc'⟩ := World.cells?_some h1
      refine ⟨cs', fun j u hj => ?_, h2⟩
      have hjl : j < Try.prog.cellsOf e := by
        have := (List.getElem?_eq_some_iff.1 hj).1
        omega
      have h3 := hc' j hjl
      rw [addr_add, addr_add] at h3
      rw [← hk]
      rw [h3]
      exact hj
    · cases hy
  · obtain ⟨i, hi⟩ := List.mem_ofFn.1 hy
    obtain ⟨_, _, _, h4⟩ := hf i
    rw [← hi]
    exact h4
/-- a struct's field that takes these cells -/
theorem fieldW {t : TypeId} {fs : Array Field} {off : Nat} {ft : TypeId} {cs' : List Value} (ht : Try.prog.underlying t = some (.struct fs)) (h : DataW.trod enc Try.prog w base spare held fuel t cs = some x) (hx : Light t x.1) (i : Nat) {f : Field} (hi : fs[i]? = some f) (ho : f.offset = off) (hft : f.type = ft) (hs : (cs.drop off).take (Try.prog.cellsOf ft) = cs') :
    ∃ n y, fuel = n + 1 ∧ DataW.trod enc Try.prog w base spare held n ft cs' = some y ∧ Light ft y.1 := by
  obtain ⟨xs, n, hn, rfl, _, hl, hf⟩ := DataW.trod_struct ht h
  have hlt : i < fs.size := (Array.getElem?_eq_some_iff.1 hi).1
  have h1 := hf i f hi
  rw [List.getElem?_eq_getElem (by omega), hft, ho, hs] at h1
  refine ⟨n, _, hn, h1, ?_⟩
  have := light_agg ht hx hi (d := xs[i].1) (by simp [List.getElem?_eq_getElem (show i < xs.length by omega)])
  rwa [hft] at this
theorem fieldW1 {t : TypeId} {fs : Array Field} {off : Nat} {ft : TypeId} {c : Value} (ht : Try.prog.underlying t = some (.struct fs)) (h : DataW.trod enc Try.prog w base spare held fuel t cs = some x) (hx : Light t x.1) (i : Nat) {f : Field} (hi : fs[i]? = some f) (ho : f.offset = off) (hft : f.type = ft) (hs : Try.prog.cellsOf ft = 1) (hc : cs[off]? = some c) :
    ∃ n y, fuel = n + 1 ∧ DataW.trod enc Try.prog w base spare held n ft [c] = some y ∧ Light ft y.1 := fieldW ht h hx i hi ho hft (by rw [hs, take_one hc])
/-- what a type's reading opens to -/
def OpensW {α : Type} (L : Lay α) (ok : α → Prop) (t : TypeId) : Prop :=
  ∀ {H : Type} {enc : TypeId × Value → H} {w : World} {base : Nat} {spare : Nat → Bool} {held : Bool} {fuel : Nat} {cs : List Value} {x : DataW H × List MemPlace}, DataW.trod enc Try.prog w base spare held fuel t cs = some x → Light t x.1 → ∃ a, L.is All w cs a ∧ ok a
theorem openW {α : Type} {L : Lay α} {ok : α → Prop} {t e : TypeId} {by_ : Nat} (ht : Try.prog.underlying t = some (.slice e)) (hk : Try.prog.cellsOf e = L.k) (hby : Try.prog.bytesOf e = by_) (he : OpensW L ok e) (h : DataW.trod enc Try.prog w base spare held fuel t cs = some x) (hx : Light t x.1) :
    ∃ v xs, cs = [v] ∧ SliceOf L All w v xs ∧ okL by_ ok xs := openW_list ht hk hby (fun _ _ _ _ h1 h2 => he h1 h2) h hx
end
theorem opensW_str : OpensW strLay okS 9 := fun h _ => opens_str h
theorem opensW_fld : OpensW fldLay okFld 118 := fun h _ => opens_fld h
theorem opensW_own : OpensW ownLay okOwn 200 := fun h _ => opens_own h
def okWT (t : Typ) : Prop := okS t.name ∧ okL 40 okFld t.fields
theorem opensW_typ : OpensW typLay okWT 55 := fun {_ _ _ _ _ _ _ cs _} h hx => by
  have hl : cs.length = 2 := (cells_of Try.underlying55 h).trans (by kernel_rfl)
  obtain ⟨c0, c1, rfl⟩ := len2 hl
  obtain ⟨n0, y0, _, h0, x0⟩ := fieldW1 Try.underlying55 h hx 0 rfl rfl rfl (by kernel_rfl : Try.prog.cellsOf 9 = 1) (rfl : _ = some c0)
  obtain ⟨n1, y1, _, h1, x1⟩ := fieldW1 Try.underlying55 h hx 1 rfl rfl rfl (by kernel_rfl : Try.prog.cellsOf 53 = 1) (rfl : _ = some c1)
  obtain ⟨s0, e0, _, b0⟩ := DataW.trod_string Try.underlying9 h0
  obtain ⟨v, fs, e1, hs, b1⟩ := openW (by_ := 40) Try.underlying53 (by kernel_rfl) (by kernel_rfl) opensW_fld h1 x1
  simp only [List.cons.injEq, and_true] at e0 e1
  subst e0; subst e1
  exact ⟨⟨s0, fs⟩, ⟨_, rfl, hs⟩, b0, b1⟩
def okWV (v : VVal) : Prop := okS v.field ∧ okS v.text ∧ okL 16 okS v.keys
theorem opensW_val : OpensW valLay okWV 105 := fun {_ _ _ _ _ _ _ cs _} h hx => by
  have hl : cs.length = 3 := (cells_of Try.underlying105 h).trans (by kernel_rfl)
  obtain ⟨c0, c1, c2, rfl⟩ := len3 hl
  obtain ⟨n0, y0, _, h0, x0⟩ := fieldW1 Try.underlying105 h hx 0 rfl rfl rfl (by kernel_rfl : Try.prog.cellsOf 9 = 1) (rfl : _ = some c0)
  obtain ⟨n1, y1, _, h1, x1⟩ := fieldW1 Try.underlying105 h hx 1 rfl rfl rfl (by kernel_rfl : Try.prog.cellsOf 9 = 1) (rfl : _ = some c1)
  obtain ⟨n2, y2, _, h2, x2⟩ := fieldW1 Try.underlying105 h hx 2 rfl rfl rfl (by kernel_rfl : Try.prog.cellsOf 23 = 1) (rfl : _ = some c2)
  obtain ⟨s0, e0, _, b0⟩ := DataW.trod_string Try.underlying9 h0
  obtain ⟨s1, e1, _, b1⟩ := DataW.trod_string Try.underlying9 h1
  obtain ⟨v, fs, e2, hs, b2⟩ := openW (by_ := 16) Try.underlying23 (by kernel_rfl) (by kernel_rfl) opensW_str h2 x2
  simp only [List.cons.injEq, and_true] at e0 e1 e2
  subst e0; subst e1; subst e2
  exact ⟨⟨s0, s1, fs⟩, ⟨_, rfl, hs⟩, b0, b1, b2⟩
def okWX (x : Thg) : Prop := okS x.type ∧ okS x.key ∧ okL 56 okWV x.vals
theorem opensW_thg : OpensW thgLay okWX 103 := fun {_ _ _ _ _ _ _ cs _} h hx => by
  have hl : cs.length = 3 := (cells_of Try.underlying103 h).trans (by kernel_rfl)
  obtain ⟨c0, c1, c2, rfl⟩ := len3 hl
  obtain ⟨n0, y0, _, h0, x0⟩ := fieldW1 Try.underlying103 h hx 0 rfl rfl rfl (by kernel_rfl : Try.prog.cellsOf 9 = 1) (rfl : _ = some c0)
  obtain ⟨n1, y1, _, h1, x1⟩ := fieldW1 Try.underlying103 h hx 1 rfl rfl rfl (by kernel_rfl : Try.prog.cellsOf 9 = 1) (rfl : _ = some c1)
  obtain ⟨n2, y2, _, h2, x2⟩ := fieldW1 Try.underlying103 h hx 2 rfl rfl rfl (by kernel_rfl : Try.prog.cellsOf 101 = 1) (rfl : _ = some c2)
  obtain ⟨s0, e0, _, b0⟩ := DataW.trod_string Try.underlying9 h0
  obtain ⟨s1, e1, _, b1⟩ := DataW.trod_string Try.underlying9 h1
  obtain ⟨v, fs, e2, hs, b2⟩ := openW (by_ := 56) Try.underlying101 (by kernel_rfl) (by kernel_rfl) opensW_val h2 x2
  simp only [List.cons.injEq, and_true] at e0 e1 e2
  subst e0; subst e1; subst e2
  exact ⟨⟨s0, s1, fs⟩, ⟨_, rfl, hs⟩, b0, b1, b2⟩
def okChg (c : Chg) : Prop := okS c.type ∧ okS c.field ∧ okS c.to
theorem opensW_chg : OpensW chgLay okChg 82 := fun {_ _ _ _ _ _ _ cs _} h hx => by
  have hl : cs.length = 4 := (cells_of Try.underlying82 h).trans (by kernel_rfl)
  obtain ⟨c0, c1, c2, c3, rfl⟩ := len4 hl
  obtain ⟨n0, y0, _, h0, x0⟩ := fieldW1 Try.underlying82 h hx 0 rfl rfl rfl (by kernel_rfl : Try.prog.cellsOf 3 = 1) (rfl : _ = some c0)
  obtain ⟨n1, y1, _, h1, x1⟩ := fieldW1 Try.underlying82 h hx 1 rfl rfl rfl (by kernel_rfl : Try.prog.cellsOf 9 = 1) (rfl : _ = some c1)
  obtain ⟨n2, y2, _, h2, x2⟩ := fieldW1 Try.underlying82 h hx 2 rfl rfl rfl (by kernel_rfl : Try.prog.cellsOf 9 = 1) (rfl : _ = some c2)
  obtain ⟨n3, y3, _, h3, x3⟩ := fieldW1 Try.underlying82 h hx 3 rfl rfl rfl (by kernel_rfl : Try.prog.cellsOf 9 = 1) (rfl : _ = some c3)
  obtain ⟨k0, e0, _, _⟩ := DataW.trod_int Try.underlying3 h0
  obtain ⟨s1, e1, _, b1⟩ := DataW.trod_string Try.underlying9 h1
  obtain ⟨s2, e2, _, b2⟩ := DataW.trod_string Try.underlying9 h2
  obtain ⟨s3, e3, _, b3⟩ := DataW.trod_string Try.underlying9 h3
  simp only [List.cons.injEq, and_true] at e0 e1 e2 e3
  subst e0; subst e1; subst e2; subst e3
  exact ⟨⟨k0, s1, s2, s3⟩, rfl, b1, b2, b3⟩
def okSvc (s : Svc) : Prop := okL 40 okWT s.types ∧ okL 56 okChg s.changes ∧ okL 56 okWX s.things
theorem opensW_svc : OpensW svcLay okSvc 100 := fun {_ _ _ _ _ _ _ cs _} h hx => by
  have hl : cs.length = 3 := (cells_of Try.underlying100 h).trans (by kernel_rfl)
  obtain ⟨c0, c1, c2, rfl⟩ := len3 hl
  obtain ⟨n0, y0, _, h0, x0⟩ := fieldW1 Try.underlying100 h hx 0 rfl rfl rfl (by kernel_rfl : Try.prog.cellsOf 44 = 1) (rfl : _ = some c0)
  obtain ⟨n1, y1, _, h1, x1⟩ := fieldW1 Try.underlying100 h hx 1 rfl rfl rfl (by kernel_rfl : Try.prog.cellsOf 60 = 1) (rfl : _ = some c1)
  obtain ⟨n2, y2, _, h2, x2⟩ := fieldW1 Try.underlying100 h hx 2 rfl rfl rfl (by kernel_rfl : Try.prog.cellsOf 45 = 1) (rfl : _ = some c2)
  obtain ⟨v0, f0, e0, hs0, b0⟩ := openW (by_ := 40) Try.underlying44 (by kernel_rfl) (by kernel_rfl) opensW_typ h0 x0
  obtain ⟨v1, f1, e1, hs1, b1⟩ := openW (by_ := 56) Try.underlying60 (by kernel_rfl) (by kernel_rfl) opensW_chg h1 x1
  obtain ⟨v2, f2, e2, hs2, b2⟩ := openW (by_ := 56) Try.underlying45 (by kernel_rfl) (by kernel_rfl) opensW_thg h2 x2
  simp only [List.cons.injEq, and_true] at e0 e1 e2
  subst e0; subst e1; subst e2
  exact ⟨⟨f0, f1, f2⟩, ⟨_, _, _, rfl, hs0, hs1, hs2⟩, b0, b1, b2⟩
def rqLay : Lay Rq where
  k := 4
  pos := by decide
  is := fun S w cs q => ∃ v1 v2, cs = [.int .i64 q.service, .string q.type, v1, v2] ∧ SliceOf strLay S w v1 q.keys ∧ SliceOf strLay S w v2 q.fields
  len := by rintro S w cs x ⟨v1, v2, rfl, _⟩; rfl
  keep := fun ⟨v1, v2, h, h1, h2⟩ hk => ⟨v1, v2, h, h1.keep hk, h2.keep hk⟩
  mono := fun ⟨v1, v2, h, h1, h2⟩ hk => ⟨v1, v2, h, h1.mono hk, h2.mono hk⟩
  old := fun ⟨v1, v2, h, h1, h2⟩ => ⟨v1, v2, h, h1.old, h2.old⟩
def okRq (q : Rq) : Prop := okS q.type ∧ okL 16 okS q.keys ∧ okL 16 okS q.fields
theorem opensW_rq : OpensW rqLay okRq 25 := fun {_ _ _ _ _ _ _ cs _} h hx => by
  have hl : cs.length = 4 := (cells_of Try.underlying25 h).trans (by kernel_rfl)
  obtain ⟨c0, c1, c2, c3, rfl⟩ := len4 hl
  obtain ⟨n0, y0, _, h0, x0⟩ := fieldW1 Try.underlying25 h hx 0 rfl rfl rfl (by kernel_rfl : Try.prog.cellsOf 3 = 1) (rfl : _ = some c0)
  obtain ⟨n1, y1, _, h1, x1⟩ := fieldW1 Try.underlying25 h hx 1 rfl rfl rfl (by kernel_rfl : Try.prog.cellsOf 9 = 1) (rfl : _ = some c1)
  obtain ⟨n2, y2, _, h2, x2⟩ := fieldW1 Try.underlying25 h hx 2 rfl rfl rfl (by kernel_rfl : Try.prog.cellsOf 23 = 1) (rfl : _ = some c2)
  obtain ⟨n3, y3, _, h3, x3⟩ := fieldW1 Try.underlying25 h hx 3 rfl rfl rfl (by kernel_rfl : Try.prog.cellsOf 23 = 1) (rfl : _ = some c3)
  obtain ⟨k0, e0, _, _⟩ := DataW.trod_int Try.underlying3 h0
  obtain ⟨s1, e1, _, b1⟩ := DataW.trod_string Try.underlying9 h1
  obtain ⟨v2, f2, e2, hs2, b2⟩ := openW (by_ := 16) Try.underlying23 (by kernel_rfl) (by kernel_rfl) opensW_str h2 x2
  obtain ⟨v3, f3, e3, hs3, b3⟩ := openW (by_ := 16) Try.underlying23 (by kernel_rfl) (by kernel_rfl) opensW_str h3 x3
  simp only [List.cons.injEq, and_true] at e0 e1 e2 e3
  subst e0; subst e1; subst e2; subst e3
  exact ⟨⟨k0, s1, f2, f3⟩, ⟨_, _, rfl, hs2, hs3⟩, b1, b2, b3⟩
end Go.Proofs.Ytgckpmcdlciibaa
