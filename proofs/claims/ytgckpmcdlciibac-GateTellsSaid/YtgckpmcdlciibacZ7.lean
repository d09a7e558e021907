/- Several texts in one: Two rows that grow side by side, each of its own kind. The document's chapter 2, walked: places of texts; what is seen, in memory; a change. The document's chapter 2, walked: a change is done. The document's chapter 2, walked: what is seen. The document's chapter 2, walked: what is seen behind changes. The document's chapter 2, walked: the types that are seen. -/
import Derived.Test.YtgckpmcdlciibacZB
import Derived.Test.YtgckpmcdlciibacZC
import Derived.Test.YtgckpmcdlciibacZI
import Derived.Test.YtgckpmcdlciibacZ6
import Derived.Test.YtgckpmcdlciibacZD
namespace Go.Proofs.Ytgckpmcdlciibac
open Go.RowKit
theorem Own.keepU {α : Type} {L : Lay α} {el : TypeId} {B : Nat} {S S' : Nat → Prop} {w w' : World} {v : Value} {xs : List α} (h : Own L el B S w v xs) (hk : Keep S' w w') (hS : ∀ b, S b → b < w.heap.size → some b ≠ v.ownBlock → S' b) (hv : ∀ g, v.ownBlock = some g → S' g) : Own L el B S w' v xs := by
  obtain ⟨css, ho, hl, hi⟩ := h
  refine ⟨css, ⟨ho.1, ?_⟩, hl, fun i cs x h1 h2 => ?_⟩
  · rcases ho.2 with hn | ⟨g, cap, cur, rfl, hb, hg, hr⟩
    · exact .inl hn
    · exact .inr ⟨g, cap, cur, rfl, hb, (hk g (hv g rfl) (Array.getElem?_eq_some_iff.1 hg).1).trans hg, hr⟩
  · exact L.mono (L.keep (L.old (hi i cs x h1 h2)) fun b hb hlt => hk b (hS b hb.1.1 hb.2 hb.1.2) hlt) fun b hb => hb.1
/-- two rows that grow side by side, each of its own kind -/
structure Duo {α β : Type} (L : Lay α) (el : TypeId) (M : Lay β) (el' : TypeId) (B : Nat) (w : World) (v1 v2 : Value) (xs : List α) (ys : List β) : Prop where
  fst : Own L el B (fun b => B ≤ b ∧ some b ≠ v2.ownBlock) w v1 xs
  snd : Own M el' B (fun b => B ≤ b ∧ some b ≠ v1.ownBlock) w v2 ys
  ne : ∀ g, v1.ownBlock = some g → v2.ownBlock ≠ some g
section
variable {α β : Type} {L : Lay α} {M : Lay β} {el el' : TypeId} {B : Nat} {w w1 : World} {v1 v2 v' : Value} {xs xs' : List α} {ys : List β}
theorem Duo.symm (h : Duo L el M el' B w v1 v2 xs ys) : Duo M el' L el B w v2 v1 ys xs := ⟨h.snd, h.fst, fun g h1 h2 => h.ne g h2 h1⟩
theorem Duo.nil : Duo L el M el' B w (.slice none 0 0) (.slice none 0 0) [] [] := ⟨Own.nil _ _ _ _ _, Own.nil _ _ _ _ _, fun g h => by cases h⟩
theorem Duo.up (h : Duo L el M el' B w v1 v2 xs ys) (hu : Up w w1) : Duo L el M el' B w1 v1 v2 xs ys := ⟨h.fst.up hu, h.snd.up hu, h.ne⟩
theorem Duo.but {b : Nat} (h : Duo L el M el' B w v1 v2 xs ys) (hb : But b w w1) (h1 : b < B) : Duo L el M el' B w1 v1 v2 xs ys :=
  ⟨h.fst.but hb (fun k hk => by omega) (fun g hg => by have := (h.fst.lt g hg).1; omega), h.snd.but hb (fun k hk => by omega) (fun g hg => by have := (h.snd.lt g hg).1; omega), h.ne⟩
theorem Duo.step (h : Duo L el M el' B w v1 v2 xs ys) (hg : w.grownBy w1 v1.ownBlock) (ho : Own L el B (fun b => B ≤ b ∧ some b ≠ v2.ownBlock) w1 v' xs') (hv : ∀ g, v'.ownBlock = some g → v1.ownBlock = some g ∨ g = w.heap.size) : Duo L el M el' B w1 v' v2 xs' ys := by
  refine ⟨ho, ((h.snd.shift (S' := fun b => (B ≤ b ∧ some b ≠ v1.ownBlock) ∧ b < w.heap.size) fun b hb hlt _ => ⟨hb, hlt⟩).keepU (Grown.keep hg) (fun b hb _ _ e => hb.1.2 e) (fun g hg' e => h.ne g e.symm hg')).shift fun b hb _ _ => ⟨hb.1.1, fun e => ?_⟩, fun g h1 h2 => ?_⟩
  · rcases hv b e.symm with h2 | h2
    · exact hb.1.2 h2.symm
    · have := hb.2; omega
  · rcases hv g h1 with h3 | h3
    · exact h.ne g h3 h2
    · have := (h.snd.lt g h2).2; omega
end
end Go.Proofs.Ytgckpmcdlciibac

namespace Go.Proofs.Ytgckpmcdlciibac
open Go.RowKit
set_option maxHeartbeats 1000000 in
theorem place_any {S : Nat → Prop} {lv : Value} {l : List Str} (s : Str) (w : World) (hl : SliceOf strLay S w lv l) :
    Calls Try.prog 116 #[lv, .string s] w fun en w' => en = .returned (.int .i64 (strAt l s)) ∧ w' = w := by
  refine calls_of_sim Try.func116 rfl (Nat.le_of_ble_eq_true rfl) ?_
  obtain ⟨la, lc, rfl, hlnc, hlcm, _⟩ := id hl
  unfold maxLen at hlcm
  repeat (first | refine RL.vv ?_ | refine RL.p ?_ | refine RL.nil ?_ | refine Sim.seq ?_ | refine Sim.region ?_ | refine Sim.block ?_ | refine Sim.skip ?_ | refine Sim.inBlock ?_ | refine Sim.exit rfl ?_ | refine Sim.condT rfl ?_ | refine Sim.condF rfl ?_)
  refine Sim.loop (σ := Nat) (fun i => [(0, .slice la l.length lc), (1, .string s), (7, .slice la l.length lc), (8, .int .i64 (l.length : Int)), (9, .int .i64 (i : Int))]) (fun i w' => i ≤ l.length ∧ w' = w ∧ ∀ (j : Nat) y, j < i → l[j]? = some y → decide (y = s) = false) (fun i => l.length - i) 0 sb ⟨Nat.zero_le _, rfl, fun j y hj => absurd hj (Nat.not_lt_zero _)⟩ ?_
  rintro i w1 ⟨hi, rfl, hno⟩ next
  by_cases hlt : i < l.length
  · have hx : l[i]? = some l[i] := List.getElem?_eq_getElem hlt
    obtain ⟨b, o, cs, rfl, _, hat, rfl, _⟩ := hl.at hx
    have hat : At w1 b (o + i * 1) _ := hat
    generalize l[i] = x at *
    by_cases hxs : x = s
    · repeat (first | refine RL.vv ?_ | refine RL.p ?_ | refine RL.nil ?_ | refine Sim.seq ?_ | refine Sim.region ?_ | refine Sim.block ?_ | refine Sim.skip ?_ | refine Sim.inBlock ?_ | refine Sim.exit rfl ?_ | refine Sim.condT rfl ?_ | refine Sim.condF rfl ?_)
      refine Sim.ret1 Try.func116 rfl rfl ⟨?_, rfl⟩
      have : strAt l s = (i : Int) := firstIdx_hit hx (decide_eq_true hxs) hno
      rw [this]
    · repeat (first | refine RL.vv ?_ | refine RL.p ?_ | refine RL.nil ?_ | refine Sim.seq ?_ | refine Sim.region ?_ | refine Sim.block ?_ | refine Sim.skip ?_ | refine Sim.inBlock ?_ | refine Sim.exit rfl ?_ | refine Sim.condT rfl ?_ | refine Sim.condF rfl ?_)
      refine next (i + 1) w1 _ ⟨by omega, rfl, fun j y hj hy => ?_⟩ (by omega) sb
      by_cases hji : j = i
      · subst hji
        rw [hx] at hy
        cases hy
        exact decide_eq_false hxs
      · exact hno j y (by omega) hy
  · repeat (first | refine RL.vv ?_ | refine RL.p ?_ | refine RL.nil ?_ | refine Sim.seq ?_ | refine Sim.region ?_ | refine Sim.block ?_ | refine Sim.skip ?_ | refine Sim.inBlock ?_ | refine Sim.exit rfl ?_ | refine Sim.condT rfl ?_ | refine Sim.condF rfl ?_)
    refine Sim.ret1 Try.func116 rfl rfl ⟨?_, rfl⟩
    have : strAt l s = -1 := firstIdx_miss fun j y hy => hno j y (by have := (List.getElem?_eq_some_iff.1 hy).1; omega) hy
    rw [this]
/-- a value in a cell -/
def rawLay : Lay Value where
  k := 1
  pos := by decide
  is := fun _ _ cs v => cs = [v] ∧ v.oneCell' = true
  len := by rintro S w cs x ⟨rfl, _⟩; rfl
  keep := fun h _ => h
  mono := fun h _ => h
  old := fun h => h
instance : Flat rawLay := ⟨fun h => h⟩
instance : OneC rawLay := ⟨by rintro S w cs x ⟨rfl, h1⟩ c hc; simp only [List.mem_cons, List.not_mem_nil, or_false] at hc; rcases hc with rfl; exact h1⟩
/-- what is seen, in memory -/
structure RsAt (B : Nat) (w : World) (qb : Nat) (vo vc vf : Value) (hs : List Value) (s : RSn) (lab : Nat → Nat) : Prop where
  box : Box w qb 160 [vo, vc, vf]
  sbB : B ≤ qb
  sbl : lab qb = 0
  o : Own strLay 9 B Nn w vo s.own ∧ ∀ g, vo.ownBlock = some g → lab g = 1
  c : Own strLay 9 B Nn w vc s.called ∧ ∀ g, vc.ownBlock = some g → lab g = 2
  f : Own rawLay 47 B Nn w vf hs ∧ ∀ g, vf.ownBlock = some g → lab g = 3
  len : hs.length = s.fields.length
  each : ∀ (i : Nat) h ns, hs[i]? = some h → s.fields[i]? = some ns → Own strLay 9 B Nn w h ns ∧ ∀ g, h.ownBlock = some g → lab g = i + 4
section
variable {B : Nat} {w w1 : World} {qb : Nat} {vo vc vf : Value} {hs : List Value} {s : RSn} {lab : Nat → Nat}
theorem RsAt.up (h : RsAt B w qb vo vc vf hs s lab) (hu : Up w w1) : RsAt B w1 qb vo vc vf hs s lab :=
  ⟨h.box.up hu, h.sbB, h.sbl, ⟨h.o.1.up hu, h.o.2⟩, ⟨h.c.1.up hu, h.c.2⟩, ⟨h.f.1.up hu, h.f.2⟩, h.len, fun i a ns h1 h2 => ⟨(h.each i a ns h1 h2).1.up hu, (h.each i a ns h1 h2).2⟩⟩
theorem RsAt.call (h : RsAt B w qb vo vc vf hs s lab) {g : Nat} {c' : List Str} (hb : But g w w1) (hg : lab g = 2) (ho : Own strLay 9 B Nn w1 vc c') : RsAt B w1 qb vo vc vf hs { s with called := c' } lab :=
  ⟨h.box.but hb (fun e => by have := h.sbl; rw [e, hg] at this; omega), h.sbB, h.sbl, ⟨h.o.1.but hb (fun _ h => h.elim) (fun x hx e => by have := h.o.2 x hx; rw [e, hg] at this; omega), h.o.2⟩, ⟨ho, h.c.2⟩,
    ⟨h.f.1.but hb (fun _ h => h.elim) (fun x hx e => by have := h.f.2 x hx; rw [e, hg] at this; omega), h.f.2⟩, h.len, fun i a ns h1 h2 => ⟨(h.each i a ns h1 h2).1.but hb (fun _ h => h.elim) (fun x hx e => by have := (h.each i a ns h1 h2).2 x hx; rw [e, hg] at this; omega), (h.each i a ns h1 h2).2⟩⟩
theorem RsAt.field (h : RsAt B w qb vo vc vf hs s lab) {g k : Nat} {a : Value} {ns' : List Str} (hb : But g w w1) (hg : lab g = k + 4) (ha : hs[k]? = some a) (ho : Own strLay 9 B Nn w1 a ns') : RsAt B w1 qb vo vc vf hs { s with fields := s.fields.set k ns' } lab :=
  ⟨h.box.but hb (fun e => by have := h.sbl; rw [e, hg] at this; omega), h.sbB, h.sbl, ⟨h.o.1.but hb (fun _ h => h.elim) (fun x hx e => by have := h.o.2 x hx; rw [e, hg] at this; omega), h.o.2⟩, ⟨h.c.1.but hb (fun _ h => h.elim) (fun x hx e => by have := h.c.2 x hx; rw [e, hg] at this; omega), h.c.2⟩,
    ⟨h.f.1.but hb (fun _ h => h.elim) (fun x hx e => by have := h.f.2 x hx; rw [e, hg] at this; omega), h.f.2⟩, by simpa using h.len, fun i b ns h1 h2 => by
      have hkl := (List.getElem?_eq_some_iff.1 ha).1
      by_cases hik : k = i
      · subst hik
        rw [ha] at h1
        cases h1
        have hkl2 : k < s.fields.length := by rw [← h.len]; exact hkl
        simp only [List.getElem?_set_self hkl2, Option.some.injEq] at h2
        subst h2
        obtain ⟨ns, hns⟩ : ∃ ns, s.fields[k]? = some ns := ⟨_, List.getElem?_eq_getElem hkl2⟩
        exact ⟨ho, (h.each k a ns ha hns).2⟩
      · simp only [List.getElem?_set_ne hik] at h2
        exact ⟨(h.each i b ns h1 h2).1.but hb (fun _ h => h.elim) (fun x hx e => by have := (h.each i b ns h1 h2).2 x hx; rw [e, hg] at this; omega), (h.each i b ns h1 h2).2⟩⟩
theorem Own.full {α : Type} {L : Lay α} [Flat L] {el : TypeId} {v : Value} {xs : List α} (h : Own L el B Nn w v xs) : SliceOf L (fun b => B ≤ b) w v xs := h.no.sl (S := Nn) (fun _ h _ _ => h.elim) fun g hg => (h.lt g hg).1
end
end Go.Proofs.Ytgckpmcdlciibac

namespace Go.Proofs.Ytgckpmcdlciibac
open Go.RowKit
set_option maxHeartbeats 4000000 in
theorem RDo_any {B qb : Nat} {vo vc vf : Value} {hs : List Value} {s : RSn} {lab : Nat → Nat} (c : Chg) (w : World) (h : RsAt B w qb vo vc vf hs s lab) (hBw : B ≤ w.heap.size) (hto : c.to.size ≤ maxLen) (hlen : s.called.length = s.fields.length) :
    Calls Try.prog 115 #[.pointer (some ⟨qb, 0, none⟩), .agg #[.int .i64 c.kind, .string c.type, .string c.field, .string c.to]] w fun en w' => en = .returned (.int .i64 (doR s c).1) ∧ Below B w w' ∧ RsAt B w' qb vo vc vf hs (doR s c).2 lab := by
  refine calls_of_sim Try.func115 rfl (Nat.le_of_ble_eq_true rfl) ?_
  generalize hD : doR s c = D
  repeat (first | refine RL.vv ?_ | refine RL.p ?_ | refine RL.nil ?_ | refine Sim.seq ?_ | refine Sim.region ?_ | refine Sim.block ?_ | refine Sim.skip ?_ | refine Sim.inBlock ?_ | refine Sim.exit rfl ?_ | refine Sim.condT rfl ?_ | refine Sim.condF rfl ?_)
  refine RL.bx (.refl w) fun b3 w1 he3 hle3 hu1 _ hb3 => ?_
  have hb3 : Box w1 b3 _ [.int .i64 c.kind, .string c.type, .string c.field, .string c.to] := hb3
  have hsb := h.box.lt
  have hold := h
  have h := h.up hu1
  have ha3 := hb3.at
  have has := h.box.at
  have hl3 := hb3.lt
  have hne3 : qb ≠ b3 := by omega
  have hbel : ∀ {w' : World}, Up w1 w' → Below B w w' := fun hu => Below.trans (b := w1) (Below.mono hu1.below hBw) (Below.mono hu.below (Nat.le_trans hBw hu1.size))
  by_cases hbad : ¬ c.kind = 1 ∧ ¬ c.kind = 2 ∧ ¬ c.kind = 3
  · obtain ⟨k1, k2, k3⟩ := hbad
    obtain rfl : D = (1, s) := by
      rw [← hD]
      unfold doR
      rw [if_pos ⟨k1, k2, k3⟩]
    repeat (first | refine RL.vv ?_ | refine RL.p ?_ | refine RL.nil ?_ | refine Sim.seq ?_ | refine Sim.region ?_ | refine Sim.block ?_ | refine Sim.skip ?_ | refine Sim.inBlock ?_ | refine Sim.exit rfl ?_ | refine Sim.condT rfl ?_ | refine Sim.condF rfl ?_)
    exact Sim.ret1 Try.func115 rfl rfl ⟨rfl, hbel (.refl _), h⟩
  ((repeat (first | refine RL.vv ?_ | refine RL.p ?_)); refine RL.nil ?_)
  refine Sim.seq ?_
  refine Sim.cutX (σ := Unit) (fun _ => [(0, .pointer (some ⟨qb, 0, none⟩)), (3, .pointer (some ⟨b3, 0, none⟩))]) (fun _ w' => w' = w1) (fun k' next => ?_) ?_
  · by_cases k1 : c.kind = 1
    · have k1' : ¬ ¬ c.kind = 1 := fun h => h k1
      repeat (first | refine RL.vv ?_ | refine RL.p ?_ | refine RL.nil ?_ | refine Sim.seq ?_ | refine Sim.region ?_ | refine Sim.block ?_ | refine Sim.skip ?_ | refine Sim.inBlock ?_ | refine Sim.exit rfl ?_ | refine Sim.condT rfl ?_ | refine Sim.condF rfl ?_)
      exact next () _ _ rfl sb
    · by_cases k2 : c.kind = 2
      · have k2' : ¬ ¬ c.kind = 2 := fun h => h k2
        repeat (first | refine RL.vv ?_ | refine RL.p ?_ | refine RL.nil ?_ | refine Sim.seq ?_ | refine Sim.region ?_ | refine Sim.block ?_ | refine Sim.skip ?_ | refine Sim.inBlock ?_ | refine Sim.exit rfl ?_ | refine Sim.condT rfl ?_ | refine Sim.condF rfl ?_)
        exact next () _ _ rfl sb
      · have k3 : ¬ ¬ c.kind = 3 := fun h => hbad ⟨k1, k2, h⟩
        repeat (first | refine RL.vv ?_ | refine RL.p ?_ | refine RL.nil ?_ | refine Sim.seq ?_ | refine Sim.region ?_ | refine Sim.block ?_ | refine Sim.skip ?_ | refine Sim.inBlock ?_ | refine Sim.exit rfl ?_ | refine Sim.condT rfl ?_ | refine Sim.condF rfl ?_)
        exact next () _ _ rfl sb
  rintro _ _ rfl
  have hkind : ¬ (¬ c.kind = 1 ∧ ¬ c.kind = 2 ∧ ¬ c.kind = 3) := hbad
  repeat (first | refine RL.vv ?_ | refine RL.p ?_ | refine RL.nil ?_ | refine Sim.seq ?_ | refine Sim.region ?_ | refine Sim.block ?_ | refine Sim.skip ?_ | refine Sim.inBlock ?_ | refine Sim.exit rfl ?_ | refine Sim.condT rfl ?_ | refine Sim.condF rfl ?_)
  refine Sim.q ?_
  repeat (first | refine RQ.vv ?_ | refine RQ.p ?_)
  refine RQ.cu (fun wq hq => (place_any c.type wq ((h.c.1.full).up hq)).mono fun _ _ ⟨h1, h2⟩ => ⟨h1, h2 ▸ hq⟩) ?_
  repeat (first | refine RQ.vv ?_ | refine RQ.p ?_)
  refine RQ.nil fun w2 hq2 => ?_
  have h := h.up hq2
  have has := has.up hq2
  have ha3 := ha3.up hq2
  have hu2 := hq2
  by_cases h2 : strAt s.called c.type < 0
  · obtain rfl : D = (5, s) := by
      rw [← hD]
      unfold doR
      rw [if_neg hkind, if_pos h2]
    repeat (first | refine RL.vv ?_ | refine RL.p ?_ | refine RL.nil ?_ | refine Sim.seq ?_ | refine Sim.region ?_ | refine Sim.block ?_ | refine Sim.skip ?_ | refine Sim.inBlock ?_ | refine Sim.exit rfl ?_ | refine Sim.condT rfl ?_ | refine Sim.condF rfl ?_)
    exact Sim.ret1 Try.func115 rfl rfl ⟨rfl, hbel hu2, h⟩
  obtain ⟨k, hk, hck⟩ := strAt_get (l := s.called) (s := c.type) (by omega)
  rw [hk]
  have hkl := (List.getElem?_eq_some_iff.1 hck).1
  clear hq2
  by_cases k1 : c.kind = 1
  · repeat (first | refine RL.vv ?_ | refine RL.p ?_ | refine RL.nil ?_ | refine Sim.seq ?_ | refine Sim.region ?_ | refine Sim.block ?_ | refine Sim.skip ?_ | refine Sim.inBlock ?_ | refine Sim.exit rfl ?_ | refine Sim.condT rfl ?_ | refine Sim.condF rfl ?_)
    refine Sim.q ?_
    repeat (first | refine RQ.vv ?_ | refine RQ.p ?_)
    refine RQ.cu (fun wq hq => (RNamed_any c.to wq hto).mono fun _ _ ⟨h1, h2⟩ => ⟨h1, hq.trans h2⟩) ?_
    rcases Bool.eq_false_or_eq_true (named c.to) with hn | hn
    rotate_left
    · rw [hn]
      repeat (first | refine RQ.vv ?_ | refine RQ.p ?_)
      refine RQ.nil fun w3 hq => ?_
      obtain rfl : D = (6, s) := by
        rw [← hD]
        unfold doR
        rw [if_neg hkind, if_neg h2, if_pos k1, if_neg fun h => by rw [hn] at h; cases h.1]
      repeat (first | refine RL.vv ?_ | refine RL.p ?_ | refine RL.nil ?_ | refine Sim.seq ?_ | refine Sim.region ?_ | refine Sim.block ?_ | refine Sim.skip ?_ | refine Sim.inBlock ?_ | refine Sim.exit rfl ?_ | refine Sim.condT rfl ?_ | refine Sim.condF rfl ?_)
      exact Sim.ret1 Try.func115 rfl rfl ⟨rfl, hbel (hu2.trans hq), h.up hq⟩
    rw [hn]
    repeat (first | refine RQ.vv ?_ | refine RQ.p ?_)
    refine RQ.cu (fun wq hq => (place_any c.to wq ((h.c.1.full).up hq)).mono fun _ _ ⟨h1, h2⟩ => ⟨h1, h2 ▸ hq⟩) ?_
    by_cases h4 : 0 ≤ strAt s.called c.to
    · repeat (first | refine RQ.vv ?_ | refine RQ.p ?_)
      refine RQ.nil fun w3 hq => ?_
      obtain rfl : D = (6, s) := by
        rw [← hD]
        unfold doR
        rw [if_neg hkind, if_neg h2, if_pos k1, if_neg fun h => h.2 h4]
      repeat (first | refine RL.vv ?_ | refine RL.p ?_ | refine RL.nil ?_ | refine Sim.seq ?_ | refine Sim.region ?_ | refine Sim.block ?_ | refine Sim.skip ?_ | refine Sim.inBlock ?_ | refine Sim.exit rfl ?_ | refine Sim.condT rfl ?_ | refine Sim.condF rfl ?_)
      exact Sim.ret1 Try.func115 rfl rfl ⟨rfl, hbel (hu2.trans hq), h.up hq⟩
    repeat (first | refine RQ.vv ?_ | refine RQ.p ?_)
    refine RQ.nil fun w3 hq => ?_
    have h := h.up hq
    have has := has.up hq
    have ha3 := ha3.up hq
    have hu3 := hu2.trans hq
    obtain rfl : D = (0, { s with called := s.called.set k c.to }) := by
      rw [← hD]
      unfold doR
      rw [if_neg hkind, if_neg h2, if_pos k1, if_pos ⟨hn, h4⟩, hk]
      rfl
    obtain ⟨g, cc, cs, rfl, hgat, rfl, hklt, hnc, hcm⟩ := h.c.1.get hck
    have hlg := h.c.2 g rfl
    have hgl := h.c.1.lt g rfl
    clear hgat hq
    repeat (first | refine RL.vv ?_ | refine RL.p ?_ | refine RL.nil ?_ | refine Sim.seq ?_ | refine Sim.region ?_ | refine Sim.block ?_ | refine Sim.skip ?_ | refine Sim.inBlock ?_ | refine Sim.exit rfl ?_ | refine Sim.condT rfl ?_ | refine Sim.condF rfl ?_)
    refine Sim.ord (fun wq => At wq qb 0 [vo, .slice (some ⟨g, 0, none⟩) s.called.length cc, vf] ∧ At wq b3 0 [.int .i64 c.kind, .string c.type, .string c.field, .string c.to]) ?_
    have hd := Up.drew w3
    have hS : At w3.drew qb 0 [vo, .slice (some ⟨g, 0, none⟩) s.called.length cc, vf] ∧ At w3.drew b3 0 [.int .i64 c.kind, .string c.type, .string c.field, .string c.to] := ⟨has.up hd, ha3.up hd⟩
    refine RO.tk 0 ?_
    refine RO.tk 1 ?_
    refine RO.tk 2 ?_
    refine RO.tk 3 ?_ (hy := fun wq hq => y_loadF rfl hq.1 rfl)
    refine RO.tk 4 ?_
    refine RO.tk 5 ?_
    refine RO.tk 6 ?_ (hy := fun wq hq => y_loadF rfl hq.2 rfl)
    refine RO.tk 7 ?_ (hy := fun wq hq => y_indexAddr (i := k) (k := 1) rfl rfl hklt)
    refine RO.one 8 ?_
    have h := h.up hd
    refine RL.wr (L := strLay) (i := k) (j := 0) (k := 1) (x' := c.to) (u := .string c.to) h.c.1 hck fun w4 hbt hrow => ?_
    have hne : qb ≠ g := fun e => by have := h.sbl; rw [e, hlg] at this; omega
    have hne2 : b3 ≠ g := fun e => by have := (hold.c.1.lt g rfl).2; omega
    refine RL.ord ⟨hS.1.keep hbt.keep hne, hS.2.keep hbt.keep hne2⟩ ?_
    refine RO.done (RL.nil ?_)
    repeat (first | refine RL.vv ?_ | refine RL.p ?_ | refine RL.nil ?_ | refine Sim.seq ?_ | refine Sim.region ?_ | refine Sim.block ?_ | refine Sim.skip ?_ | refine Sim.inBlock ?_ | refine Sim.exit rfl ?_ | refine Sim.condT rfl ?_ | refine Sim.condF rfl ?_)
    exact Sim.ret1 Try.func115 rfl rfl ⟨rfl, Below.trans (b := w3.drew) (hbel (hu3.trans hd)) (hbt.below (by have := (hu1.trans (hu3.trans hd)).size; omega) hgl.1), h.call hbt hlg hrow⟩
  -- the field
  obtain ⟨fs, hfs⟩ : ∃ fs, s.fields[k]? = some fs := ⟨_, List.getElem?_eq_getElem (by omega)⟩
  obtain ⟨a, ha⟩ : ∃ a, hs[k]? = some a := ⟨_, List.getElem?_eq_getElem (by have := h.len; omega)⟩
  obtain ⟨gf, cf, cs, rfl, hfat, ⟨rfl, _⟩, hflt, _, _⟩ := h.f.1.get ha
  have hfat : At w2 gf (0 + k * 1) [a] := hfat
  obtain ⟨hrow, hlab⟩ := h.each k a fs ha hfs
  obtain ⟨aa, ac, rfl⟩ := hrow.shape
  have hlgf := h.f.2 gf rfl
  have hfull := hrow.full
  repeat (first | refine RL.vv ?_ | refine RL.p ?_ | refine RL.nil ?_ | refine Sim.seq ?_ | refine Sim.region ?_ | refine Sim.block ?_ | refine Sim.skip ?_ | refine Sim.inBlock ?_ | refine Sim.exit rfl ?_ | refine Sim.condT rfl ?_ | refine Sim.condF rfl ?_)
  refine Sim.q ?_
  repeat (first | refine RQ.vv ?_ | refine RQ.p ?_)
  refine RQ.cu (fun wq hq => (place_any c.field wq (hfull.up hq)).mono fun _ _ ⟨h1, h2⟩ => ⟨h1, h2 ▸ hq⟩) ?_
  repeat (first | refine RQ.vv ?_ | refine RQ.p ?_)
  refine RQ.nil fun w3 hq => ?_
  have h := h.up hq
  have has := has.up hq
  have ha3 := ha3.up hq
  have hfat := hfat.up hq
  have hrow := hrow.up hq
  have hfull := hfull.up hq
  have hu3 := hu2.trans hq
  clear hq
  by_cases h5 : strAt fs c.field < 0 ∨ c.field = ⟨#[]⟩
  · obtain rfl : D = (5, s) := by
      rw [← hD]
      unfold doR
      rw [if_neg hkind, if_neg h2, if_neg k1, hk]
      simp only [Int.toNat_natCast, hfs]
      rw [if_pos h5]
    by_cases h6 : strAt fs c.field < 0
    · repeat (first | refine RL.vv ?_ | refine RL.p ?_ | refine RL.nil ?_ | refine Sim.seq ?_ | refine Sim.region ?_ | refine Sim.block ?_ | refine Sim.skip ?_ | refine Sim.inBlock ?_ | refine Sim.exit rfl ?_ | refine Sim.condT rfl ?_ | refine Sim.condF rfl ?_)
      exact Sim.ret1 Try.func115 rfl rfl ⟨rfl, hbel hu3, h⟩
    · have h7 : c.field = ⟨#[]⟩ := h5.resolve_left h6
      repeat (first | refine RL.vv ?_ | refine RL.p ?_ | refine RL.nil ?_ | refine Sim.seq ?_ | refine Sim.region ?_ | refine Sim.block ?_ | refine Sim.skip ?_ | refine Sim.inBlock ?_ | refine Sim.exit rfl ?_ | refine Sim.condT rfl ?_ | refine Sim.condF rfl ?_)
      exact Sim.ret1 Try.func115 rfl rfl ⟨rfl, hbel hu3, h⟩
  obtain ⟨h6, h7⟩ := not_or.1 h5
  obtain ⟨f, hf, hfc⟩ := strAt_get (l := fs) (s := c.field) (by omega)
  rw [hf]
  have h6' : ¬ (f : Int) < 0 := by omega
  obtain ⟨g2, c2, cs2, e2, hg2at, rfl, hflt2, _, _⟩ := hrow.get hfc
  simp only [Value.slice.injEq] at e2
  obtain ⟨rfl, _, rfl⟩ := e2
  have hlg2 := hlab g2 rfl
  have hgl2 := hrow.lt g2 rfl
  have hne : qb ≠ g2 := fun e => by have := h.sbl; rw [e, hlg2] at this; omega
  have hne2 : b3 ≠ g2 := fun e => by have := ((hold.each k _ fs ha hfs).1.lt g2 rfl).2; omega
  have hkf := (List.getElem?_eq_some_iff.1 hfs).1
  by_cases k3 : c.kind = 3
  · obtain rfl : D = (0, { s with fields := s.fields.set k (fs.set f ⟨#[]⟩) }) := by
      rw [← hD]
      unfold doR
      rw [if_neg hkind, if_neg h2, if_neg k1, hk]
      simp only [Int.toNat_natCast, hfs]
      rw [if_neg h5, if_pos k3, hf]
      rfl
    repeat (first | refine RL.vv ?_ | refine RL.p ?_ | refine RL.nil ?_ | refine Sim.seq ?_ | refine Sim.region ?_ | refine Sim.block ?_ | refine Sim.skip ?_ | refine Sim.inBlock ?_ | refine Sim.exit rfl ?_ | refine Sim.condT rfl ?_ | refine Sim.condF rfl ?_)
    refine RL.wr (L := strLay) (i := f) (j := 0) (k := 1) (x' := ⟨#[]⟩) (u := .string ⟨#[]⟩) hrow hfc fun w4 hbt hrow' => ?_
    repeat (first | refine RL.vv ?_ | refine RL.p ?_ | refine RL.nil ?_ | refine Sim.seq ?_ | refine Sim.region ?_ | refine Sim.block ?_ | refine Sim.skip ?_ | refine Sim.inBlock ?_ | refine Sim.exit rfl ?_ | refine Sim.condT rfl ?_ | refine Sim.condF rfl ?_)
    exact Sim.ret1 Try.func115 rfl rfl ⟨rfl, Below.trans (b := w3) (hbel hu3) (hbt.below (by have := (hu1.trans hu3).size; omega) hgl2.1), h.field hbt hlg2 ha hrow'⟩
  repeat (first | refine RL.vv ?_ | refine RL.p ?_ | refine RL.nil ?_ | refine Sim.seq ?_ | refine Sim.region ?_ | refine Sim.block ?_ | refine Sim.skip ?_ | refine Sim.inBlock ?_ | refine Sim.exit rfl ?_ | refine Sim.condT rfl ?_ | refine Sim.condF rfl ?_)
  refine Sim.q ?_
  repeat (first | refine RQ.vv ?_ | refine RQ.p ?_)
  refine RQ.cu (fun wq hq => (RNamed_any c.to wq hto).mono fun _ _ ⟨h1, h2⟩ => ⟨h1, hq.trans h2⟩) ?_
  rcases Bool.eq_false_or_eq_true (named c.to) with hn | hn
  rotate_left
  · rw [hn]
    repeat (first | refine RQ.vv ?_ | refine RQ.p ?_)
    refine RQ.nil fun w4 hq => ?_
    obtain rfl : D = (6, s) := by
      rw [← hD]
      unfold doR
      rw [if_neg hkind, if_neg h2, if_neg k1, hk]
      simp only [Int.toNat_natCast, hfs]
      rw [if_neg h5, if_neg k3, if_neg fun h => by rw [hn] at h; cases h.1]
    repeat (first | refine RL.vv ?_ | refine RL.p ?_ | refine RL.nil ?_ | refine Sim.seq ?_ | refine Sim.region ?_ | refine Sim.block ?_ | refine Sim.skip ?_ | refine Sim.inBlock ?_ | refine Sim.exit rfl ?_ | refine Sim.condT rfl ?_ | refine Sim.condF rfl ?_)
    exact Sim.ret1 Try.func115 rfl rfl ⟨rfl, hbel (hu3.trans hq), h.up hq⟩
  rw [hn]
  repeat (first | refine RQ.vv ?_ | refine RQ.p ?_)
  refine RQ.cu (fun wq hq => (place_any c.to wq (hfull.up hq)).mono fun _ _ ⟨h1, h2⟩ => ⟨h1, h2 ▸ hq⟩) ?_
  by_cases h8 : 0 ≤ strAt fs c.to
  · repeat (first | refine RQ.vv ?_ | refine RQ.p ?_)
    refine RQ.nil fun w4 hq => ?_
    obtain rfl : D = (6, s) := by
      rw [← hD]
      unfold doR
      rw [if_neg hkind, if_neg h2, if_neg k1, hk]
      simp only [Int.toNat_natCast, hfs]
      rw [if_neg h5, if_neg k3, if_neg fun h => h.2 h8]
    repeat (first | refine RL.vv ?_ | refine RL.p ?_ | refine RL.nil ?_ | refine Sim.seq ?_ | refine Sim.region ?_ | refine Sim.block ?_ | refine Sim.skip ?_ | refine Sim.inBlock ?_ | refine Sim.exit rfl ?_ | refine Sim.condT rfl ?_ | refine Sim.condF rfl ?_)
    exact Sim.ret1 Try.func115 rfl rfl ⟨rfl, hbel (hu3.trans hq), h.up hq⟩
  repeat (first | refine RQ.vv ?_ | refine RQ.p ?_)
  refine RQ.nil fun w4 hq => ?_
  obtain rfl : D = (0, { s with fields := s.fields.set k (fs.set f c.to) }) := by
    rw [← hD]
    unfold doR
    rw [if_neg hkind, if_neg h2, if_neg k1, hk]
    simp only [Int.toNat_natCast, hfs]
    rw [if_neg h5, if_neg k3, if_pos ⟨hn, h8⟩, hf]
    rfl
  repeat (first | refine RL.vv ?_ | refine RL.p ?_ | refine RL.nil ?_ | refine Sim.seq ?_ | refine Sim.region ?_ | refine Sim.block ?_ | refine Sim.skip ?_ | refine Sim.inBlock ?_ | refine Sim.exit rfl ?_ | refine Sim.condT rfl ?_ | refine Sim.condF rfl ?_)
  refine Sim.ord (fun wq => At wq qb 0 [vo, vc, .slice (some ⟨gf, 0, none⟩) hs.length cf] ∧ At wq b3 0 [.int .i64 c.kind, .string c.type, .string c.field, .string c.to] ∧ At wq gf (0 + k * 1) [.slice (some ⟨g2, 0, none⟩) fs.length ac]) ?_
  have hd := hq.trans (Up.drew w4)
  have h := h.up hd
  have hrow := hrow.up hd
  have hS : At w4.drew qb 0 [vo, vc, .slice (some ⟨gf, 0, none⟩) hs.length cf] ∧ At w4.drew b3 0 [.int .i64 c.kind, .string c.type, .string c.field, .string c.to] ∧ At w4.drew gf (0 + k * 1) [.slice (some ⟨g2, 0, none⟩) fs.length ac] := ⟨has.up hd, ha3.up hd, hfat.up hd⟩
  refine RO.tk 0 ?_
  refine RO.tk 1 ?_
  refine RO.tk 2 ?_
  refine RO.tk 3 ?_ (hy := fun wq hq => y_loadF rfl hq.1 rfl)
  refine RO.tk 4 ?_
  refine RO.tk 5 ?_ (hy := fun wq hq => y_indexAddr (i := k) (k := 1) rfl rfl hflt)
  refine RO.tk 6 ?_ (hy := fun wq hq => y_load0 rfl hq.2.2 rfl)
  refine RO.tk 7 ?_
  refine RO.tk 8 ?_
  refine RO.tk 9 ?_ (hy := fun wq hq => y_loadF rfl hq.2.1 rfl)
  refine RO.tk 10 ?_ (hy := fun wq hq => y_indexAddr (i := f) (k := 1) rfl rfl hflt2)
  refine RO.one 11 ?_
  refine RL.wr (L := strLay) (i := f) (j := 0) (k := 1) (x' := c.to) (u := .string c.to) hrow hfc fun w5 hbt hrow' => ?_
  have hnf : gf ≠ g2 := fun e => by rw [e, hlg2] at hlgf; omega
  refine RL.ord ⟨hS.1.keep hbt.keep hne, hS.2.1.keep hbt.keep hne2, hS.2.2.keep hbt.keep hnf⟩ ?_
  refine RO.done (RL.nil ?_)
  repeat (first | refine RL.vv ?_ | refine RL.p ?_ | refine RL.nil ?_ | refine Sim.seq ?_ | refine Sim.region ?_ | refine Sim.block ?_ | refine Sim.skip ?_ | refine Sim.inBlock ?_ | refine Sim.exit rfl ?_ | refine Sim.condT rfl ?_ | refine Sim.condF rfl ?_)
  exact Sim.ret1 Try.func115 rfl rfl ⟨rfl, Below.trans (b := w4.drew) (hbel (hu3.trans hd)) (hbt.below (by have := (hu1.trans (hu3.trans hd)).size; omega) hgl2.1), h.field hbt hlg2 ha hrow'⟩
end Go.Proofs.Ytgckpmcdlciibac

namespace Go.Proofs.Ytgckpmcdlciibac
open Go.RowKit
/-- no two have the same block -/
def Dj (vs : List Value) : Prop := ∀ (i j : Nat) a b g, i ≠ j → vs[i]? = some a → vs[j]? = some b → a.ownBlock = some g → b.ownBlock ≠ some g
theorem Dj.set {vs : List Value} (h : Dj vs) {i : Nat} {a a' : Value} (ha : vs[i]? = some a) (hv : ∀ g, a'.ownBlock = some g → a.ownBlock = some g ∨ ∀ (j : Nat) b, j ≠ i → vs[j]? = some b → b.ownBlock ≠ some g) : Dj (vs.set i a') := fun m n x y g hmn hx hy hg => by
  have hil := (List.getElem?_eq_some_iff.1 ha).1
  by_cases hmi : m = i
  · subst hmi
    rw [List.getElem?_set_self hil] at hx
    cases hx
    rw [List.getElem?_set_ne hmn] at hy
    rcases hv g hg with h1 | h1
    · exact h m n a y g hmn ha hy h1
    · exact h1 n y (Ne.symm hmn) hy
  · rw [List.getElem?_set_ne (Ne.symm hmi)] at hx
    by_cases hni : n = i
    · subst hni
      rw [List.getElem?_set_self hil] at hy
      cases hy
      intro hg2
      rcases hv g hg2 with h1 | h1
      · exact h m n x a g hmn hx ha hg h1
      · exact h1 m x hmi hx hg
    · rw [List.getElem?_set_ne (Ne.symm hni)] at hy
      exact h m n x y g hmn hx hy hg
theorem Dj.snoc {vs : List Value} (h : Dj vs) {a : Value} (ha : ∀ g, a.ownBlock = some g → ∀ b ∈ vs, b.ownBlock ≠ some g) : Dj (vs ++ [a]) := fun m n x y g hmn hx hy hg => by
  have hml := (List.getElem?_eq_some_iff.1 hx).1
  have hnl := (List.getElem?_eq_some_iff.1 hy).1
  simp only [List.length_append, List.length_cons, List.length_nil] at hml hnl
  by_cases hm : m < vs.length
  · rw [List.getElem?_append_left hm] at hx
    by_cases hn : n < vs.length
    · rw [List.getElem?_append_left hn] at hy
      exact h m n x y g hmn hx hy hg
    · obtain rfl : n = vs.length := by omega
      rw [List.getElem?_append_right (Nat.le_refl _), Nat.sub_self] at hy
      cases hy
      exact fun hg2 => ha g hg2 x (List.mem_of_getElem? hx) hg
  · obtain rfl : m = vs.length := by omega
    rw [List.getElem?_append_right (Nat.le_refl _), Nat.sub_self] at hx
    cases hx
    rw [List.getElem?_append_left (by omega)] at hy
    exact ha g hg y (List.mem_of_getElem? hy)
/-- what is seen, growing -/
structure RsD (B : Nat) (w : World) (vo vc vf : Value) (hs : List Value) (s : RSn) : Prop where
  o : Own strLay 9 B Nn w vo s.own
  c : Own strLay 9 B Nn w vc s.called
  f : Own rawLay 47 B Nn w vf hs
  len : hs.length = s.fields.length
  each : ∀ (i : Nat) h ns, hs[i]? = some h → s.fields[i]? = some ns → Own strLay 9 B Nn w h ns
  dj : Dj (vo :: vc :: vf :: hs)
section
variable {B : Nat} {w w1 : World} {vo vc vf v' : Value} {hs : List Value} {s : RSn}
theorem RsD.nil (B : Nat) (w : World) : RsD B w (.slice none 0 0) (.slice none 0 0) (.slice none 0 0) [] ⟨[], [], []⟩ :=
  ⟨Own.nil _ _ _ _ _, Own.nil _ _ _ _ _, Own.nil _ _ _ _ _, rfl, fun i h ns h1 => by simp at h1, fun i j a b g hij ha hb hg => by
    match i, ha with
    | 0, ha => cases ha; cases hg
    | 1, ha => cases ha; cases hg
    | 2, ha => cases ha; cases hg⟩
theorem RsD.up (h : RsD B w vo vc vf hs s) (hu : Up w w1) : RsD B w1 vo vc vf hs s := ⟨h.o.up hu, h.c.up hu, h.f.up hu, h.len, fun i a ns h1 h2 => (h.each i a ns h1 h2).up hu, h.dj⟩
theorem RsD.but {b : Nat} (h : RsD B w vo vc vf hs s) (hb : But b w w1) (hB : b < B) : RsD B w1 vo vc vf hs s :=
  ⟨h.o.but hb (fun _ h => h.elim) (fun g hg => by have := (h.o.lt g hg).1; omega), h.c.but hb (fun _ h => h.elim) (fun g hg => by have := (h.c.lt g hg).1; omega), h.f.but hb (fun _ h => h.elim) (fun g hg => by have := (h.f.lt g hg).1; omega), h.len,
    fun i a ns h1 h2 => (h.each i a ns h1 h2).but hb (fun _ h => h.elim) (fun g hg => by have := ((h.each i a ns h1 h2).lt g hg).1; omega), h.dj⟩
theorem RsD.lt (h : RsD B w vo vc vf hs s) {j : Nat} {b : Value} {g : Nat} (hb : (vo :: vc :: vf :: hs)[j]? = some b) (hg : b.ownBlock = some g) : g < w.heap.size := by
  match j, hb with
  | 0, hb => cases hb; exact (h.o.lt g hg).2
  | 1, hb => cases hb; exact (h.c.lt g hg).2
  | 2, hb => cases hb; exact (h.f.lt g hg).2
  | j + 3, hb =>
    have hb : hs[j]? = some b := hb
    have hl := (List.getElem?_eq_some_iff.1 hb).1
    exact ((h.each j b _ hb (List.getElem?_eq_getElem (by rw [← h.len]; exact hl))).lt g hg).2
theorem RsD.growO {xs : List Str} (h : RsD B w vo vc vf hs s) (hg : w.grownBy w1 vo.ownBlock) (ho : Own strLay 9 B Nn w1 v' xs) (hv : ∀ g, v'.ownBlock = some g → vo.ownBlock = some g ∨ g = w.heap.size) : RsD B w1 v' vc vf hs { s with own := xs } :=
  ⟨ho, h.c.grown hg (fun _ h => h.elim) (fun g hg' e => h.dj 0 1 vo vc g (by decide) rfl rfl e.symm hg'), h.f.grown hg (fun _ h => h.elim) (fun g hg' e => h.dj 0 2 vo vf g (by decide) rfl rfl e.symm hg'), h.len,
    fun i a ns h1 h2 => (h.each i a ns h1 h2).grown hg (fun _ h => h.elim) (fun g hg' e => h.dj 0 (i + 3) vo a g (by omega) rfl h1 e.symm hg'),
    h.dj.set (i := 0) rfl fun g hg' => (hv g hg').imp id fun e j b _ hb hb' => by have := h.lt hb hb'; omega⟩
theorem RsD.growC {xs : List Str} (h : RsD B w vo vc vf hs s) (hg : w.grownBy w1 vc.ownBlock) (ho : Own strLay 9 B Nn w1 v' xs) (hv : ∀ g, v'.ownBlock = some g → vc.ownBlock = some g ∨ g = w.heap.size) : RsD B w1 vo v' vf hs { s with called := xs } :=
  ⟨h.o.grown hg (fun _ h => h.elim) (fun g hg' e => h.dj 1 0 vc vo g (by decide) rfl rfl e.symm hg'), ho, h.f.grown hg (fun _ h => h.elim) (fun g hg' e => h.dj 1 2 vc vf g (by decide) rfl rfl e.symm hg'), h.len,
    fun i a ns h1 h2 => (h.each i a ns h1 h2).grown hg (fun _ h => h.elim) (fun g hg' e => h.dj 1 (i + 3) vc a g (by omega) rfl h1 e.symm hg'),
    h.dj.set (i := 1) rfl fun g hg' => (hv g hg').imp id fun e j b _ hb hb' => by have := h.lt hb hb'; omega⟩
theorem RsD.growF {nv : Value} {ns : List Str} (h : RsD B w vo vc vf hs s) (hn : Own strLay 9 B Nn w nv ns) (hnd : ∀ g, nv.ownBlock = some g → ∀ b ∈ vo :: vc :: vf :: hs, b.ownBlock ≠ some g) (hg : w.grownBy w1 vf.ownBlock) (ho : Own rawLay 47 B Nn w1 v' (hs ++ [nv])) (hv : ∀ g, v'.ownBlock = some g → vf.ownBlock = some g ∨ g = w.heap.size) : RsD B w1 vo vc v' (hs ++ [nv]) { s with fields := s.fields ++ [ns] } :=
  ⟨h.o.grown hg (fun _ h => h.elim) (fun g hg' e => h.dj 2 0 vf vo g (by decide) rfl rfl e.symm hg'), h.c.grown hg (fun _ h => h.elim) (fun g hg' e => h.dj 2 1 vf vc g (by decide) rfl rfl e.symm hg'), ho, by simp [h.len],
    fun i a ns' h1 h2 => by
      by_cases hi : i < hs.length
      · rw [List.getElem?_append_left hi] at h1
        rw [List.getElem?_append_left (by rw [← h.len]; exact hi)] at h2
        exact (h.each i a ns' h1 h2).grown hg (fun _ h => h.elim) (fun g hg' e => h.dj 2 (i + 3) vf a g (by omega) rfl h1 e.symm hg')
      · have hl := (List.getElem?_eq_some_iff.1 h1).1
        simp only [List.length_append, List.length_cons, List.length_nil] at hl
        obtain rfl : i = hs.length := by omega
        rw [List.getElem?_append_right (Nat.le_refl _), Nat.sub_self] at h1
        cases h1
        rw [h.len, List.getElem?_append_right (Nat.le_refl _), Nat.sub_self] at h2
        cases h2
        exact hn.grown hg (fun _ h => h.elim) (fun g hg' e => hnd g hg' vf (by simp) e.symm),
    by
      have h1 : Dj (vo :: vc :: vf :: (hs ++ [nv])) := h.dj.snoc hnd
      refine Dj.set (i := 2) h1 rfl fun g hg' => (hv g hg').imp id fun e j b hj hb hb' => ?_
      by_cases hjl : j < (vo :: vc :: vf :: hs).length
      · have hb2 : (vo :: vc :: vf :: hs)[j]? = some b := by
          rw [← hb]
          exact (List.getElem?_append_left (l₁ := vo :: vc :: vf :: hs) (l₂ := [nv]) hjl).symm
        have := h.lt hb2 hb'
        omega
      · have hb2 : ((vo :: vc :: vf :: hs) ++ [nv])[j]? = some b := hb
        have hl := (List.getElem?_eq_some_iff.1 hb2).1
        simp only [List.length_append, List.length_cons, List.length_nil] at hl hjl
        rw [List.getElem?_append_right (by simp; omega), show j - (vo :: vc :: vf :: hs).length = 0 by simp; omega] at hb2
        cases hb2
        have := (hn.lt g hb').2
        omega⟩
/-- labelled -/
theorem RsD.lab {qb : Nat} (h : RsD B w vo vc vf hs s) (hq : qb < B) (hb : Box w qb 160 [vo, vc, vf]) : ∃ lab, RsAt qb w qb vo vc vf hs s lab := by
  let lab : Nat → Nat := fun b => (1 + firstIdx (vo :: vc :: vf :: hs) fun v => decide (v.ownBlock = some b)).toNat
  have hl : ∀ (i : Nat) a g, (vo :: vc :: vf :: hs)[i]? = some a → a.ownBlock = some g → lab g = i + 1 := fun i a g ha hg => by
    have : firstIdx (vo :: vc :: vf :: hs) (fun v => decide (v.ownBlock = some g)) = (i : Int) := firstIdx_hit ha (decide_eq_true hg) fun j y hj hy => decide_eq_false fun hy2 => h.dj i j a y g (by omega) ha hy hg hy2
    show (1 + firstIdx (vo :: vc :: vf :: hs) fun v => decide (v.ownBlock = some g)).toNat = i + 1
    rw [this]
    omega
  have hq0 : lab qb = 0 := by
    have : firstIdx (vo :: vc :: vf :: hs) (fun v => decide (v.ownBlock = some qb)) = -1 := firstIdx_miss fun j y hy => decide_eq_false fun hy2 => by
      have : B ≤ qb := by
        match j, hy with
        | 0, hb => cases hb; exact (h.o.lt qb hy2).1
        | 1, hb => cases hb; exact (h.c.lt qb hy2).1
        | 2, hb => cases hb; exact (h.f.lt qb hy2).1
        | j + 3, hb =>
          have hb : hs[j]? = some y := hb
          have hl := (List.getElem?_eq_some_iff.1 hb).1
          exact ((h.each j y _ hb (List.getElem?_eq_getElem (by rw [← h.len]; exact hl))).lt qb hy2).1
      omega
    show (1 + firstIdx (vo :: vc :: vf :: hs) fun v => decide (v.ownBlock = some qb)).toNat = 0
    rw [this]
    rfl
  exact ⟨lab, hb, Nat.le_refl _, hq0, ⟨h.o.base (by omega), fun g hg => hl 0 vo g rfl hg⟩, ⟨h.c.base (by omega), fun g hg => hl 1 vc g rfl hg⟩, ⟨h.f.base (by omega), fun g hg => hl 2 vf g rfl hg⟩, h.len,
    fun i a ns h1 h2 => ⟨(h.each i a ns h1 h2).base (by omega), fun g hg => hl (i + 3) a g h1 hg⟩⟩
end
/-- what is seen, as slices -/
structure RsSl (S : Nat → Prop) (w : World) (vo vc vf : Value) (s : RSn) : Prop where
  o : SliceOf strLay S w vo s.own
  c : SliceOf strLay S w vc s.called
  f : SliceOf strLay.slice S w vf s.fields
theorem RsSl.up {S : Nat → Prop} {w w1 : World} {vo vc vf : Value} {s : RSn} (h : RsSl S w vo vc vf s) (hu : Up w w1) : RsSl S w1 vo vc vf s := ⟨h.o.up hu, h.c.up hu, h.f.up hu⟩
theorem RsSl.nil (S : Nat → Prop) (w : World) : RsSl S w (.slice none 0 0) (.slice none 0 0) (.slice none 0 0) ⟨[], [], []⟩ := ⟨SliceOf.nil _ _ _, SliceOf.nil _ _ _, SliceOf.nil _ _ _⟩
theorem RsAt.sl {B : Nat} {w : World} {qb : Nat} {vo vc vf : Value} {hs : List Value} {s : RSn} {lab : Nat → Nat} (h : RsAt B w qb vo vc vf hs s lab) : RsSl (fun b => B ≤ b) w vo vc vf s :=
  ⟨h.o.1.full, h.c.1.full, h.f.1.full.map (M := strLay.slice) rfl h.len.symm fun i cs a ns h1 h2 hc => by
    obtain ⟨rfl, _⟩ := hc
    exact ⟨a, rfl, (h.each i a ns h1 h2).1.full⟩⟩
theorem doR_len {s : RSn} {c : Chg} (h : s.called.length = s.fields.length) : (doR s c).2.called.length = (doR s c).2.fields.length := by
  unfold doR
  split
  · exact h
  split
  · exact h
  split
  · split
    · simp [h]
    · exact h
  · cases s.fields[(strAt s.called c.type).toNat]? with
    | none => exact h
    | some fs =>
      simp only
      split
      · exact h
      split
      · simp [h]
      split
      · simp [h]
      · exact h
end Go.Proofs.Ytgckpmcdlciibac

namespace Go.Proofs.Ytgckpmcdlciibac
open Go.RowKit
theorem doAllR_cons (v : RSn) (i : Nat) (c : Chg) (cs : List Chg) : doAllR v i (c :: cs) = if (doR v c).1 = 0 then doAllR (doR v c).2 (i + 1) cs else (⟨[], [], []⟩, ⟨(doR v c).1, i⟩) := rfl
set_option maxHeartbeats 4000000 in
theorem RSee_any {S S2 : Nat → Prop} {lv cv : Value} {l : List Typ} {cs : List Chg} (w : World) (hl : SliceOf typLay S w lv l) (hcs : SliceOf chgLay S2 w cv cs) (hok : okTs l) (hokc : ∀ c ∈ cs, c.to.size ≤ maxLen) :
    Calls Try.prog 76 #[lv, cv] w fun en w' => ∃ vo vc vf, en = .returned (.tuple #[.agg #[vo, vc, vf], fltV (seeR l cs).2]) ∧ Up w w' ∧ RsSl (fun b => w.heap.size ≤ b) w' vo vc vf (seeR l cs).1 := by
  refine calls_of_sim Try.func76 rfl (Nat.le_of_ble_eq_true rfl) ?_
  obtain ⟨la, lc, rfl, hlnc, hlcm, _⟩ := id hl
  obtain ⟨ca, cc, rfl, hcnc, hccm, _⟩ := id hcs
  unfold maxLen at hlcm hccm
  repeat (first | refine RL.vv ?_ | refine RL.p ?_ | refine RL.nil ?_ | refine Sim.seq ?_ | refine Sim.region ?_ | refine Sim.block ?_ | refine Sim.skip ?_ | refine Sim.inBlock ?_ | refine Sim.exit rfl ?_ | refine Sim.condT rfl ?_ | refine Sim.condF rfl ?_)
  refine RL.al (.refl w) fun b4 w0 _ hle4 hu0 _ hb4 => ?_
  refine RL.al hu0 fun b5 w1 he5 hle5 hu1 h01 hb5 => ?_
  have hl45 : b4 < b5 := by have := hb4.lt; omega
  have hb4 : Box w1 b4 160 [.slice none 0 0, .slice none 0 0, .slice none 0 0] := hb4.up h01
  repeat (first | refine RL.vv ?_ | refine RL.p ?_ | refine RL.nil ?_ | refine Sim.seq ?_ | refine Sim.region ?_ | refine Sim.block ?_ | refine Sim.skip ?_ | refine Sim.inBlock ?_ | refine Sim.exit rfl ?_ | refine Sim.condT rfl ?_ | refine Sim.condF rfl ?_)
  refine RL.cu hu1 (RWrong_any w1 (hl.up hu1) hok) fun w2 hu h12 => ?_
  have hb4 := hb4.up h12
  have hb5 := hb5.up h12
  clear hu1 h12 h01 hu0
  refine RL.al hu fun b6 w3 he6 hle6 hu h23 hb6 => ?_
  have hl56 : b5 < b6 := by have := hb5.lt; omega
  have hb4 := hb4.up h23
  have hb5 := hb5.up h23
  unfold fltV
  refine RL.st hu hb6 hle6 fun w4 hu hbt hb6 => ?_
  have hb6 : Box w4 b6 _ [.int .i64 (wrongT l).err, .int .i64 (wrongT l).at_] := hb6
  have hb4 : Box w4 b4 160 [.slice none 0 0, .slice none 0 0, .slice none 0 0] := hb4.but hbt (by omega)
  have hb5 : Box w4 b5 _ [.int .i64 0, .int .i64 0] := hb5.but hbt (by omega)
  clear h23 hbt he6 he5
  have ha6 := hb6.at
  by_cases he : (wrongT l).err = 0
  rotate_left
  · have hsee : seeR l cs = (⟨[], [], []⟩, wrongT l) := by
      unfold seeR
      rw [if_pos he]
    rw [hsee]
    repeat (first | refine RL.vv ?_ | refine RL.p ?_ | refine RL.nil ?_ | refine Sim.seq ?_ | refine Sim.region ?_ | refine Sim.block ?_ | refine Sim.skip ?_ | refine Sim.inBlock ?_ | refine Sim.exit rfl ?_ | refine Sim.condT rfl ?_ | refine Sim.condF rfl ?_)
    have hS : At w4.drew b6 0 [.int .i64 (wrongT l).err, .int .i64 (wrongT l).at_] := ha6.up (Up.drew _)
    refine Sim.ord (fun wq => At wq b6 0 [.int .i64 (wrongT l).err, .int .i64 (wrongT l).at_]) ?_
    refine RO.tk 0 ?_ (hy := fun wq hq => y_build (v := .agg #[.slice none 0 0, .slice none 0 0, .slice none 0 0]) rfl (fun w => by kernel_rfl))
    refine RO.tk 1 ?_ (hy := fun wq hq => y_loadA rfl hq rfl)
    refine RO.one 2 ?_
    refine RL.st (hu.trans (Up.drew _)) (hb4.up (Up.drew _)) hle4 fun w5 hu5 hbt hb4 => ?_
    have hb5 := (hb5.up (Up.drew w4)).but hbt (by omega)
    refine RL.ord (hS.keep hbt.keep (by omega)) ?_
    refine RO.one 3 ?_
    have hS := hS.keep hbt.keep (show b6 ≠ b4 by omega)
    refine RL.st hu5 hb5 hle5 fun w6 hu6 hbt hb5 => ?_
    have hb4 := hb4.but hbt (by omega)
    refine RL.ord (hS.keep hbt.keep (by omega)) ?_
    refine RO.done (RL.nil ?_)
    repeat (first | refine RL.vv ?_ | refine RL.p ?_ | refine RL.nil ?_ | refine Sim.seq ?_ | refine Sim.region ?_ | refine Sim.block ?_ | refine Sim.skip ?_ | refine Sim.inBlock ?_ | refine Sim.exit rfl ?_ | refine Sim.condT rfl ?_ | refine Sim.condF rfl ?_)
    exact Sim.retCC (cs := [.slice none 0 0, .slice none 0 0, .slice none 0 0]) (cs' := [.int .i64 (wrongT l).err, .int .i64 (wrongT l).at_]) Try.func76 rfl rfl hb4.at rfl rfl hb5.at rfl ⟨_, _, _, rfl, hu6, RsSl.nil _ _⟩
  obtain ⟨hl8, hf10⟩ := wrongT_len he
  by_cases h12 : (12 : Int) < cs.length
  · have hsee : seeR l cs = (⟨[], [], []⟩, ⟨4, 0⟩) := by
      unfold seeR
      rw [if_neg (by omega), if_pos (by omega)]
    rw [hsee]
    repeat (first | refine RL.vv ?_ | refine RL.p ?_ | refine RL.nil ?_ | refine Sim.seq ?_ | refine Sim.region ?_ | refine Sim.block ?_ | refine Sim.skip ?_ | refine Sim.inBlock ?_ | refine Sim.exit rfl ?_ | refine Sim.condT rfl ?_ | refine Sim.condF rfl ?_)
    refine RL.val trivial rfl (y_build (v := .agg #[.slice none 0 0, .slice none 0 0, .slice none 0 0]) rfl (fun w => by kernel_rfl)) ?_
    refine RL.val trivial rfl (y_build (v := .agg #[.int .i64 4, .int .i64 0]) rfl (fun w => by kernel_rfl)) ?_
    refine RL.st hu hb4 hle4 fun w5 hu5 hbt hb4 => ?_
    refine RL.st hu5 (hb5.but hbt (by omega)) hle5 fun w6 hu6 hbt hb5 => ?_
    have hb4 := hb4.but hbt (by omega)
    repeat (first | refine RL.vv ?_ | refine RL.p ?_ | refine RL.nil ?_ | refine Sim.seq ?_ | refine Sim.region ?_ | refine Sim.block ?_ | refine Sim.skip ?_ | refine Sim.inBlock ?_ | refine Sim.exit rfl ?_ | refine Sim.condT rfl ?_ | refine Sim.condF rfl ?_)
    exact Sim.retCC (cs := [.slice none 0 0, .slice none 0 0, .slice none 0 0]) (cs' := [.int .i64 4, .int .i64 0]) Try.func76 rfl rfl hb4.at rfl rfl hb5.at rfl ⟨_, _, _, rfl, hu6, RsSl.nil _ _⟩
  have hsee : seeR l cs = doAllR (initR l) 0 cs := by
    unfold seeR
    rw [if_neg (by omega), if_neg (by omega)]
  rw [hsee]
  repeat (first | refine RL.vv ?_ | refine RL.p ?_ | refine RL.nil ?_ | refine Sim.seq ?_ | refine Sim.region ?_ | refine Sim.block ?_ | refine Sim.skip ?_ | refine Sim.inBlock ?_ | refine Sim.exit rfl ?_ | refine Sim.condT rfl ?_ | refine Sim.condF rfl ?_)
  refine RL.al hu fun b7 w5 he7 hle7 hu h45 hb7 => ?_
  have hb7 : Box w5 b7 160 [.slice none 0 0, .slice none 0 0, .slice none 0 0] := hb7
  have hb4 := hb4.up h45
  have hb5 := hb5.up h45
  have hl57 : b5 < b7 := by have := h45.size; have := hb6.lt; omega
  clear hb6 ha6 h45 he7
  repeat (first | refine RL.vv ?_ | refine RL.p ?_ | refine RL.nil ?_ | refine Sim.seq ?_ | refine Sim.region ?_ | refine Sim.block ?_ | refine Sim.skip ?_ | refine Sim.inBlock ?_ | refine Sim.exit rfl ?_ | refine Sim.condT rfl ?_ | refine Sim.condF rfl ?_)
  have hb7B := hb7.lt
  have hB0 := hu.size
  refine Sim.loop (σ := Nat × Value × Value × Value × List Value) (fun st => [(0, .slice la l.length lc), (1, .slice ca cs.length cc), (4, .pointer (some ⟨b4, 0, none⟩)), (5, .pointer (some ⟨b5, 0, none⟩)), (7, .pointer (some ⟨b7, 0, none⟩)), (28, .slice la l.length lc), (29, .int .i64 (l.length : Int)), (30, .int .i64 (st.1 : Int))])
    (fun st w' => st.1 ≤ l.length ∧ Up w w' ∧ w5.heap.size ≤ w'.heap.size ∧ Box w' b4 160 [.slice none 0 0, .slice none 0 0, .slice none 0 0] ∧ Box w' b5 35 [.int .i64 0, .int .i64 0] ∧ Box w' b7 160 [st.2.1, st.2.2.1, st.2.2.2.1] ∧
      RsD w5.heap.size w' st.2.1 st.2.2.1 st.2.2.2.1 st.2.2.2.2 (initR (l.take st.1))) (fun st => l.length - st.1) (0, .slice none 0 0, .slice none 0 0, .slice none 0 0, []) sb ⟨Nat.zero_le _, hu, Nat.le_refl _, hb4, hb5, hb7, RsD.nil _ _⟩ ?_
  clear hu hb4 hb5 hb7
  generalize w5.heap.size = B at *
  rintro ⟨i, vo, vc, vf, hs⟩ w6 ⟨hi, hu, hB6, hb4, hb5, hb7, hR⟩ next
  simp only at hi hb7 hR next ⊢
  by_cases hlt : i < l.length
  rotate_left
  · have : i = l.length := by omega
    subst this
    rw [List.take_length] at hR
    obtain ⟨oa, on, oc, rfl⟩ := hR.o.sh
    obtain ⟨ca', cn', cc', rfl⟩ := hR.c.sh
    obtain ⟨fa', fn', fc', rfl⟩ := hR.f.sh
    obtain ⟨lab, hA⟩ := hR.lab hb7B hb7
    repeat (first | refine RL.vv ?_ | refine RL.p ?_ | refine RL.nil ?_ | refine Sim.seq ?_ | refine Sim.region ?_ | refine Sim.block ?_ | refine Sim.skip ?_ | refine Sim.inBlock ?_ | refine Sim.exit rfl ?_ | refine Sim.condT rfl ?_ | refine Sim.condF rfl ?_)
    refine Sim.loop (σ := Nat) (fun i => [(1, .slice ca cs.length cc), (4, .pointer (some ⟨b4, 0, none⟩)), (5, .pointer (some ⟨b5, 0, none⟩)), (7, .pointer (some ⟨b7, 0, none⟩)), (68, .slice ca cs.length cc), (69, .int .i64 (cs.length : Int)), (70, .int .i64 (i : Int))])
      (fun i w' => i ≤ cs.length ∧ Up w w' ∧ b7 ≤ w'.heap.size ∧ Box w' b4 160 [.slice none 0 0, .slice none 0 0, .slice none 0 0] ∧ Box w' b5 35 [.int .i64 0, .int .i64 0] ∧ ∃ s, RsAt b7 w' b7 (.slice oa on oc) (.slice ca' cn' cc') (.slice fa' fn' fc') hs s lab ∧ s.called.length = s.fields.length ∧ doAllR (initR l) 0 cs = doAllR s i (cs.drop i)) (fun i => cs.length - i) 0 sb ⟨Nat.zero_le _, hu, by omega, hb4, hb5, _, hA, by simp [initR], by simp⟩ ?_
    clear hu hb4 hb5 hb7 hR hA next hB6
    rintro i w7 ⟨hi, hu, hB7, hb4, hb5, s, hA, hsl, heq⟩ next
    have hl4 := hb4.lt
    have hl5 := hb5.lt
    by_cases hlt : i < cs.length
    rotate_left
    · rw [List.drop_eq_nil_of_le (by omega)] at heq
      rw [heq]
      have ha7 := hA.box.at
      repeat (first | refine RL.vv ?_ | refine RL.p ?_ | refine RL.nil ?_ | refine Sim.seq ?_ | refine Sim.region ?_ | refine Sim.block ?_ | refine Sim.skip ?_ | refine Sim.inBlock ?_ | refine Sim.exit rfl ?_ | refine Sim.condT rfl ?_ | refine Sim.condF rfl ?_)
      refine RL.val trivial rfl (y_build (v := .agg #[.int .i64 0, .int .i64 0]) rfl (fun w => by kernel_rfl)) ?_
      refine RL.st hu hb4 hle4 fun w8 hu8 hbt8 hb4 => ?_
      refine RL.st hu8 (hb5.but hbt8 (by omega)) hle5 fun w9 hu9 hbt9 hb5 => ?_
      have hb4 := hb4.but hbt9 (by omega)
      have hsl2 := hA.sl
      have hk8 : Keep (fun b => b7 ≤ b) w7 w9 := fun b hb hlt => (hbt9.block b (Nat.lt_of_lt_of_le hlt hbt8.size) (by omega)).trans (hbt8.block b hlt (by omega))
      repeat (first | refine RL.vv ?_ | refine RL.p ?_ | refine RL.nil ?_ | refine Sim.seq ?_ | refine Sim.region ?_ | refine Sim.block ?_ | refine Sim.skip ?_ | refine Sim.inBlock ?_ | refine Sim.exit rfl ?_ | refine Sim.condT rfl ?_ | refine Sim.condF rfl ?_)
      exact Sim.retCC (cs := [.slice oa on oc, .slice ca' cn' cc', .slice fa' fn' fc']) (cs' := [.int .i64 0, .int .i64 0]) Try.func76 rfl rfl hb4.at rfl rfl hb5.at rfl ⟨_, _, _, rfl, hu9, (hsl2.o.keep hk8).mono fun b hb => by omega, (hsl2.c.keep hk8).mono fun b hb => by omega, (hsl2.f.keep hk8).mono fun b hb => by omega⟩
    have hx : cs[i]? = some cs[i] := List.getElem?_eq_getElem hlt
    rw [List.drop_eq_getElem_cons hlt] at heq
    obtain ⟨cb, co, cs2, rfl, _, hcat, rfl, _⟩ := hcs.at hx
    have hcat : At w cb (co + i * 4) _ := hcat
    have hcat := hcat.up hu
    have hto := hokc cs[i] (List.getElem_mem hlt)
    generalize cs[i] = c at *
    repeat (first | refine RL.vv ?_ | refine RL.p ?_ | refine RL.nil ?_ | refine Sim.seq ?_ | refine Sim.region ?_ | refine Sim.block ?_ | refine Sim.skip ?_ | refine Sim.inBlock ?_ | refine Sim.exit rfl ?_ | refine Sim.condT rfl ?_ | refine Sim.condF rfl ?_)
    refine RL.al hu fun b14 w8 he14 hle14 hu8 h78 hb14 => ?_
    repeat (first | refine RL.vv ?_ | refine RL.p ?_ | refine RL.nil ?_ | refine Sim.seq ?_ | refine Sim.region ?_ | refine Sim.block ?_ | refine Sim.skip ?_ | refine Sim.inBlock ?_ | refine Sim.exit rfl ?_ | refine Sim.condT rfl ?_ | refine Sim.condF rfl ?_)
    refine RL.st hu8 hb14 hle14 fun w9 hu9 hbt hb14 => ?_
    have hb14 : Box w9 b14 _ [.int .i64 c.kind, .string c.type, .string c.field, .string c.to] := hb14
    have h79 : Up w7 w9 := Up.but h78 hbt (Nat.le_of_eq he14.symm)
    have hA := hA.up h79
    have hb4 := hb4.up h79
    have hb5 := hb5.up h79
    have hs79 := h79.size
    have ha14 := hb14.at
    clear hcat hbt h78 hu8
    repeat (first | refine RL.vv ?_ | refine RL.p ?_ | refine RL.nil ?_ | refine Sim.seq ?_ | refine Sim.region ?_ | refine Sim.block ?_ | refine Sim.skip ?_ | refine Sim.inBlock ?_ | refine Sim.exit rfl ?_ | refine Sim.condT rfl ?_ | refine Sim.condF rfl ?_)
    refine RL.cx (RDo_any c w9 hA (by omega) hto hsl) ?_
    rintro _ w10 ⟨rfl, hbel, hA⟩
    refine ⟨_, rfl, ?_⟩
    have hu10 : Up w w10 := Below.trans (b := w9) hu9 (Below.mono hbel (by omega))
    have hb4 : Box w10 b4 160 [.slice none 0 0, .slice none 0 0, .slice none 0 0] := (Below.block hbel b4 (by omega)).trans hb4
    have hb5 : Box w10 b5 35 [.int .i64 0, .int .i64 0] := (Below.block hbel b5 (by omega)).trans hb5
    have hs910 := hbel.size
    rw [doAllR_cons] at heq
    by_cases h0 : (doR s c).1 = 0
    · rw [if_pos h0] at heq
      repeat (first | refine RL.vv ?_ | refine RL.p ?_ | refine RL.nil ?_ | refine Sim.seq ?_ | refine Sim.region ?_ | refine Sim.block ?_ | refine Sim.skip ?_ | refine Sim.inBlock ?_ | refine Sim.exit rfl ?_ | refine Sim.condT rfl ?_ | refine Sim.condF rfl ?_)
      exact next (i + 1) _ _ ⟨by omega, hu10, by omega, hb4, hb5, _, hA, doR_len hsl, heq⟩ (by omega) sb
    · rw [if_neg h0] at heq
      rw [heq]
      repeat (first | refine RL.vv ?_ | refine RL.p ?_ | refine RL.nil ?_ | refine Sim.seq ?_ | refine Sim.region ?_ | refine Sim.block ?_ | refine Sim.skip ?_ | refine Sim.inBlock ?_ | refine Sim.exit rfl ?_ | refine Sim.condT rfl ?_ | refine Sim.condF rfl ?_)
      refine RL.val trivial rfl (y_build (v := .agg #[.slice none 0 0, .slice none 0 0, .slice none 0 0]) rfl (fun w => by kernel_rfl)) ?_
      refine RL.vv ?_
      refine RL.vv ?_
      refine RL.val trivial rfl (y_build (v := .agg #[.int .i64 (doR s c).1, .int .i64 (i : Int)]) rfl (fun w => by kernel_rfl)) ?_
      refine RL.st hu10 hb4 hle4 fun w11 hu11 hbt hb4 => ?_
      refine RL.st hu11 (hb5.but hbt (by omega)) hle5 fun w12 hu12 hbt hb5 => ?_
      have hb4 := hb4.but hbt (by omega)
      repeat (first | refine RL.vv ?_ | refine RL.p ?_ | refine RL.nil ?_ | refine Sim.seq ?_ | refine Sim.region ?_ | refine Sim.block ?_ | refine Sim.skip ?_ | refine Sim.inBlock ?_ | refine Sim.exit rfl ?_ | refine Sim.condT rfl ?_ | refine Sim.condF rfl ?_)
      exact Sim.retCC (cs := [.slice none 0 0, .slice none 0 0, .slice none 0 0]) (cs' := [.int .i64 (doR s c).1, .int .i64 (i : Int)]) Try.func76 rfl rfl hb4.at rfl rfl hb5.at rfl ⟨_, _, _, rfl, hu12, RsSl.nil _ _⟩
  have hx : l[i]? = some l[i] := List.getElem?_eq_getElem hlt
  obtain ⟨tb, to, cs2, rfl, _, htat, ⟨fv, rfl, hfv⟩, _⟩ := hl.at hx
  have htat : At w tb (to + i * 2) _ := htat
  have htat := htat.up hu
  have hf10 := hf10 l[i] (List.mem_of_getElem? hx)
  have htk : l.take (i + 1) = l.take i ++ [l[i]] := List.take_succ_eq_append_getElem hlt
  generalize l[i] = t at *
  obtain ⟨fa, fc, rfl, _, _, _⟩ := id hfv
  repeat (first | refine RL.vv ?_ | refine RL.p ?_ | refine RL.nil ?_ | refine Sim.seq ?_ | refine Sim.region ?_ | refine Sim.block ?_ | refine Sim.skip ?_ | refine Sim.inBlock ?_ | refine Sim.exit rfl ?_ | refine Sim.condT rfl ?_ | refine Sim.condF rfl ?_)
  refine RL.al hu fun b9 w7 he9 hle9 hu7 h67 hb9 => ?_
  have hn9o : ∀ x, x = vo ∨ x = vc ∨ x = vf → some b9 ≠ x.ownBlock := fun x hx => by
    rcases hx with rfl | rfl | rfl
    · exact hR.o.ne (Nat.le_of_eq he9.symm)
    · exact hR.c.ne (Nat.le_of_eq he9.symm)
    · exact hR.f.ne (Nat.le_of_eq he9.symm)
  have hn79 : b7 ≠ b9 := by omega
  repeat (first | refine RL.vv ?_ | refine RL.p ?_ | refine RL.nil ?_ | refine Sim.seq ?_ | refine Sim.region ?_ | refine Sim.block ?_ | refine Sim.skip ?_ | refine Sim.inBlock ?_ | refine Sim.exit rfl ?_ | refine Sim.condT rfl ?_ | refine Sim.condF rfl ?_)
  refine RL.st hu7 hb9 hle9 fun w8 hu8 hbt hb9 => ?_
  have hb9 : Box w8 b9 57 [.string t.name, .slice fa t.fields.length fc] := hb9
  have h68 : Up w6 w8 := Up.but h67 hbt (Nat.le_of_eq he9.symm)
  have hb7 := hb7.up h68
  have hR := hR.up h68
  have hs68 := h68.size
  have hl4 := hb4.lt
  have hl5 := hb5.lt
  clear htat hbt h67 hu7
  repeat (first | refine RL.vv ?_ | refine RL.p ?_ | refine RL.nil ?_ | refine Sim.seq ?_ | refine Sim.region ?_ | refine Sim.block ?_ | refine Sim.skip ?_ | refine Sim.inBlock ?_ | refine Sim.exit rfl ?_ | refine Sim.condT rfl ?_ | refine Sim.condF rfl ?_)
  refine Sim.cutX (σ := Value × Value) (fun _ => [(0, .slice (some ⟨tb, to, none⟩) l.length lc), (1, .slice ca cs.length cc), (4, .pointer (some ⟨b4, 0, none⟩)), (5, .pointer (some ⟨b5, 0, none⟩)), (7, .pointer (some ⟨b7, 0, none⟩)), (28, .slice (some ⟨tb, to, none⟩) l.length lc), (29, .int .i64 (l.length : Int)), (30, .int .i64 (i : Int)), (9, .pointer (some ⟨b9, 0, none⟩))])
    (fun st w' => Up w w' ∧ Box w' b4 160 [.slice none 0 0, .slice none 0 0, .slice none 0 0] ∧ Box w' b5 35 [.int .i64 0, .int .i64 0] ∧ Box w' b7 160 [st.1, st.2, vf] ∧ Box w' b9 57 [.string t.name, .slice fa t.fields.length fc] ∧
      RsD B w' st.1 st.2 vf hs ⟨(initR (l.take i)).own ++ [t.name], (initR (l.take i)).called ++ [t.name], (initR (l.take i)).fields⟩ ∧ B ≤ w'.heap.size ∧ w6.heap.size ≤ w'.heap.size) (fun k' nextc => ?_) ?_
  · have h0 := hu8.trans (Up.drew w8)
    have hb4 := (hb4.up h68).up (Up.drew w8)
    have hb5 := (hb5.up h68).up (Up.drew w8)
    have hb7 := hb7.up (Up.drew w8)
    have hb9 := hb9.up (Up.drew w8)
    have hR := hR.up (Up.drew w8)
    have hsz : B ≤ w8.drew.heap.size := by have := (Up.drew w8).size; omega
    have h59 : w6.heap.size ≤ w8.drew.heap.size := by have := (Up.drew w8).size; omega
    have hS7 := hb7.at
    have hS9 := hb9.at
    refine Sim.ordD [13, 15] (fun wq => At wq b7 0 [vo, vc, vf]) (fun wq => At wq b9 0 [.string t.name, .slice fa t.fields.length fc]) ?_ mixed
    refine RD.tk 0 ?_
    refine RD.tk 1 ?_ (hy := fun wq hq => y_load0 rfl hq rfl)
    refine RD.tm 2 ?_
    refine RD.tm 3 ?_ (hy := fun wq hq => y_load0 rfl hq rfl)
    refine RD.tm 6 ?_
    refine RD.tk 7 ?_ (hy := fun wq hq => y_loadF rfl hq rfl)
    refine RD.tm 8 ?_
    refine RD.tm 9 ?_ (hy := fun wq hq => y_load0 rfl hq rfl)
    clear hS7 hS9
    refine RD.two 4 10 ?_ ?_
    · have hn38 := hR.o.ne (Nat.le_refl _)
      refine RL.bu (el := 9) [.string t.name] h0 fun b38 _ he38 _ h0 hx hb38 => ?_
      rw [← he38] at hn38
      try have hb44 := hb44.up hx
      have hb7 := hb7.up hx
      have hb9 := hb9.up hx
      have hb4 := hb4.up hx
      have hb5 := hb5.up hx
      have hR := hR.up hx
      have hsz := Nat.le_trans hsz hx.size
      have h59 := Nat.le_trans h59 hx.size
      refine RL.od hb9.at hb7.at ?_
      clear hx
      refine RD.two 5 10 ?_ ?_
      · refine RL.app (L := strLay) (el := 9) (S := fun _ => True) (B := B) (ys := [t.name]) h0 hR.o.no (SliceOf.one hb38 ⟨trivial, hn38⟩ rfl) (by simp only [initR, List.length_map, List.length_take, List.length_cons, List.length_nil]; omega) hB0 hsz fun vo' _ h0 ho hg hv => ?_
        try have hb44 := hb44.grown hg hn44o
        have hb7 := hb7.grown hg (hR.o.ne' hb7B)
        have hb9 := hb9.grown hg (hn9o vo (.inl rfl))
        have hb4 := hb4.grown hg (hR.o.ne' (by omega))
        have hb5 := hb5.grown hg (hR.o.ne' (by omega))
        have hsz := Nat.le_trans hsz hg.size
        have h59 := Nat.le_trans h59 hg.size
        have hR := hR.growO hg ho.no hv
        refine RL.od hb9.at hb7.at ?_
        clear hv hg
        refine RD.one 10 ?_
        have hn44 := hR.c.ne (Nat.le_refl _)
        have hn44o := hR.o.ne (Nat.le_refl _)
        refine RL.bu (el := 9) [.string t.name] h0 fun b44 _ he44 _ h0 hx hb44 => ?_
        rw [← he44] at hn44 hn44o
        try have hb38 := hb38.up hx
        have hb7 := hb7.up hx
        have hb9 := hb9.up hx
        have hb4 := hb4.up hx
        have hb5 := hb5.up hx
        have hR := hR.up hx
        have hsz := Nat.le_trans hsz hx.size
        have h59 := Nat.le_trans h59 hx.size
        refine RL.od hb9.at hb7.at ?_
        clear hx
        refine RD.one 11 ?_
        refine RL.app (L := strLay) (el := 9) (S := fun _ => True) (B := B) (ys := [t.name]) h0 hR.c.no (SliceOf.one hb44 ⟨trivial, hn44⟩ rfl) (by simp only [initR, List.length_map, List.length_take, List.length_cons, List.length_nil]; omega) hB0 hsz fun vc' _ h0 ho2 hg hv => ?_
        have hb7 := hb7.grown hg (hR.c.ne' hb7B)
        have hb9 := hb9.grown hg (hn9o vc (.inr (.inl rfl)))
        have hb4 := hb4.grown hg (hR.c.ne' (by omega))
        have hb5 := hb5.grown hg (hR.c.ne' (by omega))
        have hsz := Nat.le_trans hsz hg.size
        have h59 := Nat.le_trans h59 hg.size
        have hR := hR.growC hg ho2.no hv
        refine RL.od hb9.at hb7.at ?_
        clear hv hg
        have hS7 := hb7.at
        have hS9 := hb9.at
        refine RD.tm 12 ?_
        refine RD.one 13 ?_
        obtain ⟨oa, on, oc, rfl⟩ := ho.sh
        obtain ⟨ca', cn', cc', rfl⟩ := ho2.sh
        clear ho ho2
        refine RL.st h0 hb7 hle7 fun w13 h0 hbt hb7 => ?_
        have hb9 := hb9.but hbt hn79.symm
        have hb4 := hb4.but hbt (by omega)
        have hb5 := hb5.but hbt (by omega)
        have hR := hR.but hbt hb7B
        have hsz := Nat.le_trans hsz hbt.size
        have h59 := Nat.le_trans h59 hbt.size
        have hb7 : Box w13 b7 160 [.slice oa on oc, vc, vf] := hb7
        refine RL.ox hb9.at ?_
        clear hbt
        refine RD.on 14 hb9.at ?_
        refine RD.one 15 ?_
        refine RL.st h0 hb7 hle7 fun w14 h0 hbt hb7 => ?_
        have hb9 := hb9.but hbt hn79.symm
        have hb4 := hb4.but hbt (by omega)
        have hb5 := hb5.but hbt (by omega)
        have hR := hR.but hbt hb7B
        have hsz := Nat.le_trans hsz hbt.size
        have h59 := Nat.le_trans h59 hbt.size
        have hb7 : Box w14 b7 160 [.slice oa on oc, .slice ca' cn' cc', vf] := hb7
        refine RL.ox hb9.at ?_
        refine RD.done (RL.nil ?_)
        exact nextc (.slice oa on oc, .slice ca' cn' cc') _ _ ⟨h0, hb4, hb5, hb7, hb9, hR, hsz, h59⟩ sb
      · have hn44 := hR.c.ne (Nat.le_refl _)
        have hn44o := hR.o.ne (Nat.le_refl _)
        refine RL.bu (el := 9) [.string t.name] h0 fun b44 _ he44 _ h0 hx hb44 => ?_
        rw [← he44] at hn44 hn44o
        try have hb38 := hb38.up hx
        have hb7 := hb7.up hx
        have hb9 := hb9.up hx
        have hb4 := hb4.up hx
        have hb5 := hb5.up hx
        have hR := hR.up hx
        have hsz := Nat.le_trans hsz hx.size
        have h59 := Nat.le_trans h59 hx.size
        refine RL.od hb9.at hb7.at ?_
        clear hx
        refine RD.one 5 ?_
        refine RL.app (L := strLay) (el := 9) (S := fun _ => True) (B := B) (ys := [t.name]) h0 hR.o.no (SliceOf.one hb38 ⟨trivial, hn38⟩ rfl) (by simp only [initR, List.length_map, List.length_take, List.length_cons, List.length_nil]; omega) hB0 hsz fun vo' _ h0 ho hg hv => ?_
        try have hb44 := hb44.grown hg hn44o
        have hb7 := hb7.grown hg (hR.o.ne' hb7B)
        have hb9 := hb9.grown hg (hn9o vo (.inl rfl))
        have hb4 := hb4.grown hg (hR.o.ne' (by omega))
        have hb5 := hb5.grown hg (hR.o.ne' (by omega))
        have hsz := Nat.le_trans hsz hg.size
        have h59 := Nat.le_trans h59 hg.size
        have hR := hR.growO hg ho.no hv
        refine RL.od hb9.at hb7.at ?_
        clear hv hg
        refine RD.one 11 ?_
        refine RL.app (L := strLay) (el := 9) (S := fun _ => True) (B := B) (ys := [t.name]) h0 hR.c.no (SliceOf.one hb44 ⟨trivial, hn44⟩ rfl) (by simp only [initR, List.length_map, List.length_take, List.length_cons, List.length_nil]; omega) hB0 hsz fun vc' _ h0 ho2 hg hv => ?_
        have hb7 := hb7.grown hg (hR.c.ne' hb7B)
        have hb9 := hb9.grown hg (hn9o vc (.inr (.inl rfl)))
        have hb4 := hb4.grown hg (hR.c.ne' (by omega))
        have hb5 := hb5.grown hg (hR.c.ne' (by omega))
        have hsz := Nat.le_trans hsz hg.size
        have h59 := Nat.le_trans h59 hg.size
        have hR := hR.growC hg ho2.no hv
        refine RL.od hb9.at hb7.at ?_
        clear hv hg
        have hS7 := hb7.at
        have hS9 := hb9.at
        refine RD.tm 12 ?_
        refine RD.one 13 ?_
        obtain ⟨oa, on, oc, rfl⟩ := ho.sh
        obtain ⟨ca', cn', cc', rfl⟩ := ho2.sh
        clear ho ho2
        refine RL.st h0 hb7 hle7 fun w13 h0 hbt hb7 => ?_
        have hb9 := hb9.but hbt hn79.symm
        have hb4 := hb4.but hbt (by omega)
        have hb5 := hb5.but hbt (by omega)
        have hR := hR.but hbt hb7B
        have hsz := Nat.le_trans hsz hbt.size
        have h59 := Nat.le_trans h59 hbt.size
        have hb7 : Box w13 b7 160 [.slice oa on oc, vc, vf] := hb7
        refine RL.ox hb9.at ?_
        clear hbt
        refine RD.on 14 hb9.at ?_
        refine RD.one 15 ?_
        refine RL.st h0 hb7 hle7 fun w14 h0 hbt hb7 => ?_
        have hb9 := hb9.but hbt hn79.symm
        have hb4 := hb4.but hbt (by omega)
        have hb5 := hb5.but hbt (by omega)
        have hR := hR.but hbt hb7B
        have hsz := Nat.le_trans hsz hbt.size
        have h59 := Nat.le_trans h59 hbt.size
        have hb7 : Box w14 b7 160 [.slice oa on oc, .slice ca' cn' cc', vf] := hb7
        refine RL.ox hb9.at ?_
        refine RD.done (RL.nil ?_)
        exact nextc (.slice oa on oc, .slice ca' cn' cc') _ _ ⟨h0, hb4, hb5, hb7, hb9, hR, hsz, h59⟩ sb
    · have hn44 := hR.c.ne (Nat.le_refl _)
      have hn44o := hR.o.ne (Nat.le_refl _)
      refine RL.bu (el := 9) [.string t.name] h0 fun b44 _ he44 _ h0 hx hb44 => ?_
      rw [← he44] at hn44 hn44o
      try have hb38 := hb38.up hx
      have hb7 := hb7.up hx
      have hb9 := hb9.up hx
      have hb4 := hb4.up hx
      have hb5 := hb5.up hx
      have hR := hR.up hx
      have hsz := Nat.le_trans hsz hx.size
      have h59 := Nat.le_trans h59 hx.size
      refine RL.od hb9.at hb7.at ?_
      clear hx
      refine RD.one 4 ?_
      have hn38 := hR.o.ne (Nat.le_refl _)
      refine RL.bu (el := 9) [.string t.name] h0 fun b38 _ he38 _ h0 hx hb38 => ?_
      rw [← he38] at hn38
      try have hb44 := hb44.up hx
      have hb7 := hb7.up hx
      have hb9 := hb9.up hx
      have hb4 := hb4.up hx
      have hb5 := hb5.up hx
      have hR := hR.up hx
      have hsz := Nat.le_trans hsz hx.size
      have h59 := Nat.le_trans h59 hx.size
      refine RL.od hb9.at hb7.at ?_
      clear hx
      refine RD.one 5 ?_
      refine RL.app (L := strLay) (el := 9) (S := fun _ => True) (B := B) (ys := [t.name]) h0 hR.o.no (SliceOf.one hb38 ⟨trivial, hn38⟩ rfl) (by simp only [initR, List.length_map, List.length_take, List.length_cons, List.length_nil]; omega) hB0 hsz fun vo' _ h0 ho hg hv => ?_
      try have hb44 := hb44.grown hg hn44o
      have hb7 := hb7.grown hg (hR.o.ne' hb7B)
      have hb9 := hb9.grown hg (hn9o vo (.inl rfl))
      have hb4 := hb4.grown hg (hR.o.ne' (by omega))
      have hb5 := hb5.grown hg (hR.o.ne' (by omega))
      have hsz := Nat.le_trans hsz hg.size
      have h59 := Nat.le_trans h59 hg.size
      have hR := hR.growO hg ho.no hv
      refine RL.od hb9.at hb7.at ?_
      clear hv hg
      refine RD.one 11 ?_
      refine RL.app (L := strLay) (el := 9) (S := fun _ => True) (B := B) (ys := [t.name]) h0 hR.c.no (SliceOf.one hb44 ⟨trivial, hn44⟩ rfl) (by simp only [initR, List.length_map, List.length_take, List.length_cons, List.length_nil]; omega) hB0 hsz fun vc' _ h0 ho2 hg hv => ?_
      have hb7 := hb7.grown hg (hR.c.ne' hb7B)
      have hb9 := hb9.grown hg (hn9o vc (.inr (.inl rfl)))
      have hb4 := hb4.grown hg (hR.c.ne' (by omega))
      have hb5 := hb5.grown hg (hR.c.ne' (by omega))
      have hsz := Nat.le_trans hsz hg.size
      have h59 := Nat.le_trans h59 hg.size
      have hR := hR.growC hg ho2.no hv
      refine RL.od hb9.at hb7.at ?_
      clear hv hg
      have hS7 := hb7.at
      have hS9 := hb9.at
      refine RD.tm 12 ?_
      refine RD.one 13 ?_
      obtain ⟨oa, on, oc, rfl⟩ := ho.sh
      obtain ⟨ca', cn', cc', rfl⟩ := ho2.sh
      clear ho ho2
      refine RL.st h0 hb7 hle7 fun w13 h0 hbt hb7 => ?_
      have hb9 := hb9.but hbt hn79.symm
      have hb4 := hb4.but hbt (by omega)
      have hb5 := hb5.but hbt (by omega)
      have hR := hR.but hbt hb7B
      have hsz := Nat.le_trans hsz hbt.size
      have h59 := Nat.le_trans h59 hbt.size
      have hb7 : Box w13 b7 160 [.slice oa on oc, vc, vf] := hb7
      refine RL.ox hb9.at ?_
      clear hbt
      refine RD.on 14 hb9.at ?_
      refine RD.one 15 ?_
      refine RL.st h0 hb7 hle7 fun w14 h0 hbt hb7 => ?_
      have hb9 := hb9.but hbt hn79.symm
      have hb4 := hb4.but hbt (by omega)
      have hb5 := hb5.but hbt (by omega)
      have hR := hR.but hbt hb7B
      have hsz := Nat.le_trans hsz hbt.size
      have h59 := Nat.le_trans h59 hbt.size
      have hb7 : Box w14 b7 160 [.slice oa on oc, .slice ca' cn' cc', vf] := hb7
      refine RL.ox hb9.at ?_
      refine RD.done (RL.nil ?_)
      exact nextc (.slice oa on oc, .slice ca' cn' cc') _ _ ⟨h0, hb4, hb5, hb7, hb9, hR, hsz, h59⟩ sb
  clear hb4 hb5 hb7 hb9 hR hu8 h68 hs68
  rintro ⟨vo', vc'⟩ w9 ⟨hu9, hb4, hb5, hb7, hb9, hR, hB9, h69⟩
  simp only at hb7 hR ⊢
  have ha9 := hb9.at
  have hfv9 := hfv.up hu9
  repeat (first | refine RL.vv ?_ | refine RL.p ?_ | refine RL.nil ?_ | refine Sim.seq ?_ | refine Sim.region ?_ | refine Sim.block ?_ | refine Sim.skip ?_ | refine Sim.inBlock ?_ | refine Sim.exit rfl ?_ | refine Sim.condT rfl ?_ | refine Sim.condF rfl ?_)
  refine Sim.loop (σ := Nat × Value) (fun st => [(0, .slice (some ⟨tb, to, none⟩) l.length lc), (1, .slice ca cs.length cc), (4, .pointer (some ⟨b4, 0, none⟩)), (5, .pointer (some ⟨b5, 0, none⟩)), (7, .pointer (some ⟨b7, 0, none⟩)), (28, .slice (some ⟨tb, to, none⟩) l.length lc), (29, .int .i64 (l.length : Int)), (30, .int .i64 (i : Int)), (10, st.2), (49, .slice fa t.fields.length fc), (50, .int .i64 (t.fields.length : Int)), (51, .int .i64 (st.1 : Int))])
    (fun st w' => st.1 ≤ t.fields.length ∧ Up w9 w' ∧ Own strLay 9 w9.heap.size Nn w' st.2 ((t.fields.take st.1).map (·.name))) (fun st => t.fields.length - st.1) (0, .slice none 0 0) sb ⟨Nat.zero_le _, .refl _, Own.nil _ _ _ _ _⟩ ?_
  clear hb9 ha9
  rintro ⟨j, nv⟩ w10 ⟨hj, hu10, hN⟩ next2
  simp only at hj hN next2 ⊢
  obtain ⟨na, nn, nc, rfl⟩ := hN.sh
  by_cases hjl : j < t.fields.length
  · have hfj : t.fields[j]? = some t.fields[j] := List.getElem?_eq_getElem hjl
    obtain ⟨fb, fo, cs3, rfl, _, hfat, rfl, _⟩ := (hfv9.up hu10).at hfj
    have hfat : At w10 fb (fo + j * 3) _ := hfat
    have hnk : (t.fields.take (j + 1)).map (·.name) = (t.fields.take j).map (·.name) ++ [t.fields[j].name] := by rw [List.take_succ_eq_append_getElem hjl, List.map_append]; rfl
    generalize t.fields[j] = fj at *
    repeat (first | refine RL.vv ?_ | refine RL.p ?_ | refine RL.nil ?_ | refine Sim.seq ?_ | refine Sim.region ?_ | refine Sim.block ?_ | refine Sim.skip ?_ | refine Sim.inBlock ?_ | refine Sim.exit rfl ?_ | refine Sim.condT rfl ?_ | refine Sim.condF rfl ?_)
    refine RL.al hu10 fun b12 w11 he12 hle12 hu11 h1011 hb12 => ?_
    have hN0 := hN
    have hN := hN.up h1011
    repeat (first | refine RL.vv ?_ | refine RL.p ?_ | refine RL.nil ?_ | refine Sim.seq ?_ | refine Sim.region ?_ | refine Sim.block ?_ | refine Sim.skip ?_ | refine Sim.inBlock ?_ | refine Sim.exit rfl ?_ | refine Sim.condT rfl ?_ | refine Sim.condF rfl ?_)
    refine RL.st hu11 hb12 hle12 fun w12 hu12 hbt hb12 => ?_
    have hb12 : Box w12 b12 _ [.string fj.name, .int .i64 fj.kind, .string fj.type] := hb12
    have hN := hN.but hbt (fun _ h => h.elim) (fun g hg e => by have := (hN0.lt g hg).2; omega)
    have ha12 := hb12.at
    clear hfat
    repeat (first | refine RL.vv ?_ | refine RL.p ?_ | refine RL.nil ?_ | refine Sim.seq ?_ | refine Sim.region ?_ | refine Sim.block ?_ | refine Sim.skip ?_ | refine Sim.inBlock ?_ | refine Sim.exit rfl ?_ | refine Sim.condT rfl ?_ | refine Sim.condF rfl ?_)
    have hne := hN.ne (Nat.le_refl _)
    refine RL.bu (el := 9) [.string fj.name] hu12 fun b13 w13 he13 _ hu13 h1213 hb13 => ?_
    rw [← he13] at hne
    refine RL.app (L := strLay) (el := 9) (S := fun _ => True) (B := w9.heap.size) (ys := [fj.name]) hu13 (hN.up h1213).no (SliceOf.one hb13 ⟨trivial, hne⟩ rfl) (by simp only [List.length_map, List.length_take, List.length_cons, List.length_nil]; omega) (Nat.le_refl _) hu13.size fun nv2 w14 hu14 ho hg hv => ?_
    repeat (first | refine RL.vv ?_ | refine RL.p ?_ | refine RL.nil ?_ | refine Sim.seq ?_ | refine Sim.region ?_ | refine Sim.block ?_ | refine Sim.skip ?_ | refine Sim.inBlock ?_ | refine Sim.exit rfl ?_ | refine Sim.condT rfl ?_ | refine Sim.condF rfl ?_)
    refine next2 (j + 1, nv2) _ _ ⟨by simp only; omega, hu14, ?_⟩ (by simp only; omega) sb
    simp only
    rw [hnk]
    exact ho.no
  obtain rfl : j = t.fields.length := by omega
  clear next2
  rw [List.take_length] at hN
  have hb4 := hb4.up hu10
  have hb5 := hb5.up hu10
  have hb7 := hb7.up hu10
  have hRl := fun {j b g} => hR.lt (j := j) (b := b) (g := g)
  have hR := hR.up hu10
  have hs910 := hu10.size
  have ha7 := hb7.at
  obtain ⟨va, vn, vcc, rfl⟩ := hR.f.sh
  repeat (first | refine RL.vv ?_ | refine RL.p ?_ | refine RL.nil ?_ | refine Sim.seq ?_ | refine Sim.region ?_ | refine Sim.block ?_ | refine Sim.skip ?_ | refine Sim.inBlock ?_ | refine Sim.exit rfl ?_ | refine Sim.condT rfl ?_ | refine Sim.condF rfl ?_)
  have hne := hR.f.ne (Nat.le_refl _)
  refine RL.bu (el := 47) [.slice na nn nc] (hu9.trans hu10) fun b64 w11 he64 _ hu11 h1011 hb64 => ?_
  rw [← he64] at hne
  have hR11 := hR.up h1011
  have hs1011 := h1011.size
  refine RL.app (L := rawLay) (el := 47) (S := fun _ => True) (B := B) (ys := [.slice na nn nc]) hu11 hR11.f.no (SliceOf.one hb64 ⟨trivial, hne⟩ ⟨rfl, rfl⟩) (by have := hR.len; simp only [initR, List.length_map, List.length_take, List.length_cons, List.length_nil] at this ⊢; omega) hB0 (by omega) fun vf2 w12 hu12 ho hg hv => ?_
  have hR12 := hR11.growF ((hN.up h1011).base hB9) (fun g hg' b hb e => by
    obtain ⟨m, hm⟩ := List.getElem?_of_mem hb
    have h1 := hRl hm e
    have h2 := (hN.lt g hg').1
    omega) hg ho.no hv
  have hb4 := (hb4.up h1011).grown hg (hR11.f.ne' (by omega))
  have hb5 := (hb5.up h1011).grown hg (hR11.f.ne' (by omega))
  have hb7 := (hb7.up h1011).grown hg (hR11.f.ne' hb7B)
  have hs1112 := hg.size
  obtain ⟨fa2, fn2, fc2, rfl⟩ := ho.sh
  clear ha7 hg hv ho hb64 hR hR11
  repeat (first | refine RL.vv ?_ | refine RL.p ?_ | refine RL.nil ?_ | refine Sim.seq ?_ | refine Sim.region ?_ | refine Sim.block ?_ | refine Sim.skip ?_ | refine Sim.inBlock ?_ | refine Sim.exit rfl ?_ | refine Sim.condT rfl ?_ | refine Sim.condF rfl ?_)
  refine RL.st hu12 hb7 hle7 fun w13 hu13 hbt hb7 => ?_
  have hb4 := hb4.but hbt (by omega)
  have hb5 := hb5.but hbt (by omega)
  have hR := hR12.but hbt hb7B
  have hs1213 := hbt.size
  repeat (first | refine RL.vv ?_ | refine RL.p ?_ | refine RL.nil ?_ | refine Sim.seq ?_ | refine Sim.region ?_ | refine Sim.block ?_ | refine Sim.skip ?_ | refine Sim.inBlock ?_ | refine Sim.exit rfl ?_ | refine Sim.condT rfl ?_ | refine Sim.condF rfl ?_)
  refine next (i + 1, vo', vc', .slice fa2 fn2 fc2, hs ++ [.slice na nn nc]) _ _ ⟨by simp only; omega, hu13, by omega, hb4, hb5, hb7, ?_⟩ (by simp only; omega) sb
  simp only
  rw [htk]
  simp only [initR, List.map_append, List.map_cons, List.map_nil] at hR ⊢
  exact hR
end Go.Proofs.Ytgckpmcdlciibac

namespace Go.Proofs.Ytgckpmcdlciibac
open Go.RowKit
set_option maxHeartbeats 4000000 in
theorem RTypes_any {S S2 : Nat → Prop} {lv vo vc vf : Value} {qb : Nat} {l : List Typ} {s : RSn} (w : World) (hq : At w qb 0 [vo, vc, vf]) (hs : RsSl S w vo vc vf s) (hl : SliceOf typLay S2 w lv l) (ht : Traced l s) (hr : Right l) :
    Calls Try.prog 77 #[.pointer (some ⟨qb, 0, none⟩), lv] w fun en w' => ∃ tv ov, en = .returned (.tuple #[tv, ov]) ∧ Up w w' ∧ SliceOf typLay (fun b => w.heap.size ≤ b) w' tv ((viewR l s).map (·.type)) ∧ SliceOf strLay.slice (fun b => w.heap.size ≤ b) w' ov ((viewR l s).map (·.fields)) := by
  refine calls_of_sim Try.func77 rfl (Nat.le_of_ble_eq_true rfl) ?_
  obtain ⟨la, lc, rfl, hlnc, hlcm, _⟩ := id hl
  unfold maxLen at hlcm
  obtain ⟨oa, oc, rfl, _⟩ := id hs.o
  obtain ⟨ca, cc, rfl, _⟩ := id hs.c
  obtain ⟨fa0, fc0, rfl, _⟩ := id hs.f
  have hcl := ht.called
  have hfl := ht.flen
  have hl8 := hr.len
  repeat (first | refine RL.vv ?_ | refine RL.p ?_ | refine RL.nil ?_ | refine Sim.seq ?_ | refine Sim.region ?_ | refine Sim.block ?_ | refine Sim.skip ?_ | refine Sim.inBlock ?_ | refine Sim.exit rfl ?_ | refine Sim.condT rfl ?_ | refine Sim.condF rfl ?_)
  refine Sim.loop (σ := Nat × Value × Value) (fun st => [(0, .pointer (some ⟨qb, 0, none⟩)), (6, st.2.1), (7, st.2.2), (15, .slice la l.length lc), (16, .int .i64 (l.length : Int)), (17, .int .i64 (st.1 : Int))])
    (fun st w' => st.1 ≤ l.length ∧ Up w w' ∧ Duo typLay 57 strLay.slice 47 w.heap.size w' st.2.1 st.2.2 (((viewR l s).take st.1).map (·.type)) (((viewR l s).take st.1).map (·.fields))) (fun st => l.length - st.1) (0, .slice none 0 0, .slice none 0 0) sb ⟨Nat.zero_le _, .refl _, Duo.nil⟩ ?_
  rintro ⟨i, tv, ov⟩ w1 ⟨hi, hu, hd⟩ next
  simp only at hi hd next ⊢
  by_cases hlt : i < l.length
  rotate_left
  · have : i = l.length := by omega
    subst this
    rw [← view_len (l := l) (s := s), List.take_length] at hd
    repeat (first | refine RL.vv ?_ | refine RL.p ?_ | refine RL.nil ?_ | refine Sim.seq ?_ | refine Sim.region ?_ | refine Sim.block ?_ | refine Sim.skip ?_ | refine Sim.inBlock ?_ | refine Sim.exit rfl ?_ | refine Sim.condT rfl ?_ | refine Sim.condF rfl ?_)
    exact Sim.ret2 Try.func77 rfl rfl rfl ⟨_, _, rfl, hu, hd.fst.sl (fun b hb _ _ => hb.1) fun g hg => (hd.fst.lt g hg).1, hd.snd.sl (fun b hb _ _ => hb.1) fun g hg => (hd.snd.lt g hg).1⟩
  have hx : l[i]? = some l[i] := List.getElem?_eq_getElem hlt
  obtain ⟨tb, to, cs2, rfl, _, htat, ⟨fv, rfl, hfv⟩, _⟩ := hl.at hx
  have htat : At w tb (to + i * 2) _ := htat
  have htat := htat.up hu
  have hqat := hq.up hu
  have hcx : s.called[i]? = some (s.called.getD i ⟨#[]⟩) := by
    have hil : i < s.called.length := by omega
    rw [List.getD, List.getElem?_eq_getElem hil]
    rfl
  obtain ⟨cb, co, cs, rfl, _, hcat, rfl, _⟩ := hs.c.at hcx
  have hcatw : At w cb (co + i * 1) _ := hcat
  have hcat := hcatw.up hu
  obtain ⟨ns, hns⟩ : ∃ ns, s.fields[i]? = some ns := ⟨_, List.getElem?_eq_getElem (by omega)⟩
  have hnl := ht.each i l[i] ns hx hns
  obtain ⟨fb0, fo0, cs, rfl, _, hfat0, ⟨nv, rfl, hnv⟩, _⟩ := hs.f.at hns
  have hfatw : At w fb0 (fo0 + i * 1) _ := hfat0
  have hfat0 := hfatw.up hu
  obtain ⟨na, nc, rfl, _⟩ := id hnv
  have hvi : (viewR l s).take (i + 1) = (viewR l s).take i ++ [snAt s i l[i]] := by
    have hvl : i < (viewR l s).length := by rw [view_len]; exact hlt
    rw [List.take_succ_eq_append_getElem hvl]
    have : (viewR l s)[i]? = some (snAt s i l[i]) := by rw [view_get, hx]; rfl
    rw [List.getElem?_eq_getElem hvl] at this
    rw [Option.some.inj this]
  have hfr := hr.fields l[i] (List.getElem_mem hlt)
  have hcalled : s.called.length = l.length := hcl
  have hic : i < s.called.length := by omega
  have hif : i < s.fields.length := by omega
  have hfs : fldsR s i l[i] = (l[i].fields.zip ns).filterMap (fldR s.own s.called) := by unfold fldsR; rw [getD_at hns]
  have hview : snAt s i l[i] = ⟨⟨s.called.getD i ⟨#[]⟩, (fldsR s i l[i]).map (·.1)⟩, l[i].name, (fldsR s i l[i]).map (·.2)⟩ := rfl
  generalize hnm : s.called.getD i ⟨#[]⟩ = nm at *
  generalize l[i] = t at *
  obtain ⟨fa, fc, rfl, _, _, _⟩ := id hfv
  repeat (first | refine RL.vv ?_ | refine RL.p ?_ | refine RL.nil ?_ | refine Sim.seq ?_ | refine Sim.region ?_ | refine Sim.block ?_ | refine Sim.skip ?_ | refine Sim.inBlock ?_ | refine Sim.exit rfl ?_ | refine Sim.condT rfl ?_ | refine Sim.condF rfl ?_)
  refine RL.al (.refl w1) fun b9 w2 he9 hle9 h12 _ hb9 => ?_
  repeat (first | refine RL.vv ?_ | refine RL.p ?_ | refine RL.nil ?_ | refine Sim.seq ?_ | refine Sim.region ?_ | refine Sim.block ?_ | refine Sim.skip ?_ | refine Sim.inBlock ?_ | refine Sim.exit rfl ?_ | refine Sim.condT rfl ?_ | refine Sim.condF rfl ?_)
  refine RL.st h12 hb9 hle9 fun w3 h13 hbt hb9 => ?_
  have hb9 : Box w3 b9 57 [.string t.name, .slice fa t.fields.length fc] := hb9
  have ha9 := hb9.at
  have htat := htat.up h13
  have hqat := hqat.up h13
  have hcat := hcat.up h13
  have hfat0 := hfat0.up h13
  clear h12 hbt
  repeat (first | refine RL.vv ?_ | refine RL.p ?_ | refine RL.nil ?_ | refine Sim.seq ?_ | refine Sim.region ?_ | refine Sim.block ?_ | refine Sim.skip ?_ | refine Sim.inBlock ?_ | refine Sim.exit rfl ?_ | refine Sim.condT rfl ?_ | refine Sim.condF rfl ?_)
  refine RL.val trivial rfl (y_build (v := .agg #[.string nm, .slice none 0 0]) rfl (fun w => by kernel_rfl)) ?_
  refine RL.al h13 fun b10 w4 he10 hle10 h14 h34 hb10 => ?_
  repeat (first | refine RL.vv ?_ | refine RL.p ?_ | refine RL.nil ?_ | refine Sim.seq ?_ | refine Sim.region ?_ | refine Sim.block ?_ | refine Sim.skip ?_ | refine Sim.inBlock ?_ | refine Sim.exit rfl ?_ | refine Sim.condT rfl ?_ | refine Sim.condF rfl ?_)
  refine RL.st h14 hb10 hle10 fun w5 h15 hbt hb10 => ?_
  have hb10 : Box w5 b10 57 [.string nm, .slice none 0 0] := hb10
  have h35 : Up w3 w5 := Up.but h34 hbt (Nat.le_of_eq he10.symm)
  have ha9 := ha9.up h35
  have hqat := hqat.up h35
  have hcat := hcat.up h35
  have hfat0 := hfat0.up h35
  have hl10 := hb10.lt
  have hs15 := h15.size
  have hsw := hu.size
  clear hbt h34 h14 htat
  repeat (first | refine RL.vv ?_ | refine RL.p ?_ | refine RL.nil ?_ | refine Sim.seq ?_ | refine Sim.region ?_ | refine Sim.block ?_ | refine Sim.skip ?_ | refine Sim.inBlock ?_ | refine Sim.exit rfl ?_ | refine Sim.condT rfl ?_ | refine Sim.condF rfl ?_)
  have hlz : (t.fields.zip ns).length = t.fields.length := by rw [List.length_zip]; omega
  have hfl10 := hfr.len
  have hd0 : Duo fldLay 68 strLay 9 w5.heap.size w5 (.slice none 0 0) (.slice none 0 0) [] [] := Duo.nil
  refine Sim.loop (σ := Nat × Value × Value) (fun st => [(0, .pointer (some ⟨qb, 0, none⟩)), (6, tv), (7, ov), (8, .int .i64 (i : Int)), (10, .pointer (some ⟨b10, 0, none⟩)), (11, st.2.2), (15, .slice (some ⟨tb, to, none⟩) l.length lc), (16, .int .i64 (l.length : Int)), (17, .int .i64 (i : Int)), (31, .slice fa t.fields.length fc), (32, .int .i64 (t.fields.length : Int)), (33, .int .i64 (st.1 : Int))])
    (fun st w' => st.1 ≤ t.fields.length ∧ Up w1 w' ∧ w5.heap.size ≤ w'.heap.size ∧ Box w' b10 57 [.string nm, st.2.1] ∧ Duo fldLay 68 strLay 9 w5.heap.size w' st.2.1 st.2.2 ((((t.fields.zip ns).take st.1).filterMap (fldR s.own s.called)).map (·.1)) ((((t.fields.zip ns).take st.1).filterMap (fldR s.own s.called)).map (·.2))) (fun st => t.fields.length - st.1) (0, .slice none 0 0, .slice none 0 0) sb ⟨Nat.zero_le _, h15, Nat.le_refl _, hb10, hd0⟩ ?_
  clear hb10 hd0 h15 ha9 hb9 h35 h13 hqat hcat hfat0
  have hdold : ∀ g, (some g = tv.ownBlock ∨ some g = ov.ownBlock) → g < w1.heap.size := fun g hg => hg.elim (fun e => (hd.fst.lt g e.symm).2) fun e => (hd.snd.lt g e.symm).2
  rintro ⟨j, fv, nv2⟩ w6 ⟨hj, h16, hs56, hb10, hdi⟩ next2
  simp only at hj hb10 hdi next2 ⊢
  obtain ⟨f1, f2, f3, rfl⟩ := hdi.fst.sh
  obtain ⟨n1, n2, n3, rfl⟩ := hdi.snd.sh
  by_cases hjl : j < t.fields.length
  · have hu6 := hu.trans h16
    have hfj : t.fields[j]? = some t.fields[j] := List.getElem?_eq_getElem hjl
    obtain ⟨fb, fo, cs3, rfl, _, hfjat, rfl, _⟩ := (hfv.up hu6).at hfj
    have hfjat : At w6 fb (fo + j * 3) _ := hfjat
    have hnj : ns[j]? = some ns[j] := List.getElem?_eq_getElem (by omega)
    obtain ⟨nb, no, cs4, rfl, _, hnjat, rfl, _⟩ := (hnv.up hu6).at hnj
    have hnjat : At w6 nb (no + j * 1) _ := hnjat
    have hqat := hq.up hu6
    have hfat0 := hfatw.up hu6
    have hzj : (t.fields.zip ns).take (j + 1) = (t.fields.zip ns).take j ++ [(t.fields[j], ns[j])] := by
      rw [List.take_succ_eq_append_getElem (by omega), List.getElem_zip]
    have hfe := hfr.each t.fields[j] (List.getElem_mem hjl)
    have hjn : j < ns.length := by omega
    generalize t.fields[j] = f at *
    generalize ns[j] = n at *
    repeat (first | refine RL.vv ?_ | refine RL.p ?_ | refine RL.nil ?_ | refine Sim.seq ?_ | refine Sim.region ?_ | refine Sim.block ?_ | refine Sim.skip ?_ | refine Sim.inBlock ?_ | refine Sim.exit rfl ?_ | refine Sim.condT rfl ?_ | refine Sim.condF rfl ?_)
    refine RL.al h16 fun b13 w7 he13 hle13 h17 h67 hb13 => ?_
    have hdi13 : ∀ x : Value, x = .slice f1 f2 f3 ∨ x = .slice n1 n2 n3 → some b13 ≠ x.ownBlock := fun x hx => by
      rcases hx with rfl | rfl
      · exact hdi.fst.ne (Nat.le_of_eq he13.symm)
      · exact hdi.snd.ne (Nat.le_of_eq he13.symm)
    repeat (first | refine RL.vv ?_ | refine RL.p ?_ | refine RL.nil ?_ | refine Sim.seq ?_ | refine Sim.region ?_ | refine Sim.block ?_ | refine Sim.skip ?_ | refine Sim.inBlock ?_ | refine Sim.exit rfl ?_ | refine Sim.condT rfl ?_ | refine Sim.condF rfl ?_)
    refine RL.st h17 hb13 hle13 fun w8 h18 hbt hb13 => ?_
    have hb13 : Box w8 b13 68 [.string f.name, .int .i64 f.kind, .string f.type] := hb13
    have h68 : Up w6 w8 := Up.but h67 hbt (Nat.le_of_eq he13.symm)
    have ha13 := hb13.at
    have hnjat := hnjat.up h68
    have hqat := hqat.up h68
    have hfat0 := hfat0.up h68
    have hb10 := hb10.up h68
    have hdi := hdi.up h68
    have hs68 := h68.size
    have hl13 := hb13.lt
    clear hbt h67 h17 hfjat
    by_cases hn0 : n = ⟨#[]⟩
    · have hz0 : fldR s.own s.called (f, n) = none := by simp [fldR, hn0]
      repeat (first | refine RL.vv ?_ | refine RL.p ?_ | refine RL.nil ?_ | refine Sim.seq ?_ | refine Sim.region ?_ | refine Sim.block ?_ | refine Sim.skip ?_ | refine Sim.inBlock ?_ | refine Sim.exit rfl ?_ | refine Sim.condT rfl ?_ | refine Sim.condF rfl ?_)
      exact next2 (j + 1, .slice f1 f2 f3, .slice n1 n2 n3) _ _ ⟨by simp only; omega, h18, by omega, hb10, by simp only; rw [hzj, List.filterMap_append]; simpa [List.filterMap_cons, hz0] using hdi⟩ (by simp only; omega) sb
    have hz1 := fldR_at (own := s.own) (called := s.called) (f := f) hn0
    generalize hT : (if f.kind = 1 then (⟨#[]⟩ : Str) else s.called.getD (strAt s.own f.type).toNat ⟨#[]⟩) = T at *
    repeat (first | refine RL.vv ?_ | refine RL.p ?_ | refine RL.nil ?_ | refine Sim.seq ?_ | refine Sim.region ?_ | refine Sim.block ?_ | refine Sim.skip ?_ | refine Sim.inBlock ?_ | refine Sim.exit rfl ?_ | refine Sim.condT rfl ?_ | refine Sim.condF rfl ?_)
    refine Sim.ord (Up w8) ?_
    have hS : Up w8 w8.drew := Up.drew w8
    refine RO.tk 0 ?_
    refine RO.tk 1 ?_
    refine RO.tk 2 ?_
    refine RO.tk 3 ?_
    refine RO.tk 4 ?_
    refine RO.tk 5 ?_
    refine RO.tk 6 ?_
    refine RO.tk 7 ?_
    refine RO.tk 8 ?_
    refine RO.tk 9 ?_
    refine RO.tk 10 ?_
    refine RO.tk 11 ?_
    refine RO.tk 12 ?_ (hy := fun wq hq => y_build (v := .agg #[.string n, .int .i64 f.kind, .string ⟨#[]⟩]) rfl (fun w => by kernel_rfl))
    refine RO.one 13 ?_
    refine RL.al hS fun b14 w9 he14 hle14 hS9 _ hb14 => ?_
    refine RL.ord hS9 ?_
    refine RO.one 14 ?_
    refine RL.st hS9 hb14 hle14 fun w10 hS10 _ hb14 => ?_
    have hb14 : Box w10 b14 68 [.string n, .int .i64 f.kind, .string ⟨#[]⟩] := hb14
    refine RL.ord hS10 ?_
    refine RO.done (RL.nil ?_)
    clear hS hS9
    refine Sim.seq ?_
    refine Sim.cutX (σ := Unit) (fun _ => [(0, .pointer (some ⟨qb, 0, none⟩)), (6, tv), (7, ov), (8, .int .i64 (i : Int)), (10, .pointer (some ⟨b10, 0, none⟩)), (11, .slice n1 n2 n3), (13, .pointer (some ⟨b13, 0, none⟩)), (14, .pointer (some ⟨b14, 0, none⟩)), (15, .slice (some ⟨tb, to, none⟩) l.length lc), (16, .int .i64 (l.length : Int)), (17, .int .i64 (i : Int)), (31, .slice (some ⟨fb, fo, none⟩) t.fields.length fc), (32, .int .i64 (t.fields.length : Int)), (33, .int .i64 (j : Int))])
      (fun _ w' => Up w8 w' ∧ Box w' b14 68 [.string n, .int .i64 f.kind, .string T]) (fun k' nextc => ?_) ?_
    · have ha13' := ha13.up hS10
      by_cases hk1 : f.kind = 1
      · rw [if_pos hk1] at hT
        have hk1' : ¬ ¬ f.kind = 1 := fun h => h hk1
        repeat (first | refine RL.vv ?_ | refine RL.p ?_ | refine RL.nil ?_ | refine Sim.seq ?_ | refine Sim.region ?_ | refine Sim.block ?_ | refine Sim.skip ?_ | refine Sim.inBlock ?_ | refine Sim.exit rfl ?_ | refine Sim.condT rfl ?_ | refine Sim.condF rfl ?_)
        exact nextc () _ _ ⟨hS10, by rw [← hT]; exact hb14⟩ sb
      · rw [if_neg hk1] at hT
        obtain ⟨m, hm, hmg⟩ := strAt_get (l := s.own) (s := f.type) (strAt_in.2 (by rw [ht.own]; exact hfe.2.2.2.2 hk1))
        have hml : m < s.called.length := by
          have := (List.getElem?_eq_some_iff.1 hmg).1
          rw [ht.own, List.length_map] at this
          omega
        have hmc : s.called[m]? = some T := by
          rw [hm, Int.toNat_natCast, List.getD, List.getElem?_eq_getElem hml] at hT
          rw [List.getElem?_eq_getElem hml, ← hT]
          rfl
        obtain ⟨cb', co', cs, ec, _, hcm, rfl, _⟩ := hs.c.at hmc
        cases ec
        have hcm : At w cb (co + m * 1) _ := hcm
        have hcm := hcm.up (hu6.trans h68)
        repeat (first | refine RL.vv ?_ | refine RL.p ?_ | refine RL.nil ?_ | refine Sim.seq ?_ | refine Sim.region ?_ | refine Sim.block ?_ | refine Sim.skip ?_ | refine Sim.inBlock ?_ | refine Sim.exit rfl ?_ | refine Sim.condT rfl ?_ | refine Sim.condF rfl ?_)
        refine Sim.ord (Up w8) ?_
        have hS : Up w8 w10.drew := hS10.trans (Up.drew _)
        refine RO.tk 0 ?_
        refine RO.tk 1 ?_
        refine RO.tk 2 ?_
        refine RO.tk 3 ?_
        refine RO.tk 4 ?_
        refine RO.tk 5 ?_
        refine RO.tk 6 ?_
        refine RO.tk 7 ?_
        refine RO.tk 8 ?_
        refine RO.tk 9 ?_
        refine RO.one 10 ?_
        refine RL.cs (v := .int .i64 (m : Int)) (by rw [← hm]; exact place_any f.type _ ((hs.o.up (hu6.trans h68)).up hS)) ?_
        refine RL.ord hS ?_
        refine RO.tk 11 ?_ (hy := fun wq hq => y_indexAddr (i := m) (k := 1) rfl rfl hml)
        refine RO.tk 12 ?_
        refine RO.tk 13 ?_
        refine RO.one 14 ?_
        refine RL.st hS (hb14.up (Up.drew _)) hle14 fun w11 hS11 _ hb14 => ?_
        refine RL.ord hS11 ?_
        refine RO.done (RL.nil ?_)
        repeat (first | refine RL.vv ?_ | refine RL.p ?_ | refine RL.nil ?_ | refine Sim.seq ?_ | refine Sim.region ?_ | refine Sim.block ?_ | refine Sim.skip ?_ | refine Sim.inBlock ?_ | refine Sim.exit rfl ?_ | refine Sim.condT rfl ?_ | refine Sim.condF rfl ?_)
        exact nextc () _ _ ⟨hS11, hb14⟩ sb
    clear hS10 hb14
    rintro _ w11 ⟨h811, hb14⟩
    have hb10 := hb10.up h811
    have ha10 := hb10.at
    have ha14 := hb14.at
    have ha13 := ha13.up h811
    have hdi := hdi.up h811
    have h111 := h18.trans h811
    have hs811 := h811.size
    clear hqat hfat0 hnjat
    repeat (first | refine RL.vv ?_ | refine RL.p ?_ | refine RL.nil ?_ | refine Sim.seq ?_ | refine Sim.region ?_ | refine Sim.block ?_ | refine Sim.skip ?_ | refine Sim.inBlock ?_ | refine Sim.exit rfl ?_ | refine Sim.condT rfl ?_ | refine Sim.condF rfl ?_)
    have hne := hdi.fst.ne (Nat.le_refl _)
    refine RL.bu (el := 68) [.string n, .int .i64 f.kind, .string T] h111 fun b82 w12 he82 _ h112 hx hb82 => ?_
    rw [← he82] at hne
    have hb10 := hb10.up hx
    have ha13 := ha13.up hx
    have hdi := hdi.up hx
    have hs1112 := hx.size
    refine RL.app (L := fldLay) (el := 68) (S := fun _ => True) (B := w5.heap.size) (ys := [⟨n, f.kind, T⟩]) h112 hdi.fst.no (SliceOf.one hb82 ⟨trivial, hne⟩ rfl) (by have := List.length_filterMap_le (fldR s.own s.called) ((t.fields.zip ns).take j); rw [List.length_take] at this; simp only [List.length_map, List.length_cons, List.length_nil]; omega) hs15 (by omega) fun fv2 w13 h113 ho hg hv => ?_
    have hb10 := hb10.grown hg (hdi.fst.ne' hl10)
    have ha13 := ha13.keep (Grown.keep hg) (hdi13 (.slice f1 f2 f3) (.inl rfl))
    have hdi := hdi.step hg ho.no hv
    have hs1213 := hg.size
    obtain ⟨g1, g2, g3, rfl⟩ := ho.sh
    clear hg hv ho hb82 hx ha10 ha14
    repeat (first | refine RL.vv ?_ | refine RL.p ?_ | refine RL.nil ?_ | refine Sim.seq ?_ | refine Sim.region ?_ | refine Sim.block ?_ | refine Sim.skip ?_ | refine Sim.inBlock ?_ | refine Sim.exit rfl ?_ | refine Sim.condT rfl ?_ | refine Sim.condF rfl ?_)
    refine RL.st h113 hb10 (by omega) fun w14 h114 hbt hb10 => ?_
    have ha13 := ha13.keep hbt.keep (show b13 ≠ b10 by omega)
    have hdi := hdi.but hbt hl10
    have hs1314 := hbt.size
    clear hbt
    repeat (first | refine RL.vv ?_ | refine RL.p ?_ | refine RL.nil ?_ | refine Sim.seq ?_ | refine Sim.region ?_ | refine Sim.block ?_ | refine Sim.skip ?_ | refine Sim.inBlock ?_ | refine Sim.exit rfl ?_ | refine Sim.condT rfl ?_ | refine Sim.condF rfl ?_)
    have hne := hdi.snd.ne (Nat.le_refl _)
    refine RL.bu (el := 9) [.string f.name] h114 fun b88 w15 he88 _ h115 hx hb88 => ?_
    rw [← he88] at hne
    have hb10 := hb10.up hx
    have hdi := hdi.up hx
    have hs1415 := hx.size
    refine RL.app (L := strLay) (el := 9) (S := fun _ => True) (B := w5.heap.size) (ys := [f.name]) h115 hdi.snd.no (SliceOf.one hb88 ⟨trivial, hne⟩ rfl) (by have := List.length_filterMap_le (fldR s.own s.called) ((t.fields.zip ns).take j); rw [List.length_take] at this; simp only [List.length_map, List.length_cons, List.length_nil]; omega) hs15 (by omega) fun nv3 w16 h116 ho hg hv => ?_
    have hb10 := hb10.grown hg (hdi.snd.ne' hl10)
    have hdi := (hdi.symm.step hg ho.no hv).symm
    have hs1516 := hg.size
    clear hg hv ho hb88 hx
    repeat (first | refine RL.vv ?_ | refine RL.p ?_ | refine RL.nil ?_ | refine Sim.seq ?_ | refine Sim.region ?_ | refine Sim.block ?_ | refine Sim.skip ?_ | refine Sim.inBlock ?_ | refine Sim.exit rfl ?_ | refine Sim.condT rfl ?_ | refine Sim.condF rfl ?_)
    refine next2 (j + 1, .slice g1 g2 g3, nv3) _ _ ⟨by simp only; omega, h116, by omega, hb10, ?_⟩ (by simp only; omega) sb
    simp only
    rw [hzj, List.filterMap_append, List.map_append, List.map_append]
    simp only [List.filterMap_cons, hz1, List.filterMap_nil, List.map_cons, List.map_nil]
    exact hdi
  obtain rfl : j = t.fields.length := by omega
  clear next2
  rw [← hlz, List.take_length, ← hfs] at hdi
  have ha10 := hb10.at
  have hd := hd.up h16
  have hd1 : ∀ g, (some g = tv.ownBlock ∨ some g = ov.ownBlock) → g < w1.heap.size := hdold
  have hs16 := h16.size
  have hsl1 := (hdi.fst.no (S' := Nn)).full
  have hsl2 : SliceOf strLay (fun b => w5.heap.size ≤ b ∧ b < w6.heap.size) w6 (.slice n1 n2 n3) ((fldsR s i t).map (·.2)) := (hdi.snd.no (S' := Nn)).sl (fun _ h _ _ => h.elim) fun g hg => hdi.snd.lt g hg
  repeat (first | refine RL.vv ?_ | refine RL.p ?_ | refine RL.nil ?_ | refine Sim.seq ?_ | refine Sim.region ?_ | refine Sim.block ?_ | refine Sim.skip ?_ | refine Sim.inBlock ?_ | refine Sim.exit rfl ?_ | refine Sim.condT rfl ?_ | refine Sim.condF rfl ?_)
  have hne := hd.fst.ne (Nat.le_refl _)
  have hneo := hd.snd.ne (Nat.le_refl _)
  refine RL.bu (el := 57) [.string nm, .slice f1 f2 f3] (hu.trans h16) fun b93 w7 he93 _ hu7 h67 hb93 => ?_
  rw [← he93] at hne hneo
  have hd := hd.up h67
  have hsl1 := hsl1.up h67
  have hsl2 := hsl2.up h67
  have hs67 := h67.size
  have hvl : ((viewR l s).take i).length ≤ 8 := by rw [List.length_take, view_len]; omega
  refine RL.app (L := typLay) (el := 57) (S := fun b => w.heap.size ≤ b ∧ some b ≠ ov.ownBlock) (B := w.heap.size) (ys := [⟨nm, (fldsR s i t).map (·.1)⟩]) hu7 hd.fst (SliceOf.one hb93 ⟨⟨by omega, hneo⟩, hne⟩ ⟨_, rfl, hsl1.mono fun b hb => ⟨⟨by omega, fun e => by have := hd1 b (.inr e); omega⟩, fun e => by have := hd1 b (.inl e); omega⟩⟩) (by simp only [List.length_map, List.length_cons, List.length_nil]; omega) (Nat.le_refl _) (by omega) fun tv2 w8 hu8 ho hg hv => ?_
  have hsl2 := hsl2.grown hg fun b hb e => by have := hd1 b (.inl e); have := hb.1; omega
  have hd := hd.step hg ho hv
  have hs78 := hg.size
  have htv2 : ∀ g, tv2.ownBlock = some g → g < w1.heap.size ∨ g = w7.heap.size := fun g hg' => (hv g hg').imp (fun e => hd1 g (.inl e.symm)) id
  have hb7lt : ∀ b, w5.heap.size ≤ b → b < w6.heap.size → some b ≠ tv2.ownBlock := fun b hb hb' e => by rcases htv2 b e.symm with h | h <;> omega
  clear hv hg hb93 hsl1 ha10
  repeat (first | refine RL.vv ?_ | refine RL.p ?_ | refine RL.nil ?_ | refine Sim.seq ?_ | refine Sim.region ?_ | refine Sim.block ?_ | refine Sim.skip ?_ | refine Sim.inBlock ?_ | refine Sim.exit rfl ?_ | refine Sim.condT rfl ?_ | refine Sim.condF rfl ?_)
  have hne := hd.snd.ne (Nat.le_refl _)
  have hneo := hd.fst.ne (Nat.le_refl _)
  refine RL.bu (el := 47) [.slice n1 n2 n3] hu8 fun b97 w9 he97 _ hu9 h89 hb97 => ?_
  rw [← he97] at hne hneo
  have hd := hd.up h89
  have hsl2 := hsl2.up h89
  have hs89 := h89.size
  refine RL.app (L := strLay.slice) (el := 47) (S := fun b => w.heap.size ≤ b ∧ some b ≠ tv2.ownBlock) (B := w.heap.size) (ys := [(fldsR s i t).map (·.2)]) hu9 hd.snd (SliceOf.one hb97 ⟨⟨by omega, hneo⟩, hne⟩ ⟨_, rfl, hsl2.mono fun b hb => ⟨⟨by have := hb.1; omega, hb7lt b hb.1 hb.2⟩, fun e => by have := hd1 b (.inr e); have := hb.1; omega⟩⟩) (by simp only [List.length_map, List.length_cons, List.length_nil]; omega) (Nat.le_refl _) (by omega) fun ov2 w10 hu10 ho2 hg hv => ?_
  have hd := (hd.symm.step hg ho2 hv).symm
  repeat (first | refine RL.vv ?_ | refine RL.p ?_ | refine RL.nil ?_ | refine Sim.seq ?_ | refine Sim.region ?_ | refine Sim.block ?_ | refine Sim.skip ?_ | refine Sim.inBlock ?_ | refine Sim.exit rfl ?_ | refine Sim.condT rfl ?_ | refine Sim.condF rfl ?_)
  refine next (i + 1, tv2, ov2) _ _ ⟨by simp only; omega, hu10, ?_⟩ (by simp only; omega) sb
  simp only
  rw [hvi, List.map_append, List.map_append, hview]
  exact hd
end Go.Proofs.Ytgckpmcdlciibac
