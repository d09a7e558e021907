/- Contracts of chapter 2: a type called otherwise, wherever it is named. -/
import Derived.Test.YtgckpmcdlciibaaC31
namespace Go.Proofs.Ytgckpmcdlciibaa
open Go.RowKit
theorem set_same {α : Type} {l : List α} {i : Nat} {a : α} (h : l[i]? = some a) : l.set i a = l := by
  obtain ⟨h1, rfl⟩ := List.getElem?_eq_some_iff.1 h
  simp
theorem mid_get {α : Type} (A C : List α) (x : α) : (A ++ x :: C)[A.length]? = some x := by simp
theorem mid_set {α : Type} (A C : List α) (x y : α) : (A ++ x :: C).set A.length y = A ++ y :: C := by simp
/-- the first j fields turned -/
def partS (frm to : Str) (j : Nat) (s : Sn) : Sn := { s with type := { s.type with fields := (s.type.fields.take j).map (reF frm to) ++ s.type.fields.drop j } }
theorem partS_zero (frm to : Str) (s : Sn) : partS frm to 0 s = s := by simp [partS]
theorem partS_all (frm to : Str) (s : Sn) : partS frm to s.type.fields.length s = reS frm to s := by simp [partS, reS]
theorem part_get (frm to : Str) (s : Sn) {j : Nat} (hj : j < s.type.fields.length) : (partS frm to j s).type.fields[j]? = some s.type.fields[j] := by
  have hl : ((s.type.fields.take j).map (reF frm to)).length = j := by simp; omega
  simp only [partS]
  rw [List.drop_eq_getElem_cons hj]
  have := mid_get ((s.type.fields.take j).map (reF frm to)) (s.type.fields.drop (j + 1)) s.type.fields[j]
  rwa [hl] at this
theorem part_len (frm to : Str) (s : Sn) {j : Nat} (hj : j < s.type.fields.length) : (partS frm to j s).type.fields.length = s.type.fields.length := by
  simp [partS]
  omega
theorem part_set (frm to : Str) (s : Sn) {j : Nat} (hj : j < s.type.fields.length) : { partS frm to j s with type := { (partS frm to j s).type with fields := (partS frm to j s).type.fields.set j (reF frm to s.type.fields[j]) } } = partS frm to (j + 1) s := by
  have hl : ((s.type.fields.take j).map (reF frm to)).length = j := by simp; omega
  have := mid_set ((s.type.fields.take j).map (reF frm to)) (s.type.fields.drop (j + 1)) s.type.fields[j] (reF frm to s.type.fields[j])
  rw [hl] at this
  simp only [partS]
  rw [List.drop_eq_getElem_cons hj, this, List.take_succ_eq_append_getElem hj, List.map_append, List.append_assoc]
  rfl
theorem part_same (frm to : Str) (s : Sn) {j : Nat} (hj : j < s.type.fields.length) (h : reF frm to s.type.fields[j] = s.type.fields[j]) : partS frm to (j + 1) s = partS frm to j s := by
  simp only [partS]
  rw [List.drop_eq_getElem_cons hj, List.take_succ_eq_append_getElem hj, List.map_append, List.append_assoc, List.map_cons, h]
  rfl
set_option maxHeartbeats 2000000 in
theorem vcall_any {B : Nat} {v : Value} {hds : List Hd} {sns : List Sn} {lab : Nat → Nat} {k : Nat} {s : Sn} (to : Str) (w : World) (h : ViewAt B w v hds sns lab) (hs : sns[k]? = some s) :
    Calls Try.prog 105 #[v, .int .i64 (k : Int), .string to] w fun en w' => en = .returned (.tuple #[]) ∧ Below B w w' ∧ ∃ hds', ViewAt B w' v hds' (callV sns k to) lab := by
  refine calls_of_sim Try.func105 rfl (Nat.le_of_ble_eq_true rfl) ?_
  obtain ⟨a, ha⟩ := h.hd hs
  obtain ⟨g, c, cs, rfl, hat, ⟨rfl, hc1, hc2⟩, hlt, hnc, hcm⟩ := h.row.get ha
  have hat : At w g (0 + k * 4) _ := hat
  obtain ⟨hn1, hn2⟩ := h.name k a s ha hs
  have hlen := h.len
  have hgB := (h.row.lt g rfl).1
  have hg0 := h.own0 g rfl
  unfold maxLen at hcm
  have hcv : callV sns k to = (sns.set k (nameS to s)).map (reS s.type.name to) := by
    unfold callV
    rw [hs]
  rw [hcv, ← hn1]
  repeat (first | refine RL.vv ?_ | refine RL.p ?_ | refine RL.nil ?_ | refine Sim.seq ?_ | refine Sim.region ?_ | refine Sim.block ?_ | refine Sim.skip ?_ | refine Sim.inBlock ?_ | refine Sim.exit rfl ?_ | refine Sim.condT rfl ?_ | refine Sim.condF rfl ?_)
  refine RL.wr (L := hdLay) (k := 4) (j := 0) (x' := { a with name := to }) h.row ha (fun w1 hbt hrow => ?_) (by rintro _ ⟨rfl, h1, h2⟩; exact ⟨rfl, h1, h2⟩)
  have hv1 : ViewAt B w1 (.slice (some ⟨g, 0, none⟩) hds.length c) (hds.set k { a with name := to }) (sns.set k (nameS to s)) lab := by
    obtain ⟨h3, h4⟩ := h.fs k a s ha hs
    obtain ⟨h5, h6⟩ := h.ns k a s ha hs
    exact h.step hs { a with name := to } (nameS to s) hrow ⟨rfl, hn2⟩ (fun _ _ => rfl) (fun b hb h0 _ _ => hbt.block b hb (fun e => h0 (e ▸ hg0)))
      ⟨h3.but hbt (fun _ h => h.elim) (fun g' hg' e => by have := h4 g' hg'; rw [e, hg0] at this; omega), h4⟩ ⟨h5.but hbt (fun _ h => h.elim) (fun g' hg' e => by have := h6 g' hg'; rw [e, hg0] at this; omega), h6⟩
  have hb1 : Below B w w1 := hbt.below (by have := (h.row.lt g rfl).2; omega) hgB
  clear hrow hbt hat h
  generalize hsn1 : sns.set k (nameS to s) = sn1 at *
  have hl1 : sn1.length = hds.length := by rw [← hsn1]; simp [hlen]
  clear hsn1 hcv hs hn1 hn2 hlt ha
  generalize hnn : hds.length = n at *
  generalize hf : a.name = frm at *
  repeat (first | refine RL.vv ?_ | refine RL.p ?_ | refine RL.nil ?_ | refine Sim.seq ?_ | refine Sim.region ?_ | refine Sim.block ?_ | refine Sim.skip ?_ | refine Sim.inBlock ?_ | refine Sim.exit rfl ?_ | refine Sim.condT rfl ?_ | refine Sim.condF rfl ?_)
  refine Sim.loop (σ := Nat) (fun i => [(0, .slice (some ⟨g, 0, none⟩) n c), (2, .string to), (6, .string frm), (23, .int .i64 (n : Int)), (24, .int .i64 (i : Int))])
    (fun i w' => i ≤ n ∧ Below B w w' ∧ ∃ hds', ViewAt B w' (.slice (some ⟨g, 0, none⟩) n c) hds' ((sn1.take i).map (reS frm to) ++ sn1.drop i) lab) (fun i => n - i) 0 sb ⟨Nat.zero_le _, hb1, _, by simpa using hv1⟩ ?_
  clear hb1 hv1
  rintro i w2 ⟨hi, hbel, hds2, hv⟩ next
  by_cases hlt : i < n
  rotate_left
  · have : i = n := by omega
    subst this
    rw [← hl1, List.take_length, List.drop_length, List.append_nil] at hv
    repeat (first | refine RL.vv ?_ | refine RL.p ?_ | refine RL.nil ?_ | refine Sim.seq ?_ | refine Sim.region ?_ | refine Sim.block ?_ | refine Sim.skip ?_ | refine Sim.inBlock ?_ | refine Sim.exit rfl ?_ | refine Sim.condT rfl ?_ | refine Sim.condF rfl ?_)
    exact Sim.fin0 Try.func105 rfl ⟨rfl, hbel, hds2, by rw [← hl1]; exact hv⟩
  have hsi : sn1[i]? = some sn1[i] := List.getElem?_eq_getElem (by omega)
  have hdi : sn1.drop i = sn1[i] :: sn1.drop (i + 1) := List.drop_eq_getElem_cons (by omega)
  have htl : ((sn1.take i).map (reS frm to)).length = i := by simp; omega
  have htk : (sn1.take (i + 1)).map (reS frm to) = (sn1.take i).map (reS frm to) ++ [reS frm to sn1[i]] := by rw [List.take_succ_eq_append_getElem (by omega), List.map_append]; rfl
  rw [hdi] at hv
  generalize sn1[i] = s1 at *
  generalize hA : (sn1.take i).map (reS frm to) = A at *
  generalize hC : sn1.drop (i + 1) = C at *
  have hget : ∀ x : Sn, (A ++ x :: C)[i]? = some x := fun x => by rw [← htl]; exact mid_get A C x
  have hset : ∀ x y : Sn, (A ++ x :: C).set i y = A ++ y :: C := fun x y => by rw [← htl]; exact mid_set A C x y
  obtain ⟨a1, ha1⟩ := hv.hd (hget s1)
  obtain ⟨g', c', cs, he', hat, ⟨rfl, _, _⟩, _, _, _⟩ := hv.row.get ha1
  simp only [Value.slice.injEq, Option.some.injEq, Addr.mk.injEq, and_true] at he'
  obtain ⟨rfl, hln, rfl⟩ := he'
  have hat : At w2 g (0 + i * 4) _ := hat
  obtain ⟨fa, fc, hfv⟩ := (hv.fs i a1 s1 ha1 (hget s1)).1.shape
  rw [hfv] at hat
  repeat (first | refine RL.vv ?_ | refine RL.p ?_ | refine RL.nil ?_ | refine Sim.seq ?_ | refine Sim.region ?_ | refine Sim.block ?_ | refine Sim.skip ?_ | refine Sim.inBlock ?_ | refine Sim.exit rfl ?_ | refine Sim.condT rfl ?_ | refine Sim.condF rfl ?_)
  refine Sim.loop (σ := Nat) (fun j => [(0, .slice (some ⟨g, 0, none⟩) n c), (2, .string to), (6, .string frm), (23, .int .i64 (n : Int)), (24, .int .i64 (i : Int)), (7, .int .i64 (i : Int)), (33, .int .i64 (s1.type.fields.length : Int)), (34, .int .i64 (j : Int))])
    (fun j w' => j ≤ s1.type.fields.length ∧ Below B w w' ∧ ∃ hds', ViewAt B w' (.slice (some ⟨g, 0, none⟩) n c) hds' (A ++ partS frm to j s1 :: C) lab) (fun j => s1.type.fields.length - j) 0 sb ⟨Nat.zero_le _, hbel, hds2, by rw [partS_zero]; exact hv⟩ ?_
  clear hbel hv ha1 hat hfv hln
  rintro j w3 ⟨hj, hbel, hds3, hv⟩ next2
  by_cases hjl : j < s1.type.fields.length
  rotate_left
  · have : j = s1.type.fields.length := by omega
    subst this
    rw [partS_all] at hv
    repeat (first | refine RL.vv ?_ | refine RL.p ?_ | refine RL.nil ?_ | refine Sim.seq ?_ | refine Sim.region ?_ | refine Sim.block ?_ | refine Sim.skip ?_ | refine Sim.inBlock ?_ | refine Sim.exit rfl ?_ | refine Sim.condT rfl ?_ | refine Sim.condF rfl ?_)
    refine next (i + 1) _ _ ⟨by omega, hbel, hds3, ?_⟩ (by omega) sb
    rw [htk, hC, List.append_assoc]
    exact hv
  obtain ⟨a3, ha3⟩ := hv.hd (hget (partS frm to j s1))
  obtain ⟨g', c', cs, he', hat, ⟨rfl, hoc1, hoc2⟩, _, _, _⟩ := hv.row.get ha3
  simp only [Value.slice.injEq, Option.some.injEq, Addr.mk.injEq, and_true] at he'
  obtain ⟨rfl, hln, rfl⟩ := he'
  have hat : At w3 g (0 + i * 4) _ := hat
  have hpg := part_get frm to s1 hjl
  have hpl := part_len frm to s1 hjl
  have hps := part_set frm to s1 hjl
  have hpe := part_same frm to s1 hjl
  obtain ⟨hfr, hfl⟩ := hv.fs i a3 _ ha3 (hget (partS frm to j s1))
  obtain ⟨gf, cf, cs, hfe, hfat, rfl, hfj, hfnc, hfcm⟩ := hfr.get hpg
  have hfat : At w3 gf (0 + j * 3) _ := hfat
  have hfB := (hfr.lt gf (by rw [hfe]; rfl))
  have hgfl := hfl gf (by rw [hfe]; rfl)
  rw [hfe] at hat
  rw [hpl] at hfe hat hfj
  unfold maxLen at hfcm
  generalize s1.type.fields[j] = fj at *
  by_cases hk1 : fj.kind = 1
  · have hr : reF frm to fj = fj := if_neg fun h => h.1 hk1
    repeat (first | refine RL.vv ?_ | refine RL.p ?_ | refine RL.nil ?_ | refine Sim.seq ?_ | refine Sim.region ?_ | refine Sim.block ?_ | refine Sim.skip ?_ | refine Sim.inBlock ?_ | refine Sim.exit rfl ?_ | refine Sim.condT rfl ?_ | refine Sim.condF rfl ?_)
    refine next2 (j + 1) _ _ ⟨by omega, hbel, hds3, ?_⟩ (by omega) sb
    rw [hpe hr]
    exact hv
  by_cases hk2 : fj.type = frm
  rotate_left
  · have hr : reF frm to fj = fj := if_neg fun h => hk2 h.2
    repeat (first | refine RL.vv ?_ | refine RL.p ?_ | refine RL.nil ?_ | refine Sim.seq ?_ | refine Sim.region ?_ | refine Sim.block ?_ | refine Sim.skip ?_ | refine Sim.inBlock ?_ | refine Sim.exit rfl ?_ | refine Sim.condT rfl ?_ | refine Sim.condF rfl ?_)
    refine next2 (j + 1) _ _ ⟨by omega, hbel, hds3, ?_⟩ (by omega) sb
    rw [hpe hr]
    exact hv
  have hr : reF frm to fj = { fj with type := to } := if_pos ⟨hk1, hk2⟩
  repeat (first | refine RL.vv ?_ | refine RL.p ?_ | refine RL.nil ?_ | refine Sim.seq ?_ | refine Sim.region ?_ | refine Sim.block ?_ | refine Sim.skip ?_ | refine Sim.inBlock ?_ | refine Sim.exit rfl ?_ | refine Sim.condT rfl ?_ | refine Sim.condF rfl ?_)
  rw [hfe] at hfr
  refine RL.wr (L := fldLay) (k := 3) (j := 2) (i := j) (x' := reF frm to fj) hfr hpg (fun w4 hbt hrow => ?_) (by rw [hr]; rintro _ rfl; rfl)
  have hbel := hbel.trans (hbt.below (by have := hfB; omega) hfB.1)
  have hgg := (hv.row.lt g (by rfl)).2
  repeat (first | refine RL.vv ?_ | refine RL.p ?_ | refine RL.nil ?_ | refine Sim.seq ?_ | refine Sim.region ?_ | refine Sim.block ?_ | refine Sim.skip ?_ | refine Sim.inBlock ?_ | refine Sim.exit rfl ?_ | refine Sim.condT rfl ?_ | refine Sim.condF rfl ?_)
  refine next2 (j + 1) _ _ ⟨by omega, hbel, hds3.set i a3, ?_⟩ (by omega) sb
  rw [← hps]
  have hgne : ∀ b, lab b = 0 → b ≠ gf := fun b hb e => by rw [e, hgfl] at hb; omega
  have hstep := hv.step (w1 := w4) (hget (partS frm to j s1)) a3 { partS frm to j s1 with type := { (partS frm to j s1).type with fields := (partS frm to j s1).type.fields.set j (reF frm to fj) } }
    (by rw [set_same ha3]; exact hv.row.but hbt (fun _ h => h.elim) (fun g' hg' => hgne g' (hv.own0 g' hg')))
    (hv.name i a3 (partS frm to j s1) ha3 (hget _)) (fun _ _ => rfl) (fun b hb _ h1 _ => hbt.block b hb (fun e => h1 (e ▸ hgfl)))
    ⟨by rw [hfe]; exact hrow, hfl⟩
    ⟨(hv.ns i a3 (partS frm to j s1) ha3 (hget _)).1.but hbt (fun _ h => h.elim) (fun g2 hg2 e => by have := (hv.ns i a3 (partS frm to j s1) ha3 (hget _)).2 g2 hg2; rw [e, hgfl] at this; omega), (hv.ns i a3 (partS frm to j s1) ha3 (hget _)).2⟩
  rw [hset] at hstep
  exact hstep
end Go.Proofs.Ytgckpmcdlciibaa
