/- Several texts in one: Contracts of chapter 6: what a pick gets of a thing. Contracts of chapter 6: what picks get of a thing; what is meant. Contracts of chapter 6: what is got, compared with the same. -/
import Derived.Test.YtgckpmcdlciibabZW
import Derived.Test.YtgckpmcdlciibabZV
import Derived.Test.YtgckpmcdlciibabZK
import Derived.Test.YtgckpmcdlciibabZS
import Derived.Test.YtgckpmcdlciibabZE
namespace Go.Proofs.Ytgckpmcdlciibab
open Go.RowKit
/-- all that a thing's picks are looked up in -/
structure InW (S S2 : Nat → Prop) (wb pb po : Nat) (lv pv fv ov hv : Value) (l : List Svc) (ps : List Prt) (p : Prt) (w : World) : Prop where
  ok : WholeOk l ps
  mem : p ∈ ps
  whole : At w wb 0 [lv, pv]
  svcs : SliceOf svcLay S w lv l
  parts : SliceOf prtLay S2 w pv ps
  part : At w pb po [.string p.type.name, fv, ov, hv]
  fields : SliceOf fldLay S2 w fv p.type.fields
  owners : SliceOf ownLay S2 w ov p.owners
  homes : SliceOf ownLay S2 w hv p.homes
theorem InW.up {S S2 : Nat → Prop} {wb pb po : Nat} {lv pv fv ov hv : Value} {l : List Svc} {ps : List Prt} {p : Prt} {w w' : World} (h : InW S S2 wb pb po lv pv fv ov hv l ps p w) (hu : Up w w') : InW S S2 wb pb po lv pv fv ov hv l ps p w' :=
  ⟨h.ok, h.mem, h.whole.up hu, h.svcs.up hu, h.parts.up hu, h.part.up hu, h.fields.up hu, h.owners.up hu, h.homes.up hu⟩
/-- the same, of another type of the whole -/
theorem InW.to {S S2 : Nat → Prop} {wb pb po pa : Nat} {pn pc : Nat} {pb' : Nat} {lv fv ov hv : Value} {l : List Svc} {ps : List Prt} {p t : Prt} {w : World} {k : Nat} (h : InW S S2 wb pb po lv (.slice (some ⟨pb', pa, none⟩) pn pc) fv ov hv l ps p w) (ht : ps[k]? = some t) : ∃ fv' ov' hv', InW S S2 wb pb' (pa + k * 4) lv (.slice (some ⟨pb', pa, none⟩) pn pc) fv' ov' hv' l ps t w := by
  obtain ⟨b, o, cs, he, _, hat, ⟨fv', ov', hv', rfl, h1, h2, h3⟩, _⟩ := h.parts.at ht
  simp only [Option.some.injEq, Addr.mk.injEq, and_true] at he
  obtain ⟨rfl, rfl⟩ := he
  exact ⟨fv', ov', hv', h.ok, List.mem_of_getElem? ht, h.whole, h.svcs, h.parts, hat, h1, h2, h3⟩
def ThingC (m : Nat) : Prop := ∀ {S S2 S3 : Nat → Prop} {wb pb po : Nat} {lv pv fv ov hv kv : Value} {l : List Svc} {ps : List Prt} {p : Prt} {picks : List Pck} (key : Str) (w : World), InW S S2 wb pb po lv pv fv ov hv l ps p w → SliceOf (pckLay m) S3 w kv picks → goesM m ps p.type.name picks = 0 → okSmall m picks →
  Calls Try.prog 79 #[.pointer (some ⟨wb, 0, none⟩), .pointer (some ⟨pb, po, none⟩), .string key, kv] w fun en w' => ∃ v, en = .returned v ∧ Up w w' ∧ Own (gtLay (m + 1)) 33 w.heap.size (fun b => w.heap.size ≤ b) w' v (thingS (semOf l ps) picks p.type.name key)
theorem pickS_def (S : Sem) (q : Pck) (n k : Str) : pickS S q n k = match S.fld n q.field with
    | none => default
    | some f => match S.val n q.field k with
      | none => .mk (calledM q) f.kind true ⟨#[]⟩ [] []
      | some v => if f.kind = 1 then .mk (calledM q) f.kind false v.text [] []
        else if f.kind = 2 then oneOf (calledM q) ((v.keys.filter (S.there f.type)).map fun x => thingS S q.picks f.type x)
        else .mk (calledM q) f.kind false ⟨#[]⟩ [] ((v.keys.filter (S.there f.type)).map fun x => thingS S q.picks f.type x) := by
  obtain ⟨a, fd, ps⟩ := q
  simp only [pickS, Pck.field, Pck.picks, calledM, Pck.as]
  rfl
def PickC (m : Nat) : Prop := ∀ {S S2 S3 : Nat → Prop} {wb pb po kb ko j : Nat} {lv pv fv ov hv : Value} {l : List Svc} {ps : List Prt} {p : Prt} {q : Pck} {f : Fld} {cs : List Value} (key : Str) (w : World), InW S S2 wb pb po lv pv fv ov hv l ps p w → At w kb ko cs → (pckLay (m + 1)).is S3 w cs q →
  fieldF p.type.fields q.field = (j : Int) → p.type.fields[j]? = some f → (f.kind = 1 ↔ q.picks = []) → (q.picks ≠ [] → goesM m ps f.type q.picks = 0) → okSmall m q.picks →
  Calls Try.prog 117 #[.pointer (some ⟨wb, 0, none⟩), .pointer (some ⟨pb, po, none⟩), .string key, .pointer (some ⟨kb, ko, none⟩)] w fun en w' => ∃ cs', en = .returned (.agg cs'.toArray) ∧ Up w w' ∧ (gtLay (m + 2)).is (fun b => w.heap.size ≤ b) w' cs' (pickS (semOf l ps) q p.type.name key)
theorem filter_snoc {α : Type} {l : List α} {i : Nat} {x : α} {g : α → Bool} (hx : l[i]? = some x) : (l.take (i + 1)).filter g = (l.take i).filter g ++ if g x then [x] else [] := by
  obtain ⟨hlt, rfl⟩ := List.getElem?_eq_some_iff.1 hx
  rw [List.take_succ_eq_append_getElem hlt, List.filter_append]
  cases h : g l[i] <;> simp [h]
theorem SliceOf.cell {α : Type} {L : Lay α} {S : Nat → Prop} {w : World} {v : Value} {xs : List α} (h : SliceOf L S w v xs) : v.oneCell' = true := by
  obtain ⟨a, c, rfl, _⟩ := h
  rfl
/-- what lies in blocks that stood at first lies so in any world that goes on -/
theorem SliceOf.via {α : Type} {L : Lay α} {S : Nat → Prop} {w w1 w2 : World} {v : Value} {xs : List α} (h : SliceOf L (fun b => S b ∧ b < w.heap.size) w1 v xs) (h1 : Up w w1) (h2 : Up w w2) : SliceOf L (fun b => S b ∧ b < w.heap.size) w2 v xs := h.keep fun _ hb _ => (h2.block hb.2).trans (h1.block hb.2).symm
theorem valV_len (v : Option VVal) (kv : Value) : (valV v kv).length = 3 := by cases v <;> rfl
theorem valV_one {v : Option VVal} {kv : Value} (h : kv.oneCell' = true) : ∀ c ∈ valV v kv, c.oneCell' = true := fun c hc => by
  cases v <;> simp only [valV, List.mem_cons, List.not_mem_nil, or_false] at hc <;> rcases hc with rfl | rfl | rfl <;> first | rfl | exact h
theorem valV_fit (v : Option VVal) (kv : Value) : ([.string ⟨#[]⟩, .string ⟨#[]⟩, .slice none 0 0] : List Value).take 0 ++ valV v kv ++ ([.string ⟨#[]⟩, .string ⟨#[]⟩, .slice none 0 0] : List Value).drop (0 + (valV v kv).length) = valV v kv := by cases v <;> rfl
set_option maxHeartbeats 8000000 in
theorem pick_any {m : Nat} (H : ThingC m) : PickC m := by
  intro S S2 S3 wb pb po kb ko j lv pv fv ov hv l ps p q f cs key w hI hkat hkis hj hf hkind hgo hsm
  refine calls_of_sim Try.func117 rfl (Nat.le_of_ble_eq_true rfl) ?_
  obtain ⟨kv, rfl, hkv⟩ := pckLay_succ hkis
  obtain ⟨fa, fc, rfl, _⟩ := id hI.fields
  obtain ⟨fb, fo, cs, rfl, _, hfat, rfl, _⟩ := hI.fields.at hf
  have hfat : At w fb (fo + j * 3) _ := hfat
  have hjl := (List.getElem?_eq_some_iff.1 hf).1
  have hpat := hI.part
  have ho : ∃ o, p.owners[j]? = some o := ⟨_, List.getElem?_eq_getElem (by rw [hI.ok.len p hI.mem]; exact hjl)⟩
  obtain ⟨o, ho⟩ := ho
  obtain ⟨ho0, ⟨s, hos⟩, hval⟩ := hI.ok.owner p hI.mem j f o hf ho
  have hpm := partM_mem hI.ok hI.mem
  have hsf : (semOf l ps).fld p.type.name q.field = some f := by
    simp only [semOf, hpm, hj, Int.toNat_natCast, hf]
    rw [if_neg (by omega)]
  have hsv : (semOf l ps).val p.type.name q.field key = valM l p j key := by
    simp only [semOf, hpm, hj, Int.toNat_natCast]
    rw [if_neg (by omega)]
  obtain ⟨hk1, hk3, hkt⟩ := hI.ok.kind p hI.mem j f hf
  repeat (first | refine RL.vv ?_ | refine RL.p ?_ | refine RL.nil ?_ | refine Sim.seq ?_ | refine Sim.region ?_ | refine Sim.block ?_ | refine Sim.skip ?_ | refine Sim.inBlock ?_ | refine Sim.exit rfl ?_ | refine Sim.condT rfl ?_ | refine Sim.condF rfl ?_)
  refine RL.al (.refl w) fun b8 w1 he8 hle8 hu h01 hb8 => ?_
  repeat (first | refine RL.vv ?_ | refine RL.p ?_ | refine RL.nil ?_ | refine Sim.seq ?_ | refine Sim.region ?_ | refine Sim.block ?_ | refine Sim.skip ?_ | refine Sim.inBlock ?_ | refine Sim.exit rfl ?_ | refine Sim.condT rfl ?_ | refine Sim.condF rfl ?_)
  refine Sim.q ?_
  repeat (first | refine RQ.vv ?_ | refine RQ.p ?_)
  refine RQ.cu (fun wq hq => q_call (c_val (Field_any q.field wq ((hI.fields.up hu).up hq)) (by rw [hj])) hq) ?_
  repeat (first | refine RQ.vv ?_ | refine RQ.p ?_)
  refine RQ.nil fun w2 h12 => ?_
  have hu := hu.trans h12
  have hb8 := hb8.up h12
  clear h12 h01
  have hw8 : b8 < w2.heap.size := hb8.lt
  repeat (first | refine RL.vv ?_ | refine RL.p ?_ | refine RL.nil ?_ | refine Sim.seq ?_ | refine Sim.region ?_ | refine Sim.block ?_ | refine Sim.skip ?_ | refine Sim.inBlock ?_ | refine Sim.exit rfl ?_ | refine Sim.condT rfl ?_ | refine Sim.condF rfl ?_)
  refine RL.cu hu (Called_any q kv w2) fun w3 hu h23 => ?_
  have hb8 := hb8.up h23
  repeat (first | refine RL.vv ?_ | refine RL.p ?_ | refine RL.nil ?_ | refine Sim.seq ?_ | refine Sim.region ?_ | refine Sim.block ?_ | refine Sim.skip ?_ | refine Sim.inBlock ?_ | refine Sim.exit rfl ?_ | refine Sim.condT rfl ?_ | refine Sim.condF rfl ?_)
  refine RL.val trivial rfl (y_build (v := .agg #[.string (calledM q), .int .i64 f.kind, .bool false, .string ⟨#[]⟩, .slice none 0 0, .slice none 0 0]) rfl (fun w => by kernel_rfl)) ?_
  refine RL.al hu fun b11 w4 he11 hle11 hu4 h34 hb11 => ?_
  have h811 : b8 ≠ b11 := by have := hb8.lt; omega
  have hb8 := hb8.up h34
  refine RL.st hu4 hb11 hle11 fun w5 hu hbt hb11 => ?_
  have hb11 : Box w5 b11 _ [.string (calledM q), .int .i64 f.kind, .bool false, .string ⟨#[]⟩, .slice none 0 0, .slice none 0 0] := hb11
  have hb8 : Box w5 b8 _ [.string ⟨#[]⟩, .int .i64 0, .bool false, .string ⟨#[]⟩, .slice none 0 0, .slice none 0 0] := hb8.but hbt h811
  clear h23 h34 hbt hu4 he11
  have hI5 := hI.up hu
  repeat (first | refine RL.vv ?_ | refine RL.p ?_ | refine RL.nil ?_ | refine Sim.seq ?_ | refine Sim.region ?_ | refine Sim.block ?_ | refine Sim.skip ?_ | refine Sim.inBlock ?_ | refine Sim.exit rfl ?_ | refine Sim.condT rfl ?_ | refine Sim.condF rfl ?_)
  refine RL.cx (val_any p key w5 hI5.whole (hI.svcs.old.up hu) hI5.part hI5.owners ho ho0 hos fun x hx => by obtain ⟨v, _, h1, h2, _⟩ := hval key x hx; exact ⟨v, h1, h2⟩) ?_
  rintro _ w6 ⟨kv', rfl, h56, hks⟩
  refine ⟨_, rfl, ?_⟩
  have hu6 := hu.trans h56
  have hb8 := hb8.up h56
  have hb11 := hb11.up h56
  have hI6 := hI5.up h56
  have hfat := hfat.up hu6
  clear h56 hI5 hu
  repeat (first | refine RL.vv ?_ | refine RL.p ?_ | refine RL.nil ?_ | refine Sim.seq ?_ | refine Sim.region ?_ | refine Sim.block ?_ | refine Sim.skip ?_ | refine Sim.inBlock ?_ | refine Sim.exit rfl ?_ | refine Sim.condT rfl ?_ | refine Sim.condF rfl ?_)
  refine RL.al hu6 fun b12 w7 he12 hle12 hu7 h67 hb12 => ?_
  have hn8 : b8 ≠ b12 := by have := hb8.lt; omega
  have hn11 : b11 ≠ b12 := by have := hb11.lt; omega
  have hb8 := hb8.up h67
  have hb11 := hb11.up h67
  refine RL.st (news := valV (valM l p j key) kv') (cs' := valV (valM l p j key) kv') hu7 hb12 hle12 (h1 := valV_one (SliceOf.cell hks)) (hk := valV_len _ _) (hfit := Nat.le_of_eq (by rw [valV_len]; rfl)) (hcs := valV_fit _ _) fun w8 hu hbt hb12 => ?_
  have h68 := Up.but h67 hbt (Nat.le_of_eq he12.symm)
  have hb8 : Box w8 b8 _ [.string ⟨#[]⟩, .int .i64 0, .bool false, .string ⟨#[]⟩, .slice none 0 0, .slice none 0 0] := hb8.but hbt hn8
  have hb11 : Box w8 b11 _ [.string (calledM q), .int .i64 f.kind, .bool false, .string ⟨#[]⟩, .slice none 0 0, .slice none 0 0] := hb11.but hbt hn11
  have hks := hks.up h68
  have hI8 := hI6.up h68
  have hfat := hfat.up h68
  clear hbt h67 h68 hI6 hu6 hu7 he12
  have hps := pickS_def (semOf l ps) q p.type.name key
  rw [hsf] at hps
  simp only [hsv] at hps
  cases hvm : valM l p j key with
  | none =>
    rw [hvm] at hb12 hps
    simp only at hps
    repeat (first | refine RL.vv ?_ | refine RL.p ?_ | refine RL.nil ?_ | refine Sim.seq ?_ | refine Sim.region ?_ | refine Sim.block ?_ | refine Sim.skip ?_ | refine Sim.inBlock ?_ | refine Sim.exit rfl ?_ | refine Sim.condT rfl ?_ | refine Sim.condF rfl ?_)
    refine RL.st hu hb11 hle11 fun w9 hu hbt hb11 => ?_
    have hb11 : Box w9 b11 _ [.string (calledM q), .int .i64 f.kind, .bool true, .string ⟨#[]⟩, .slice none 0 0, .slice none 0 0] := hb11
    have hb8 := hb8.but hbt h811
    have ha := hb11.at
    repeat (first | refine RL.vv ?_ | refine RL.p ?_ | refine RL.nil ?_ | refine Sim.seq ?_ | refine Sim.region ?_ | refine Sim.block ?_ | refine Sim.skip ?_ | refine Sim.inBlock ?_ | refine Sim.exit rfl ?_ | refine Sim.condT rfl ?_ | refine Sim.condF rfl ?_)
    refine RL.st hu hb8 hle8 fun w10 hu hbt hb8 => ?_
    have hb8 : Box w10 b8 _ [.string (calledM q), .int .i64 f.kind, .bool true, .string ⟨#[]⟩, .slice none 0 0, .slice none 0 0] := hb8
    repeat (first | refine RL.vv ?_ | refine RL.p ?_ | refine RL.nil ?_ | refine Sim.seq ?_ | refine Sim.region ?_ | refine Sim.block ?_ | refine Sim.skip ?_ | refine Sim.inBlock ?_ | refine Sim.exit rfl ?_ | refine Sim.condT rfl ?_ | refine Sim.condF rfl ?_)
    exact Sim.retC (cs := [.string (calledM q), .int .i64 f.kind, .bool true, .string ⟨#[]⟩, .slice none 0 0, .slice none 0 0]) Try.func117 rfl rfl hb8.at rfl ⟨_, rfl, hu, by rw [hps]; exact gt_succ.2 ⟨_, _, rfl, SliceOf.nil _ _ _, SliceOf.nil _ _ _⟩⟩
  | some v =>
  rw [hvm] at hb12 hks hps
  simp only at hks hps
  have hb12 : Box w8 b12 _ [.string v.field, .string v.text, kv'] := hb12
  have hvf : ValFor f v := by
    unfold valM at hvm
    rw [ho] at hvm
    simp only at hvm
    cases hw : findW l o key with
    | none => rw [hw] at hvm; cases hvm
    | some x =>
      rw [hw] at hvm
      simp only at hvm
      obtain ⟨v', h1, _, _, h2⟩ := hval key x hw
      rw [← List.head?_filter, h1] at hvm
      simp only [List.head?_cons, Option.some.injEq] at hvm
      rw [← hvm]; exact h2
  by_cases hk1' : f.kind = 1
  · rw [if_pos hk1'] at hps
    have ha := hb12.at
    repeat (first | refine RL.vv ?_ | refine RL.p ?_ | refine RL.nil ?_ | refine Sim.seq ?_ | refine Sim.region ?_ | refine Sim.block ?_ | refine Sim.skip ?_ | refine Sim.inBlock ?_ | refine Sim.exit rfl ?_ | refine Sim.condT rfl ?_ | refine Sim.condF rfl ?_)
    refine RL.st hu hb11 hle11 fun w9 hu hbt hb11 => ?_
    have hb11 : Box w9 b11 _ [.string (calledM q), .int .i64 f.kind, .bool false, .string v.text, .slice none 0 0, .slice none 0 0] := hb11
    have hb8 := hb8.but hbt h811
    have ha := hb11.at
    repeat (first | refine RL.vv ?_ | refine RL.p ?_ | refine RL.nil ?_ | refine Sim.seq ?_ | refine Sim.region ?_ | refine Sim.block ?_ | refine Sim.skip ?_ | refine Sim.inBlock ?_ | refine Sim.exit rfl ?_ | refine Sim.condT rfl ?_ | refine Sim.condF rfl ?_)
    refine RL.st hu hb8 hle8 fun w10 hu hbt hb8 => ?_
    have hb8 : Box w10 b8 _ [.string (calledM q), .int .i64 f.kind, .bool false, .string v.text, .slice none 0 0, .slice none 0 0] := hb8
    repeat (first | refine RL.vv ?_ | refine RL.p ?_ | refine RL.nil ?_ | refine Sim.seq ?_ | refine Sim.region ?_ | refine Sim.block ?_ | refine Sim.skip ?_ | refine Sim.inBlock ?_ | refine Sim.exit rfl ?_ | refine Sim.condT rfl ?_ | refine Sim.condF rfl ?_)
    exact Sim.retC (cs := [.string (calledM q), .int .i64 f.kind, .bool false, .string v.text, .slice none 0 0, .slice none 0 0]) Try.func117 rfl rfl hb8.at rfl ⟨_, rfl, hu, by rw [hps]; exact gt_succ.2 ⟨_, _, rfl, SliceOf.nil _ _ _, SliceOf.nil _ _ _⟩⟩
  rw [if_neg hk1'] at hps
  obtain ⟨k, t, hkf, htk, htn⟩ := partM_name (hkt hk1')
  obtain ⟨pa, pc, rfl, hpnc, hpcm, _⟩ := id hI8.parts
  have hkl := (List.getElem?_eq_some_iff.1 htk).1
  obtain ⟨tb, to, cs, he, _, _, _, _⟩ := hI8.parts.at htk
  subst he
  obtain ⟨fv8, ov8, hv8, hT8⟩ := hI8.to htk
  have hwat := hI8.whole
  have hpat := hI8.part
  repeat (first | refine RL.vv ?_ | refine RL.p ?_ | refine RL.nil ?_ | refine Sim.seq ?_ | refine Sim.region ?_ | refine Sim.block ?_ | refine Sim.skip ?_ | refine Sim.inBlock ?_ | refine Sim.exit rfl ?_ | refine Sim.condT rfl ?_ | refine Sim.condF rfl ?_)
  refine Sim.q ?_
  repeat (first | refine RQ.vv ?_ | refine RQ.p ?_)
  refine RQ.cu (fun wq hq => q_call (c_val (PFind_any f.type wq (hI8.parts.up hq)) (by rw [hkf])) hq) ?_
  repeat (first | refine RQ.vv ?_ | refine RQ.p ?_)
  refine RQ.nil fun w9 h89 => ?_
  have hu := hu.trans h89
  have hb8 := hb8.up h89
  have hb11 := hb11.up h89
  have ha12 := (hb12.up h89).at
  have hks := hks.up h89
  have hk20 := hvf.keys
  have hl8 := hb8.lt
  have hl11 := hb11.lt
  have hsz9 := hu.size
  have hne : q.picks ≠ [] := fun h => hk1' (hkind.2 h)
  have hgo := hgo hne
  rw [← htn] at hgo
  have hth : ∀ x, (semOf l ps).there f.type x = thereM l t x := fun x => by simp only [semOf, ← htn, partM_at hI.ok htk]
  have hhome := hI.ok.home t (List.mem_of_getElem? htk)
  obtain ⟨fv2, ov2, hv2, hT⟩ := hI.to htk
  clear h89 hI8 hwat hpat hfat hb12 hval hvm hI hT8
  obtain ⟨ka, kc, rfl, hknc, hkcm, _⟩ := id hks
  unfold maxLen at hkcm
  have hks9 := hks
  repeat (first | refine RL.vv ?_ | refine RL.p ?_ | refine RL.nil ?_ | refine Sim.seq ?_ | refine Sim.region ?_ | refine Sim.block ?_ | refine Sim.skip ?_ | refine Sim.inBlock ?_ | refine Sim.exit rfl ?_ | refine Sim.condT rfl ?_ | refine Sim.condF rfl ?_)
  refine Sim.loop (σ := Nat × Value) (fun st => [(0, .pointer (some ⟨wb, 0, none⟩)), (3, .pointer (some ⟨kb, ko, none⟩)), (8, .pointer (some ⟨b8, 0, none⟩)), (10, .int .i64 f.kind), (11, .pointer (some ⟨b11, 0, none⟩)), (14, .pointer (some ⟨tb, to + k * 4, none⟩)), (80, .slice ka v.keys.length kc), (81, .int .i64 (v.keys.length : Int)), (82, .int .i64 (st.1 : Int))])
    (fun st w' => st.1 ≤ v.keys.length ∧ Up w w' ∧ w9.heap.size ≤ w'.heap.size ∧ Box w' b8 33 [.string ⟨#[]⟩, .int .i64 0, .bool false, .string ⟨#[]⟩, .slice none 0 0, .slice none 0 0] ∧ Box w' b11 33 [.string (calledM q), .int .i64 f.kind, .bool false, .string ⟨#[]⟩, .slice none 0 0, st.2] ∧
      Own (gtLay (m + 1)).slice 24 w9.heap.size (fun b => w9.heap.size ≤ b) w' st.2 (((v.keys.take st.1).filter ((semOf l ps).there f.type)).map fun x => thingS (semOf l ps) q.picks f.type x)) (fun st => v.keys.length - st.1) (0, .slice none 0 0) sb ⟨Nat.zero_le _, hu, Nat.le_refl _, hb8, hb11, Own.nil _ _ _ _ _⟩ ?_
  clear hb8 hb11 ha12 hks
  have hu9 := hu
  clear hu
  rintro ⟨i, sv⟩ w10 ⟨hi, hu, hs10, hb8, hb11, hown⟩ next
  simp only at hi hb11 hown next ⊢
  by_cases hlt : i < v.keys.length
  · have hx : v.keys[i]? = some v.keys[i] := List.getElem?_eq_getElem hlt
    have hks := hks9.via hu9 hu
    obtain ⟨xb, xo, cs, rfl, _, hxat, rfl, _⟩ := hks.at hx
    have hxat : At w10 xb (xo + i * 1) _ := hxat
    have hsn := filter_snoc (g := (semOf l ps).there f.type) hx
    generalize v.keys[i] = x at *
    repeat (first | refine RL.vv ?_ | refine RL.p ?_ | refine RL.nil ?_ | refine Sim.seq ?_ | refine Sim.region ?_ | refine Sim.block ?_ | refine Sim.skip ?_ | refine Sim.inBlock ?_ | refine Sim.exit rfl ?_ | refine Sim.condT rfl ?_ | refine Sim.condF rfl ?_)
    have hT10 := hT.up hu
    refine RL.cu hu (there_any t x w10 hT10.whole hT10.svcs hT10.part hT10.homes hhome) fun w11 hu11 h1011 => ?_
    have hb8 := hb8.up h1011
    have hb11 := hb11.up h1011
    have hown := hown.up h1011
    have hs11 := Nat.le_trans hs10 h1011.size
    have e := hth x
    cases ht : thereM l t x with
    | false =>
      rw [ht] at e
      rw [e] at hsn
      simp only [Bool.false_eq_true, if_false, List.append_nil] at hsn
      repeat (first | refine RL.vv ?_ | refine RL.p ?_ | refine RL.nil ?_ | refine Sim.seq ?_ | refine Sim.region ?_ | refine Sim.block ?_ | refine Sim.skip ?_ | refine Sim.inBlock ?_ | refine Sim.exit rfl ?_ | refine Sim.condT rfl ?_ | refine Sim.condF rfl ?_)
      exact next (i + 1, sv) _ _ ⟨by first | omega | (simp only; omega), hu11, hs11, hb8, hb11, by simp only; rw [hsn]; exact hown⟩ (by first | omega | (simp only; omega)) sb
    | true =>
      rw [ht] at e
      rw [e] at hsn
      simp only [if_true] at hsn
      have hlen : (((v.keys.take i).filter ((semOf l ps).there f.type)).map fun x => thingS (semOf l ps) q.picks f.type x).length ≤ 20 := by
        rw [List.length_map]
        exact Nat.le_trans (List.length_filter_le _ _) (by rw [List.length_take]; omega)
      repeat (first | refine RL.vv ?_ | refine RL.p ?_ | refine RL.nil ?_ | refine Sim.seq ?_ | refine Sim.region ?_ | refine Sim.block ?_ | refine Sim.skip ?_ | refine Sim.inBlock ?_ | refine Sim.exit rfl ?_ | refine Sim.condT rfl ?_ | refine Sim.condF rfl ?_)
      have h2 : Up w w11.drew := hu11.trans (Up.drew _)
      have h1 : Up w w11.drew ∧ At w11.drew b11 0 [.string (calledM q), .int .i64 f.kind, .bool false, .string ⟨#[]⟩, .slice none 0 0, sv] := ⟨h2, hb11.at.up (Up.drew _)⟩
      refine Sim.ordD [13] (fun wq => Up w wq ∧ At wq b11 0 [.string (calledM q), .int .i64 f.kind, .bool false, .string ⟨#[]⟩, .slice none 0 0, sv]) (Up w) ?_ mixed
      refine RD.tk 0 ?_
      refine RD.tk 1 ?_ (hy := fun wq hq => y_loadF rfl hq.2 rfl)
      refine RD.tk 2 ?_
      refine RD.tk 3 ?_
      refine RD.tk 4 ?_
      refine RD.tk 5 ?_
      refine RD.tk 6 ?_
      refine RD.tk 7 ?_
      refine RD.tk 8 ?_ (hy := fun wq hq => y_loadF rfl (hkat.up hq.1) rfl)
      refine RD.one 9 ?_
      refine RL.cx (H x w11.drew (hT.up h2) (hkv.up h2) hgo hsm) ?_
      rintro _ w12 ⟨tv, rfl, h12, hto⟩
      refine ⟨_, rfl, ?_⟩
      obtain ⟨ta, tn, tc, rfl⟩ := hto.sh
      have hu12 := h2.trans h12
      have hb8 := (hb8.up (Up.drew _)).up h12
      have hb11 := (hb11.up (Up.drew _)).up h12
      refine RL.od hu12 ⟨hu12, hb11.at⟩ ?_
      refine RD.one 10 ?_
      refine RL.bu (el := 24) [.slice ta tn tc] hu12 fun b100 w13 he13 _ hu13 h13 hb100 => ?_
      have hb8 := hb8.up h13
      have hb11 := hb11.up h13
      refine RL.od hu13 ⟨hu13, hb11.at⟩ ?_
      refine RD.one 11 ?_
      have hs12 := h12.size
      have hown12 := (hown.up (Up.drew _)).up h12
      have hto13 := hto.up h13
      have hs1112 : w11.heap.size ≤ w12.heap.size := hs12
      refine RL.app (L := (gtLay (m + 1)).slice) (el := 24) (S := fun b => w9.heap.size ≤ b) (B := w9.heap.size) (ys := [thingS (semOf l ps) q.picks f.type x]) hu13 (hown12.up h13) (SliceOf.one hb100 ⟨by omega, hown12.ne (Nat.le_of_eq he13.symm)⟩ ⟨_, rfl, by
        rw [← htn]
        exact hto13.sl (fun b hb _ _ => ⟨by have : w11.heap.size ≤ b := hb; omega, hown.ne hb⟩) fun g hg => by
          have := (hto13.lt g hg).1
          exact ⟨by have : w11.heap.size ≤ g := this; omega, hown.ne this⟩⟩) (by simp only [List.length_cons, List.length_nil]; omega) hsz9 (by have := h13.size; omega) fun sv' w14 hu14 hown2 hg hv => ?_
      have hno : ∀ b : Nat, b < w9.heap.size → some b ≠ sv.ownBlock := fun b hb => hown.ne' hb
      have hb8 := hb8.grown hg (hno b8 hl8)
      have hb11 := hb11.grown hg (hno b11 hl11)
      refine RL.od hu14 ⟨hu14, hb11.at⟩ ?_
      refine RD.tk 12 ?_ (h1 := ⟨hu14, hb11.at⟩)
      refine RD.one 13 ?_
      obtain ⟨va, vn, vc, rfl⟩ := hown2.sh
      refine RL.st hu14 hb11 hle11 fun w15 hu15 hbt hb11 => ?_
      refine RL.ox hu15 ?_
      refine RD.done (RL.nil ?_)
      have hb8 := hb8.but hbt h811
      have hown3 := hown2.but hbt (fun k hk => by omega) (fun g hg => by have := (hown2.lt g hg).1; omega)
      repeat (first | refine RL.vv ?_ | refine RL.p ?_ | refine RL.nil ?_ | refine Sim.seq ?_ | refine Sim.region ?_ | refine Sim.block ?_ | refine Sim.skip ?_ | refine Sim.inBlock ?_ | refine Sim.exit rfl ?_ | refine Sim.condT rfl ?_ | refine Sim.condF rfl ?_)
      exact next (i + 1, .slice va vn vc) _ _ ⟨by first | omega | (simp only; omega), hu15, by have := hown3.lt; have := hbt.size; have := h13.size; have := hg.size; first | omega | (simp only; omega), hb8, hb11, by simp only; rw [hsn, List.map_append]; exact hown3⟩ (by first | omega | (simp only; omega)) sb
  have hin : i = v.keys.length := by omega
  subst hin
  rw [List.take_length] at hown
  generalize ((v.keys.filter ((semOf l ps).there f.type)).map fun x => thingS (semOf l ps) q.picks f.type x) = subs at *
  clear next hks9
  have hS : ∀ {w1 : World}, Up w w1 → Own (gtLay (m + 1)).slice 24 w9.heap.size (fun b => w9.heap.size ≤ b) w1 sv subs → SliceOf (gtLay (m + 1)).slice (fun b => w.heap.size ≤ b ∧ b ≠ b8 ∧ b ≠ b11) w1 sv subs := fun _ ho => ho.sl (fun b hb _ _ => ⟨by omega, by omega, by omega⟩) fun g hg => by
    have := (ho.lt g hg).1
    exact ⟨by omega, by omega, by omega⟩
  have hsl := hS hu hown
  obtain ⟨sa, sc, rfl, hsnc, hscm, _⟩ := id hsl
  unfold maxLen at hscm
  by_cases hk2 : f.kind = 2
  rotate_left
  · rw [if_neg hk2] at hps
    have ha := hb11.at
    repeat (first | refine RL.vv ?_ | refine RL.p ?_ | refine RL.nil ?_ | refine Sim.seq ?_ | refine Sim.region ?_ | refine Sim.block ?_ | refine Sim.skip ?_ | refine Sim.inBlock ?_ | refine Sim.exit rfl ?_ | refine Sim.condT rfl ?_ | refine Sim.condF rfl ?_)
    refine RL.st hu hb8 hle8 fun w11 hu11 hbt hb8 => ?_
    have hb8 : Box w11 b8 _ [.string (calledM q), .int .i64 f.kind, .bool false, .string ⟨#[]⟩, .slice none 0 0, .slice sa subs.length sc] := hb8
    repeat (first | refine RL.vv ?_ | refine RL.p ?_ | refine RL.nil ?_ | refine Sim.seq ?_ | refine Sim.region ?_ | refine Sim.block ?_ | refine Sim.skip ?_ | refine Sim.inBlock ?_ | refine Sim.exit rfl ?_ | refine Sim.condT rfl ?_ | refine Sim.condF rfl ?_)
    exact Sim.retC (cs := [.string (calledM q), .int .i64 f.kind, .bool false, .string ⟨#[]⟩, .slice none 0 0, .slice sa subs.length sc]) Try.func117 rfl rfl hb8.at rfl ⟨_, rfl, hu11, by rw [hps]; exact gt_succ.2 ⟨_, _, rfl, SliceOf.nil _ _ _, (hsl.bt hbt fun k hk => hk.2.1).mono fun k hk => hk.1⟩⟩
  rw [if_pos hk2] at hps
  cases subs with
  | nil =>
    have h0 : ((([] : List (List Gt)).length : Nat) : Int) = 0 := rfl
    have ha11 := hb11.at
    repeat (first | refine RL.vv ?_ | refine RL.p ?_ | refine RL.nil ?_ | refine Sim.seq ?_ | refine Sim.region ?_ | refine Sim.block ?_ | refine Sim.skip ?_ | refine Sim.inBlock ?_ | refine Sim.exit rfl ?_ | refine Sim.condT rfl ?_ | refine Sim.condF rfl ?_)
    refine RL.st hu hb11 hle11 fun w11 hu hbt hb11 => ?_
    have hb11 : Box w11 b11 _ [.string (calledM q), .int .i64 f.kind, .bool true, .string ⟨#[]⟩, .slice none 0 0, .slice sa 0 sc] := hb11
    have hb8 := hb8.but hbt h811
    clear ha11
    repeat (first | refine RL.vv ?_ | refine RL.p ?_ | refine RL.nil ?_ | refine Sim.seq ?_ | refine Sim.region ?_ | refine Sim.block ?_ | refine Sim.skip ?_ | refine Sim.inBlock ?_ | refine Sim.exit rfl ?_ | refine Sim.condT rfl ?_ | refine Sim.condF rfl ?_)
    refine RL.st hu hb11 hle11 fun w12 hu hbt hb11 => ?_
    have hb11 : Box w12 b11 _ [.string (calledM q), .int .i64 f.kind, .bool true, .string ⟨#[]⟩, .slice none 0 0, .slice none 0 0] := hb11
    have hb8 := hb8.but hbt h811
    have ha := hb11.at
    repeat (first | refine RL.vv ?_ | refine RL.p ?_ | refine RL.nil ?_ | refine Sim.seq ?_ | refine Sim.region ?_ | refine Sim.block ?_ | refine Sim.skip ?_ | refine Sim.inBlock ?_ | refine Sim.exit rfl ?_ | refine Sim.condT rfl ?_ | refine Sim.condF rfl ?_)
    refine RL.st hu hb8 hle8 fun w13 hu hbt hb8 => ?_
    have hb8 : Box w13 b8 _ [.string (calledM q), .int .i64 f.kind, .bool true, .string ⟨#[]⟩, .slice none 0 0, .slice none 0 0] := hb8
    repeat (first | refine RL.vv ?_ | refine RL.p ?_ | refine RL.nil ?_ | refine Sim.seq ?_ | refine Sim.region ?_ | refine Sim.block ?_ | refine Sim.skip ?_ | refine Sim.inBlock ?_ | refine Sim.exit rfl ?_ | refine Sim.condT rfl ?_ | refine Sim.condF rfl ?_)
    exact Sim.retC (cs := [.string (calledM q), .int .i64 f.kind, .bool true, .string ⟨#[]⟩, .slice none 0 0, .slice none 0 0]) Try.func117 rfl rfl hb8.at rfl ⟨_, rfl, hu, by rw [hps, hk2]; exact gt_succ.2 ⟨_, _, rfl, SliceOf.nil _ _ _, SliceOf.nil _ _ _⟩⟩
  | cons s0 r =>
    have h0 : ¬ (((s0 :: r).length : Nat) : Int) = 0 := by simp only [List.length_cons]; omega
    have ha11 := hb11.at
    repeat (first | refine RL.vv ?_ | refine RL.p ?_ | refine RL.nil ?_ | refine Sim.seq ?_ | refine Sim.region ?_ | refine Sim.block ?_ | refine Sim.skip ?_ | refine Sim.inBlock ?_ | refine Sim.exit rfl ?_ | refine Sim.condT rfl ?_ | refine Sim.condF rfl ?_)
    refine RL.st hu hb11 hle11 fun w11 hu hbt hb11 => ?_
    have hb11 : Box w11 b11 _ [.string (calledM q), .int .i64 f.kind, .bool false, .string ⟨#[]⟩, .slice none 0 0, .slice sa (s0 :: r).length sc] := hb11
    have hb8 := hb8.but hbt h811
    have hsl := hsl.bt hbt fun k hk => hk.2.2
    obtain ⟨gb, go, cs, rfl, _, hgat, ⟨gv, rfl, hgv⟩, h0l⟩ := hsl.at (i := 0) (x := s0) rfl
    have hgat : At w11 gb (go + 0 * 1) _ := hgat
    obtain ⟨ga, gc, rfl, _⟩ := id hgv
    have hzi : 0 < (s0 :: r).length := by simp
    clear ha11
    repeat (first | refine RL.vv ?_ | refine RL.p ?_ | refine RL.nil ?_ | refine Sim.seq ?_ | refine Sim.region ?_ | refine Sim.block ?_ | refine Sim.skip ?_ | refine Sim.inBlock ?_ | refine Sim.exit rfl ?_ | refine Sim.condT rfl ?_ | refine Sim.condF rfl ?_)
    refine RL.st hu hb11 hle11 fun w12 hu hbt hb11 => ?_
    have hb11 : Box w12 b11 _ [.string (calledM q), .int .i64 f.kind, .bool false, .string ⟨#[]⟩, .slice ga s0.length gc, .slice (some ⟨gb, go, none⟩) (s0 :: r).length sc] := hb11
    have hb8 := hb8.but hbt h811
    have hgv := hgv.bt hbt fun k hk => hk.2.2
    clear hgat
    repeat (first | refine RL.vv ?_ | refine RL.p ?_ | refine RL.nil ?_ | refine Sim.seq ?_ | refine Sim.region ?_ | refine Sim.block ?_ | refine Sim.skip ?_ | refine Sim.inBlock ?_ | refine Sim.exit rfl ?_ | refine Sim.condT rfl ?_ | refine Sim.condF rfl ?_)
    refine RL.st hu hb11 hle11 fun w13 hu hbt hb11 => ?_
    have hb11 : Box w13 b11 _ [.string (calledM q), .int .i64 f.kind, .bool false, .string ⟨#[]⟩, .slice ga s0.length gc, .slice none 0 0] := hb11
    have hb8 := hb8.but hbt h811
    have hgv := hgv.bt hbt fun k hk => hk.2.2
    have ha := hb11.at
    repeat (first | refine RL.vv ?_ | refine RL.p ?_ | refine RL.nil ?_ | refine Sim.seq ?_ | refine Sim.region ?_ | refine Sim.block ?_ | refine Sim.skip ?_ | refine Sim.inBlock ?_ | refine Sim.exit rfl ?_ | refine Sim.condT rfl ?_ | refine Sim.condF rfl ?_)
    refine RL.st hu hb8 hle8 fun w14 hu hbt hb8 => ?_
    have hb8 : Box w14 b8 _ [.string (calledM q), .int .i64 f.kind, .bool false, .string ⟨#[]⟩, .slice ga s0.length gc, .slice none 0 0] := hb8
    have hgv := hgv.bt hbt fun k hk => hk.2.1
    repeat (first | refine RL.vv ?_ | refine RL.p ?_ | refine RL.nil ?_ | refine Sim.seq ?_ | refine Sim.region ?_ | refine Sim.block ?_ | refine Sim.skip ?_ | refine Sim.inBlock ?_ | refine Sim.exit rfl ?_ | refine Sim.condT rfl ?_ | refine Sim.condF rfl ?_)
    exact Sim.retC (cs := [.string (calledM q), .int .i64 f.kind, .bool false, .string ⟨#[]⟩, .slice ga s0.length gc, .slice none 0 0]) Try.func117 rfl rfl hb8.at rfl ⟨_, rfl, hu, by rw [hps, hk2]; exact gt_succ.2 ⟨_, _, rfl, hgv.mono fun k hk => hk.1, SliceOf.nil _ _ _⟩⟩
end Go.Proofs.Ytgckpmcdlciibab

namespace Go.Proofs.Ytgckpmcdlciibab
open Go.RowKit
theorem goes_pick {l : List Svc} {ps : List Prt} {m : Nat} {p : Prt} {picks : List Pck} (hw : WholeOk l ps) (hp : p ∈ ps) (hg : goesM (m + 1) ps p.type.name picks = 0) {i : Nat} {q : Pck} (hq : picks[i]? = some q) :
    ∃ (j : Nat) (f : Fld), fieldF p.type.fields q.field = (j : Int) ∧ p.type.fields[j]? = some f ∧ (f.kind = 1 ↔ q.picks = []) ∧ (q.picks ≠ [] → goesM m ps f.type q.picks = 0) := by
  obtain ⟨k, t, hk, ht, hn, heach⟩ := goes_ok hg
  have htp : t = p := by
    have h1 := partM_mem hw hp
    unfold partM at h1
    rw [hk, if_neg (by omega), Int.toNat_natCast, ht] at h1
    exact Option.some.inj h1
  subst htp
  obtain ⟨⟨j, f, h1, h2, _, h3, h4⟩, _⟩ := heach i q hq
  exact ⟨j, f, h1, h2, h3, h4⟩
set_option maxHeartbeats 2000000 in
theorem thing_gen {m : Nat} (H : ∀ n, m = n + 1 → PickC n) : ThingC m := by
  intro S S2 S3 wb pb po lv pv fv ov hv kv l ps p picks key w hI hkv hgo hsm
  refine calls_of_sim Try.func79 rfl (Nat.le_of_ble_eq_true rfl) ?_
  obtain ⟨ka, kc, rfl, hknc, hkcm, _⟩ := id hkv
  unfold maxLen at hkcm
  repeat (first | refine RL.vv ?_ | refine RL.p ?_ | refine RL.nil ?_ | refine Sim.seq ?_ | refine Sim.region ?_ | refine Sim.block ?_ | refine Sim.skip ?_ | refine Sim.inBlock ?_ | refine Sim.exit rfl ?_ | refine Sim.condT rfl ?_ | refine Sim.condF rfl ?_)
  refine Sim.loop (σ := Nat × Value) (fun st => [(0, .pointer (some ⟨wb, 0, none⟩)), (1, .pointer (some ⟨pb, po, none⟩)), (2, .string key), (3, .slice ka picks.length kc), (12, .int .i64 (picks.length : Int)), (13, .int .i64 (st.1 : Int)), (9, st.2)])
    (fun st w' => st.1 ≤ picks.length ∧ Up w w' ∧ Own (gtLay (m + 1)) 33 w.heap.size (fun b => w.heap.size ≤ b) w' st.2 (thingS (semOf l ps) (picks.take st.1) p.type.name key)) (fun st => picks.length - st.1) (0, .slice none 0 0) sb ⟨Nat.zero_le _, .refl _, Own.nil _ _ _ _ _⟩ ?_
  rintro ⟨i, v⟩ w1 ⟨hi, hu, ho⟩ next
  simp only at hi ho next ⊢
  by_cases hlt : i < picks.length
  rotate_left
  · have : i = picks.length := by omega
    subst this
    rw [List.take_length] at ho
    repeat (first | refine RL.vv ?_ | refine RL.p ?_ | refine RL.nil ?_ | refine Sim.seq ?_ | refine Sim.region ?_ | refine Sim.block ?_ | refine Sim.skip ?_ | refine Sim.inBlock ?_ | refine Sim.exit rfl ?_ | refine Sim.condT rfl ?_ | refine Sim.condF rfl ?_)
    exact Sim.ret1 Try.func79 rfl rfl ⟨_, rfl, hu, ho⟩
  have hx : picks[i]? = some picks[i] := List.getElem?_eq_getElem hlt
  cases m with
  | zero =>
    obtain ⟨_, _, _, _, _, _, h, _⟩ := hkv.at hx
    exact h.elim
  | succ m =>
  obtain ⟨kb, ko, cs, rfl, _, hkat, hkis, _⟩ := hkv.at hx
  have hkat : At w kb (ko + i * 3) _ := hkat
  obtain ⟨j, f, hj, hf, hkind, hsub⟩ := goes_pick hI.ok hI.mem hgo hx
  have hsm2 := hsm.2 picks[i] (List.mem_of_getElem? hx)
  have h60 := hsm.1
  have hts : thingS (semOf l ps) (picks.take (i + 1)) p.type.name key = thingS (semOf l ps) (picks.take i) p.type.name key ++ [pickS (semOf l ps) picks[i] p.type.name key] := by
    rw [List.take_succ_eq_append_getElem hlt, thingS_app]
    simp [thingS]
  have hlen : (thingS (semOf l ps) (picks.take i) p.type.name key).length ≤ 60 := by
    rw [thingS_len, List.length_take]
    omega
  generalize picks[i] = q at *
  repeat (first | refine RL.vv ?_ | refine RL.p ?_ | refine RL.nil ?_ | refine Sim.seq ?_ | refine Sim.region ?_ | refine Sim.block ?_ | refine Sim.skip ?_ | refine Sim.inBlock ?_ | refine Sim.exit rfl ?_ | refine Sim.condT rfl ?_ | refine Sim.condF rfl ?_)
  refine RL.cx (H m rfl key w1 (hI.up hu) (hkat.up hu) ((pckLay (m + 1)).keep hkis (Keep.of_up hu)) hj hf hkind hsub hsm2) ?_
  rintro _ w2 ⟨cs', rfl, h12, hgi⟩
  refine ⟨_, rfl, ?_⟩
  obtain ⟨v1, v2, rfl, hv1, hv2⟩ := gt_succ.1 hgi
  obtain ⟨a1, c1, rfl, _⟩ := id hv1
  obtain ⟨a2, c2, rfl, _⟩ := id hv2
  generalize hg0 : pickS (semOf l ps) q p.type.name key = g0 at *
  have hu2 := hu.trans h12
  refine RL.bu (el := 33) [.string g0.name, .int .i64 g0.kind, .bool g0.null, .string g0.text, .slice a1 g0.sub.length c1, .slice a2 g0.subs.length c2] hu2 fun b24 w3 he24 _ hu3 h23 hb24 => ?_
  have hs1 := hu.size
  have hs12 := h12.size
  refine RL.app (L := gtLay (m + 1 + 1)) (el := 33) (S := fun b => w.heap.size ≤ b) (B := w.heap.size) (ys := [g0]) hu3 ((ho.up h12).up h23) (SliceOf.one hb24 ⟨by omega, (ho.up h12).ne (Nat.le_of_eq he24.symm)⟩ ((gtLay (m + 1 + 1)).mono ((gtLay (m + 1 + 1)).keep hgi (Keep.of_up h23)) fun b hb => ⟨by omega, ho.ne hb⟩)) (by simp only [List.length_cons, List.length_nil]; omega) (Nat.le_refl _) (by have := hu3.size; omega) fun v' w4 hu4 ho2 hg hv => ?_
  repeat (first | refine RL.vv ?_ | refine RL.p ?_ | refine RL.nil ?_ | refine Sim.seq ?_ | refine Sim.region ?_ | refine Sim.block ?_ | refine Sim.skip ?_ | refine Sim.inBlock ?_ | refine Sim.exit rfl ?_ | refine Sim.condT rfl ?_ | refine Sim.condF rfl ?_)
  exact next (i + 1, v') _ _ ⟨by first | omega | (simp only; omega), hu4, by simp only; rw [hts]; exact ho2⟩ (by first | omega | (simp only; omega)) sb
theorem mthing_any : ∀ m, ThingC m
  | 0 => thing_gen fun n h => by cases h
  | m + 1 => thing_gen fun n h => by cases h; exact pick_any (mthing_any m)
set_option maxHeartbeats 2000000 in
theorem Mean_any {m : Nat} {S S3 : Nat → Prop} {lv kv : Value} {l : List Svc} (q : Ak) (w : World) (hl : SliceOf svcLay S w lv l) (hps : SliceOf (pckLay (m + 1)) S3 w kv q.picks) :
    Calls Try.prog 37 #[lv, .agg #[.string q.type, .string q.key, kv]] w fun en w' => ∃ v, en = .returned (.tuple #[v, .int .i64 (meanM (m + 1) l q).2]) ∧ Up w w' ∧ Own (gtLay (m + 2)) 33 w.heap.size (fun b => w.heap.size ≤ b) w' v (meanM (m + 1) l q).1 := by
  refine calls_of_sim Try.func37 rfl (Nat.le_of_ble_eq_true rfl) ?_
  obtain ⟨la, lc, rfl, _⟩ := id hl
  obtain ⟨ka, kc, rfl, _⟩ := id hps
  repeat (first | refine RL.vv ?_ | refine RL.p ?_ | refine RL.nil ?_ | refine Sim.seq ?_ | refine Sim.region ?_ | refine Sim.block ?_ | refine Sim.skip ?_ | refine Sim.inBlock ?_ | refine Sim.exit rfl ?_ | refine Sim.condT rfl ?_ | refine Sim.condF rfl ?_)
  refine RL.bx (.refl w) fun b3 w1 he3 hle3 hu _ hb3 => ?_
  have hb3 : Box w1 b3 _ [.string q.type, .string q.key, .slice ka q.picks.length kc] := hb3
  repeat (first | refine RL.vv ?_ | refine RL.p ?_ | refine RL.nil ?_ | refine Sim.seq ?_ | refine Sim.region ?_ | refine Sim.block ?_ | refine Sim.skip ?_ | refine Sim.inBlock ?_ | refine Sim.exit rfl ?_ | refine Sim.condT rfl ?_ | refine Sim.condF rfl ?_)
  refine RL.cx (MAll_any w1 (hl.up hu)) ?_
  rintro _ w2 ⟨pv, rfl, h12, hds, lab, hp⟩
  refine ⟨_, rfl, ?_⟩
  have hu2 := hu.trans h12
  have hb3 := hb3.up h12
  have hparts := hp.parts.mono (S' := fun _ => True) fun _ _ => trivial
  obtain ⟨pa, pc, rfl, hpnc, hpcm, _⟩ := id hparts
  unfold fltV
  unfold maxLen at hpcm
  clear h12 hp hu
  repeat (first | refine RL.vv ?_ | refine RL.p ?_ | refine RL.nil ?_ | refine Sim.seq ?_ | refine Sim.region ?_ | refine Sim.block ?_ | refine Sim.skip ?_ | refine Sim.inBlock ?_ | refine Sim.exit rfl ?_ | refine Sim.condT rfl ?_ | refine Sim.condF rfl ?_)
  refine RL.al hu2 fun b7 w3 he7 hle7 hu3 h23 hb7 => ?_
  have hne : b3 ≠ b7 := by have := hb3.lt; omega
  have hb3 := hb3.up h23
  repeat (first | refine RL.vv ?_ | refine RL.p ?_ | refine RL.nil ?_ | refine Sim.seq ?_ | refine Sim.region ?_ | refine Sim.block ?_ | refine Sim.skip ?_ | refine Sim.inBlock ?_ | refine Sim.exit rfl ?_ | refine Sim.condT rfl ?_ | refine Sim.condF rfl ?_)
  refine RL.st hu3 hb7 hle7 fun w4 hu hbt hb7 => ?_
  have h24 := Up.but h23 hbt (Nat.le_of_eq he7.symm)
  have hb7 : Box w4 b7 _ [.int .i64 (allM l).2.err, .int .i64 (allM l).2.at_] := hb7
  have hb3 := hb3.but hbt hne
  have hparts := hparts.up h24
  have ha7 := hb7.at
  have ha3 := hb3.at
  clear hbt h23 h24 hu2 hu3 he7
  unfold meanM
  by_cases he : (allM l).2.err = 0
  rotate_left
  · rw [if_neg he]
    repeat (first | refine RL.vv ?_ | refine RL.p ?_ | refine RL.nil ?_ | refine Sim.seq ?_ | refine Sim.region ?_ | refine Sim.block ?_ | refine Sim.skip ?_ | refine Sim.inBlock ?_ | refine Sim.exit rfl ?_ | refine Sim.condT rfl ?_ | refine Sim.condF rfl ?_)
    refine Sim.q ?_
    repeat (first | refine RQ.vv ?_ | refine RQ.p ?_)
    refine RQ.nil fun w5 h45 => ?_
    repeat (first | refine RL.vv ?_ | refine RL.p ?_ | refine RL.nil ?_ | refine Sim.seq ?_ | refine Sim.region ?_ | refine Sim.block ?_ | refine Sim.skip ?_ | refine Sim.inBlock ?_ | refine Sim.exit rfl ?_ | refine Sim.condT rfl ?_ | refine Sim.condF rfl ?_)
    exact Sim.ret2 Try.func37 rfl rfl rfl ⟨_, rfl, hu.trans h45, Own.nil _ _ _ _ _⟩
  rw [if_pos he]
  repeat (first | refine RL.vv ?_ | refine RL.p ?_ | refine RL.nil ?_ | refine Sim.seq ?_ | refine Sim.region ?_ | refine Sim.block ?_ | refine Sim.skip ?_ | refine Sim.inBlock ?_ | refine Sim.exit rfl ?_ | refine Sim.condT rfl ?_ | refine Sim.condF rfl ?_)
  refine RL.cu hu (Check_any q w4 hparts (hps.up hu)) fun w5 hu h45 => ?_
  have hb3 := hb3.up h45
  have hparts := hparts.up h45
  clear ha7 ha3 h45 hb7
  have ha3 := hb3.at
  by_cases hc : checkM (m + 1) (allM l).1 q = 0
  rotate_left
  · rw [if_neg hc]
    repeat (first | refine RL.vv ?_ | refine RL.p ?_ | refine RL.nil ?_ | refine Sim.seq ?_ | refine Sim.region ?_ | refine Sim.block ?_ | refine Sim.skip ?_ | refine Sim.inBlock ?_ | refine Sim.exit rfl ?_ | refine Sim.condT rfl ?_ | refine Sim.condF rfl ?_)
    exact Sim.ret2 Try.func37 rfl rfl rfl ⟨_, rfl, hu, Own.nil _ _ _ _ _⟩
  rw [if_pos hc]
  obtain ⟨hc1, hc2, hc3, hc4⟩ := checkM_zero.1 hc
  have hsm := shapeM_small (m + 1) q.picks 1 0 (by decide) (by decide) hc3
  have hw := wholeOk he
  obtain ⟨k, t, hk, htk, htn, _⟩ := goes_ok hc4
  repeat (first | refine RL.vv ?_ | refine RL.p ?_ | refine RL.nil ?_ | refine Sim.seq ?_ | refine Sim.region ?_ | refine Sim.block ?_ | refine Sim.skip ?_ | refine Sim.inBlock ?_ | refine Sim.exit rfl ?_ | refine Sim.condT rfl ?_ | refine Sim.condF rfl ?_)
  refine RL.val trivial rfl (y_build (v := .agg #[.slice la l.length lc, .slice pa (allM l).1.length pc]) rfl (fun w => by kernel_rfl)) ?_
  refine RL.bx hu fun b9 w6 he9 hle9 hu h56 hb9 => ?_
  have hb9 : Box w6 b9 _ [.slice la l.length lc, .slice pa (allM l).1.length pc] := hb9
  have ha3 := ha3.up h56
  have hparts := hparts.up h56
  clear hb3 h56 he9
  have hkl := (List.getElem?_eq_some_iff.1 htk).1
  obtain ⟨tb, to, cs, he2, _, htat, ⟨fv, ov, hv, rfl, hfv, hov, hhv⟩, _⟩ := hparts.at htk
  subst he2
  have htat : At w6 tb (to + k * 4) _ := htat
  have hI : InW S (fun _ => True) b9 tb (to + k * 4) (.slice la l.length lc) (.slice (some ⟨tb, to, none⟩) (allM l).1.length pc) fv ov hv l (allM l).1 t w6 := ⟨hw, List.mem_of_getElem? htk, hb9.at, hl.up hu, hparts, htat, hfv, hov, hhv⟩
  repeat (first | refine RL.vv ?_ | refine RL.p ?_ | refine RL.nil ?_ | refine Sim.seq ?_ | refine Sim.region ?_ | refine Sim.block ?_ | refine Sim.skip ?_ | refine Sim.inBlock ?_ | refine Sim.exit rfl ?_ | refine Sim.condT rfl ?_ | refine Sim.condF rfl ?_)
  refine RL.cu hu (c_val (PFind_any q.type w6 hparts) (by rw [hk])) fun w7 hu h67 => ?_
  have ha3 := ha3.up h67
  have hI := hI.up h67
  clear h67 hb9 htat hparts hfv hov hhv
  repeat (first | refine RL.vv ?_ | refine RL.p ?_ | refine RL.nil ?_ | refine Sim.seq ?_ | refine Sim.region ?_ | refine Sim.block ?_ | refine Sim.skip ?_ | refine Sim.inBlock ?_ | refine Sim.exit rfl ?_ | refine Sim.condT rfl ?_ | refine Sim.condF rfl ?_)
  have hth : (semOf l (allM l).1).there q.type q.key = thereM l t q.key := by rw [← htn]; simp only [semOf, partM_at hw htk]
  refine RL.cu hu (there_any t q.key w7 hI.whole hI.svcs hI.part hI.homes (hw.home t (List.mem_of_getElem? htk))) fun w8 hu h78 => ?_
  have ha3 := ha3.up h78
  have hI := hI.up h78
  rw [hth]
  cases ht : thereM l t q.key with
  | false =>
    rw [if_neg (by decide)]
    repeat (first | refine RL.vv ?_ | refine RL.p ?_ | refine RL.nil ?_ | refine Sim.seq ?_ | refine Sim.region ?_ | refine Sim.block ?_ | refine Sim.skip ?_ | refine Sim.inBlock ?_ | refine Sim.exit rfl ?_ | refine Sim.condT rfl ?_ | refine Sim.condF rfl ?_)
    exact Sim.ret2 Try.func37 rfl rfl rfl ⟨_, rfl, hu, Own.nil _ _ _ _ _⟩
  | true =>
    rw [if_pos rfl]
    repeat (first | refine RL.vv ?_ | refine RL.p ?_ | refine RL.nil ?_ | refine Sim.seq ?_ | refine Sim.region ?_ | refine Sim.block ?_ | refine Sim.skip ?_ | refine Sim.inBlock ?_ | refine Sim.exit rfl ?_ | refine Sim.condT rfl ?_ | refine Sim.condF rfl ?_)
    refine RL.cx (mthing_any (m + 1) q.key w8 hI (hps.up hu) (by rw [htn]; exact hc4) hsm) ?_
    rintro _ w9 ⟨v, rfl, h89, ho⟩
    refine ⟨_, rfl, ?_⟩
    rw [htn] at ho
    have hs8 := hu.size
    repeat (first | refine RL.vv ?_ | refine RL.p ?_ | refine RL.nil ?_ | refine Sim.seq ?_ | refine Sim.region ?_ | refine Sim.block ?_ | refine Sim.skip ?_ | refine Sim.inBlock ?_ | refine Sim.exit rfl ?_ | refine Sim.condT rfl ?_ | refine Sim.condF rfl ?_)
    exact Sim.ret2 Try.func37 rfl rfl rfl ⟨_, rfl, hu.trans h89, (ho.base hs8).shift fun b hb _ _ => Nat.le_trans hs8 hb⟩
end Go.Proofs.Ytgckpmcdlciibab

namespace Go.Proofs.Ytgckpmcdlciibab
open Go.RowKit
def SameGotC (m : Nat) : Prop := ∀ {S S' : Nat → Prop} {va vb : Value} {l : List Gt} (w : World), SliceOf (gtLay m) S w va l → SliceOf (gtLay m) S' w vb l → Calls Try.prog 39 #[va, vb] w fun en w' => en = .returned (.bool true) ∧ Up w w'
set_option maxHeartbeats 4000000 in
theorem SameGot_gen {m : Nat} (H : ∀ n, m = n + 1 → SameGotC n) : SameGotC m := by
  intro S S' va vb l w hl hl'
  refine calls_of_sim Try.func39 rfl (Nat.le_of_ble_eq_true rfl) ?_
  obtain ⟨aa, ac, rfl, hnc, hcm, _⟩ := id hl
  obtain ⟨aa', ac', rfl, hnc', hcm', _⟩ := id hl'
  unfold maxLen at hcm hcm'
  have hll : (l.length : Int) = (l.length : Int) := rfl
  repeat (first | refine RL.vv ?_ | refine RL.p ?_ | refine RL.nil ?_ | refine Sim.seq ?_ | refine Sim.region ?_ | refine Sim.block ?_ | refine Sim.skip ?_ | refine Sim.inBlock ?_ | refine Sim.exit rfl ?_ | refine Sim.condT rfl ?_ | refine Sim.condF rfl ?_)
  refine Sim.loop (σ := Nat) (fun i => [(0, .slice aa l.length ac), (1, .slice aa' l.length ac'), (15, .int .i64 (l.length : Int)), (16, .int .i64 (i : Int))]) (fun i w' => i ≤ l.length ∧ Up w w') (fun i => l.length - i) 0 sb ⟨Nat.zero_le _, .refl _⟩ ?_
  rintro i w1 ⟨hi, hu⟩ next0
  by_cases hlt : i < l.length
  rotate_left
  · repeat (first | refine RL.vv ?_ | refine RL.p ?_ | refine RL.nil ?_ | refine Sim.seq ?_ | refine Sim.region ?_ | refine Sim.block ?_ | refine Sim.skip ?_ | refine Sim.inBlock ?_ | refine Sim.exit rfl ?_ | refine Sim.condT rfl ?_ | refine Sim.condF rfl ?_)
    exact Sim.ret1 Try.func39 rfl rfl ⟨rfl, hu⟩
  have hx : l[i]? = some l[i] := List.getElem?_eq_getElem hlt
  cases m with
  | zero =>
    obtain ⟨_, _, _, _, _, _, h, _⟩ := hl.at hx
    exact h.elim
  | succ m =>
  obtain ⟨gb, go, cs, rfl, _, hgat, hgi, _⟩ := (hl.up hu).at hx
  obtain ⟨gb', go', cs', rfl, _, hgat', hgi', _⟩ := (hl'.up hu).at hx
  have hgat : At w1 gb (go + i * 6) _ := hgat
  have hgat' : At w1 gb' (go' + i * 6) _ := hgat'
  generalize l[i] = g at *
  obtain ⟨v1, v2, rfl, hv1, hv2⟩ := gt_succ.1 hgi
  obtain ⟨v1', v2', rfl, hv1', hv2'⟩ := gt_succ.1 hgi'
  obtain ⟨a1, c1, rfl, _⟩ := id hv1
  obtain ⟨a2, c2, rfl, hn2, hm2, _⟩ := id hv2
  obtain ⟨a1', c1', rfl, _⟩ := id hv1'
  obtain ⟨a2', c2', rfl, hn2', hm2', _⟩ := id hv2'
  unfold maxLen at hm2 hm2'
  repeat (first | refine RL.vv ?_ | refine RL.p ?_ | refine RL.nil ?_ | refine Sim.seq ?_ | refine Sim.region ?_ | refine Sim.block ?_ | refine Sim.skip ?_ | refine Sim.inBlock ?_ | refine Sim.exit rfl ?_ | refine Sim.condT rfl ?_ | refine Sim.condF rfl ?_)
  refine Sim.cutX (σ := Nat × Nat) (fun st => [(0, .slice (some ⟨gb, go, none⟩) l.length ac), (1, .slice (some ⟨gb', go', none⟩) l.length ac'), (15, .int .i64 (l.length : Int)), (16, .int .i64 (i : Int)), (5, .int .i64 (i : Int)), (6, .pointer (some ⟨st.1, 0, none⟩)), (7, .pointer (some ⟨st.2, 0, none⟩))])
    (fun st w' => Up w1 w' ∧ At w' st.1 0 [.string g.name, .int .i64 g.kind, .bool g.null, .string g.text, .slice a1 g.sub.length c1, .slice a2 g.subs.length c2] ∧ At w' st.2 0 [.string g.name, .int .i64 g.kind, .bool g.null, .string g.text, .slice a1' g.sub.length c1', .slice a2' g.subs.length c2']) (fun k' next => ?_) ?_
  · refine Sim.ord (Up w1) ?_
    refine RO.tk 0 ?_
    refine RO.tk 1 ?_
    refine RO.tk 2 ?_
    refine RO.tk 3 ?_
    refine RO.tk 4 ?_
    refine RO.tk 5 ?_
    refine RO.tk 6 ?_
    refine RO.tk 7 ?_
    have h0 := Up.drew w1
    refine RO.two 8 9 ?_ ?_
    · refine RL.al h0 fun b6 w4 _ h6 h0 _ hb6 => ?_
      refine RL.ord h0 ?_
      refine RO.one 9 ?_
      refine RL.al h0 fun b7 w5 _ h7 h0 h hb7 => ?_
      have h67 : b6 ≠ b7 := by have := hb6.lt; omega
      have hb6 := hb6.up h
      refine RL.ord h0 ?_
      refine RO.one 10 ?_
      refine RL.st h0 hb6 h6 fun w6 h0 hbt hb6 => ?_
      have hb6 : Box w6 b6 _ [.string g.name, .int .i64 g.kind, .bool g.null, .string g.text, .slice a1 g.sub.length c1, .slice a2 g.subs.length c2] := hb6
      have hb7 := hb7.but hbt (Ne.symm h67)
      refine RL.ord h0 ?_
      refine RO.one 11 ?_
      refine RL.st h0 hb7 h7 fun w7 h0 hbt hb7 => ?_
      have hb7 : Box w7 b7 _ [.string g.name, .int .i64 g.kind, .bool g.null, .string g.text, .slice a1' g.sub.length c1', .slice a2' g.subs.length c2'] := hb7
      have ha6 := (hb6.but hbt h67).at
      have ha7 := hb7.at
      refine RL.ord h0 ?_
      refine RO.done (RL.nil ?_)
      exact next (b6, b7) _ _ ⟨h0, ha6, ha7⟩ sb
    · refine RL.al h0 fun b7 w4 _ h7 h0 _ hb7 => ?_
      refine RL.ord h0 ?_
      refine RO.one 8 ?_
      refine RL.al h0 fun b6 w5 _ h6 h0 h hb6 => ?_
      have h67 : b6 ≠ b7 := by have := hb7.lt; omega
      have hb7 := hb7.up h
      refine RL.ord h0 ?_
      refine RO.one 10 ?_
      refine RL.st h0 hb6 h6 fun w6 h0 hbt hb6 => ?_
      have hb6 : Box w6 b6 _ [.string g.name, .int .i64 g.kind, .bool g.null, .string g.text, .slice a1 g.sub.length c1, .slice a2 g.subs.length c2] := hb6
      have hb7 := hb7.but hbt (Ne.symm h67)
      refine RL.ord h0 ?_
      refine RO.one 11 ?_
      refine RL.st h0 hb7 h7 fun w7 h0 hbt hb7 => ?_
      have hb7 : Box w7 b7 _ [.string g.name, .int .i64 g.kind, .bool g.null, .string g.text, .slice a1' g.sub.length c1', .slice a2' g.subs.length c2'] := hb7
      have ha6 := (hb6.but hbt h67).at
      have ha7 := hb7.at
      refine RL.ord h0 ?_
      refine RO.done (RL.nil ?_)
      exact next (b6, b7) _ _ ⟨h0, ha6, ha7⟩ sb
  rintro ⟨b6, b7⟩ w2 ⟨h12, ha6, ha7⟩
  simp only at ha6 ha7 ⊢
  have hu2 := hu.trans h12
  have e1 : g.name = g.name := rfl
  have e2 : g.text = g.text := rfl
  have e3 : g.kind = g.kind := rfl
  have e4 : (g.subs.length : Int) = (g.subs.length : Int) := rfl
  repeat (first | refine RL.vv ?_ | refine RL.p ?_ | refine RL.nil ?_ | refine Sim.seq ?_ | refine Sim.region ?_ | refine Sim.block ?_ | refine Sim.skip ?_ | refine Sim.inBlock ?_ | refine Sim.exit rfl ?_ | refine Sim.condT rfl ?_ | refine Sim.condF rfl ?_)
  refine RL.cu hu2 (H m rfl w2 (hv1.up h12) (hv1'.up h12)) fun w3 hu3 h23 => ?_
  have ha6 := ha6.up h23
  have ha7 := ha7.up h23
  have hv2 := (hv2.up h12).up h23
  have hv2' := (hv2'.up h12).up h23
  clear h12 h23 hu2 hgat hgat'
  repeat (first | refine RL.vv ?_ | refine RL.p ?_ | refine RL.nil ?_ | refine Sim.seq ?_ | refine Sim.region ?_ | refine Sim.block ?_ | refine Sim.skip ?_ | refine Sim.inBlock ?_ | refine Sim.exit rfl ?_ | refine Sim.condT rfl ?_ | refine Sim.condF rfl ?_)
  refine Sim.loop (σ := Nat) (fun k => [(0, .slice (some ⟨gb, go, none⟩) l.length ac), (1, .slice (some ⟨gb', go', none⟩) l.length ac'), (15, .int .i64 (l.length : Int)), (16, .int .i64 (i : Int)), (6, .pointer (some ⟨b6, 0, none⟩)), (7, .pointer (some ⟨b7, 0, none⟩)), (72, .int .i64 (g.subs.length : Int)), (73, .int .i64 (k : Int))]) (fun k w' => k ≤ g.subs.length ∧ Up w3 w') (fun k => g.subs.length - k) 0 sb ⟨Nat.zero_le _, .refl _⟩ ?_
  rintro k w4 ⟨hk, h34⟩ next
  by_cases hkl : k < g.subs.length
  rotate_left
  · repeat (first | refine RL.vv ?_ | refine RL.p ?_ | refine RL.nil ?_ | refine Sim.seq ?_ | refine Sim.region ?_ | refine Sim.block ?_ | refine Sim.skip ?_ | refine Sim.inBlock ?_ | refine Sim.exit rfl ?_ | refine Sim.condT rfl ?_ | refine Sim.condF rfl ?_)
    exact next0 (i + 1) _ _ ⟨by omega, hu3.trans h34⟩ (by omega) sb
  have hy : g.subs[k]? = some g.subs[k] := List.getElem?_eq_getElem hkl
  obtain ⟨ub, uo, cs, rfl, _, hsat, ⟨sv, rfl, hsv⟩, _⟩ := (hv2.up h34).at hy
  obtain ⟨ub', uo', cs, rfl, _, hsat', ⟨sv', rfl, hsv'⟩, _⟩ := (hv2'.up h34).at hy
  have hsat : At w4 ub (uo + k * 1) _ := hsat
  have hsat' : At w4 ub' (uo' + k * 1) _ := hsat'
  have ha6 := ha6.up h34
  have ha7 := ha7.up h34
  generalize g.subs[k] = s at *
  obtain ⟨x1, y1, rfl, _⟩ := id hsv
  obtain ⟨x2, y2, rfl, _⟩ := id hsv'
  repeat (first | refine RL.vv ?_ | refine RL.p ?_ | refine RL.nil ?_ | refine Sim.seq ?_ | refine Sim.region ?_ | refine Sim.block ?_ | refine Sim.skip ?_ | refine Sim.inBlock ?_ | refine Sim.exit rfl ?_ | refine Sim.condT rfl ?_ | refine Sim.condF rfl ?_)
  refine Sim.q ?_
  repeat (first | refine RQ.vv ?_ | refine RQ.p ?_)
  refine RQ.cu (fun wq hq => q_call (H m rfl wq (hsv.up hq) (hsv'.up hq)) hq) ?_
  repeat (first | refine RQ.vv ?_ | refine RQ.p ?_)
  refine RQ.nil fun w5 h45 => ?_
  repeat (first | refine RL.vv ?_ | refine RL.p ?_ | refine RL.nil ?_ | refine Sim.seq ?_ | refine Sim.region ?_ | refine Sim.block ?_ | refine Sim.skip ?_ | refine Sim.inBlock ?_ | refine Sim.exit rfl ?_ | refine Sim.condT rfl ?_ | refine Sim.condF rfl ?_)
  exact next (k + 1) _ _ ⟨by omega, h34.trans h45⟩ (by omega) sb
theorem SameGot_any : ∀ m, SameGotC m
  | 0 => SameGot_gen fun n h => by cases h
  | m + 1 => SameGot_gen fun n h => by cases h; exact SameGot_any m
end Go.Proofs.Ytgckpmcdlciibab
