/- The walk of ServeFields. -/
import Derived.Test.YtgckpmcdlciibabZM
namespace Go.Proofs.Ytgckpmcdlciibab
open Go.RowKit
set_option maxHeartbeats 2000000 in
theorem ServeFields_walk {S S2 S3 : Nat → Prop} {lv kv fv : Value} {l : List Svc} (q : Rq) (w : World) (hl : SliceOf svcLay S w lv l) (hk : SliceOf strLay S2 w kv q.keys) (hf : SliceOf strLay S3 w fv q.fields) (hok : ∀ s ∈ l, okSvc s) (hqk : q.keys.length * 16 ≤ 140737488351232) :
    Calls Try.prog 6 #[lv, .agg #[.int .i64 q.service, .string q.type, kv, fv]] w fun en w' => en = .returned (.bool true) ∧ Up w w' := by
  refine calls_of_sim Try.func6 rfl (Nat.le_of_ble_eq_true rfl) ?_
  obtain ⟨la, lc, rfl, _⟩ := id hl
  obtain ⟨ka, kc, rfl, hknc, hkcm, _⟩ := id hk
  obtain ⟨fa, fc, rfl, hfnc, hfcm, _⟩ := id hf
  unfold maxLen at hkcm hfcm
  repeat (first | refine RL.vv ?_ | refine RL.p ?_ | refine RL.nil ?_ | refine Sim.seq ?_ | refine Sim.region ?_ | refine Sim.block ?_ | refine Sim.skip ?_ | refine Sim.inBlock ?_ | refine Sim.exit rfl ?_ | refine Sim.condT rfl ?_ | refine Sim.condF rfl ?_)
  refine RL.bx (.refl w) fun b3 w1 _ _ hu _ hb3 => ?_
  repeat (first | refine RL.vv ?_ | refine RL.p ?_ | refine RL.nil ?_ | refine Sim.seq ?_ | refine Sim.region ?_ | refine Sim.block ?_ | refine Sim.skip ?_ | refine Sim.inBlock ?_ | refine Sim.exit rfl ?_ | refine Sim.condT rfl ?_ | refine Sim.condF rfl ?_)
  refine RL.cu hu (alive5_any w1) fun w2 hu h12 => ?_
  have hb3 := hb3.up h12
  have ha3 := hb3.at
  clear h12
  repeat (first | refine RL.vv ?_ | refine RL.p ?_ | refine RL.nil ?_ | refine Sim.seq ?_ | refine Sim.region ?_ | refine Sim.block ?_ | refine Sim.skip ?_ | refine Sim.inBlock ?_ | refine Sim.exit rfl ?_ | refine Sim.condT rfl ?_ | refine Sim.condF rfl ?_)
  refine RL.cx (SAnswer_any q w2 (hl.up hu) (hk.up hu) (hf.up hu) hok hqk) ?_
  rintro _ w3 ⟨a, b, rfl, h23, hr⟩
  refine ⟨_, rfl, ?_⟩
  have hu := hu.trans h23
  have hb3 := hb3.up h23
  obtain ⟨aa, an, ac, rfl⟩ := hr.1.sh
  obtain ⟨ba, bn, bc, rfl⟩ := hr.2.1.sh
  clear h23 ha3
  repeat (first | refine RL.vv ?_ | refine RL.p ?_ | refine RL.nil ?_ | refine Sim.seq ?_ | refine Sim.region ?_ | refine Sim.block ?_ | refine Sim.skip ?_ | refine Sim.inBlock ?_ | refine Sim.exit rfl ?_ | refine Sim.condT rfl ?_ | refine Sim.condF rfl ?_)
  refine RL.al (.refl w3) fun b5 w4 he5 hle5 _ h34 hb5 => ?_
  repeat (first | refine RL.vv ?_ | refine RL.p ?_ | refine RL.nil ?_ | refine Sim.seq ?_ | refine Sim.region ?_ | refine Sim.block ?_ | refine Sim.skip ?_ | refine Sim.inBlock ?_ | refine Sim.exit rfl ?_ | refine Sim.condT rfl ?_ | refine Sim.condF rfl ?_)
  refine RL.st h34 hb5 hle5 fun w5 h35 _ hb5 => ?_
  have hb5 : Box w5 b5 _ [.slice aa an ac, .slice ba bn bc] := hb5
  have hu := hu.trans h35
  have hb3 := hb3.up h35
  have hr := hr.up h35
  clear h34 h35 he5 hle5
  by_cases he : (answerM l q).2 = 0
  rotate_left
  · repeat (first | refine RL.vv ?_ | refine RL.p ?_ | refine RL.nil ?_ | refine Sim.seq ?_ | refine Sim.region ?_ | refine Sim.block ?_ | refine Sim.skip ?_ | refine Sim.inBlock ?_ | refine Sim.exit rfl ?_ | refine Sim.condT rfl ?_ | refine Sim.condF rfl ?_)
    exact Sim.ret1 Try.func6 rfl rfl ⟨rfl, hu⟩
  repeat (first | refine RL.vv ?_ | refine RL.p ?_ | refine RL.nil ?_ | refine Sim.seq ?_ | refine Sim.region ?_ | refine Sim.block ?_ | refine Sim.skip ?_ | refine Sim.inBlock ?_ | refine Sim.exit rfl ?_ | refine Sim.condT rfl ?_ | refine Sim.condF rfl ?_)
  refine RL.cu hu (MWrong_any w5 (hl.up hu)) fun w6 hu h56 => ?_
  unfold fltV
  have hb3 := hb3.up h56
  have hb5 := hb5.up h56
  have hr := hr.up h56
  have ha3 := hb3.at
  have ha5 := hb5.at
  clear h56
  refine RL.val ⟨_, _, rfl, rfl, rfl⟩ rfl (y_field (v := .int .i64 (wrongS l).err) rfl (fun w => by kernel_rfl)) ?_
  by_cases hw : (wrongS l).err = 0
  rotate_left
  · repeat (first | refine RL.vv ?_ | refine RL.p ?_ | refine RL.nil ?_ | refine Sim.seq ?_ | refine Sim.region ?_ | refine Sim.block ?_ | refine Sim.skip ?_ | refine Sim.inBlock ?_ | refine Sim.exit rfl ?_ | refine Sim.condT rfl ?_ | refine Sim.condF rfl ?_)
    exact Sim.ret1 Try.func6 rfl rfl ⟨rfl, hu⟩
  obtain ⟨h1, h2, hlaw⟩ := serve_fields he hw
  generalize (answerM l q).1 = r at *
  have hfs := (hr.1.no (S' := No)).sl (S' := All) (fun _ h _ _ => h.elim) (fun _ _ => trivial)
  have hvs := hr.2.1.sl (S' := All) (fun _ _ _ _ => trivial) (fun _ _ => trivial)
  obtain ⟨_, _, ee, _⟩ := id hfs
  simp only [Value.slice.injEq] at ee
  obtain ⟨_, rfl, _⟩ := ee
  obtain ⟨_, _, ee, _⟩ := id hvs
  simp only [Value.slice.injEq] at ee
  obtain ⟨_, rfl, _⟩ := ee
  repeat (first | refine RL.vv ?_ | refine RL.p ?_ | refine RL.nil ?_ | refine Sim.seq ?_ | refine Sim.region ?_ | refine Sim.block ?_ | refine Sim.skip ?_ | refine Sim.inBlock ?_ | refine Sim.exit rfl ?_ | refine Sim.condT rfl ?_ | refine Sim.condF rfl ?_)
  refine Sim.loop (σ := Nat) (fun i => [(3, .pointer (some ⟨b3, 0, none⟩)), (5, .pointer (some ⟨b5, 0, none⟩)), (44, .int .i64 (r.found.length : Int)), (45, .int .i64 (i : Int))]) (fun i w' => i ≤ r.found.length ∧ Up w6 w') (fun i => r.found.length - i) 0 sb ⟨Nat.zero_le _, .refl _⟩ ?_
  rintro i w7 ⟨hi, h67⟩ next
  by_cases hlt : i < r.found.length
  rotate_left
  · repeat (first | refine RL.vv ?_ | refine RL.p ?_ | refine RL.nil ?_ | refine Sim.seq ?_ | refine Sim.region ?_ | refine Sim.block ?_ | refine Sim.skip ?_ | refine Sim.inBlock ?_ | refine Sim.exit rfl ?_ | refine Sim.condT rfl ?_ | refine Sim.condF rfl ?_)
    exact Sim.ret1 Try.func6 rfl rfl ⟨rfl, hu.trans h67⟩
  have ha3 := ha3.up h67
  have ha5 := ha5.up h67
  have hx : r.found[i]? = some r.found[i] := List.getElem?_eq_getElem hlt
  have hy : r.vals[i]? = some (r.vals[i]'(by omega)) := List.getElem?_eq_getElem (by omega)
  obtain ⟨hl1, hl2⟩ := hlaw i _ _ hx hy
  obtain ⟨xb, xo, cs, rfl, _, hxat, rfl, _⟩ := (hfs.up h67).at hx
  obtain ⟨yb, yo, cs, rfl, _, hyat, ⟨vv, rfl, hvv⟩, _⟩ := (hvs.up h67).at hy
  have hxat : At w7 xb (xo + i * 1) _ := hxat
  have hyat : At w7 yb (yo + i * 1) _ := hyat
  generalize r.found[i] = fnd at *
  generalize (r.vals[i]'(by omega)) = vs at *
  obtain ⟨va, vc, rfl, _⟩ := id hvv
  cases fnd with
  | false =>
    obtain rfl := hl1 rfl
    repeat (first | refine RL.vv ?_ | refine RL.p ?_ | refine RL.nil ?_ | refine Sim.seq ?_ | refine Sim.region ?_ | refine Sim.block ?_ | refine Sim.skip ?_ | refine Sim.inBlock ?_ | refine Sim.exit rfl ?_ | refine Sim.condT rfl ?_ | refine Sim.condF rfl ?_)
    exact next (i + 1) _ _ ⟨by omega, h67⟩ (by omega) sb
  | true =>
    have hm := hl2 rfl
    have hlen : vs.length = q.fields.length := by rw [← hm]; simp
    repeat (first | refine RL.vv ?_ | refine RL.p ?_ | refine RL.nil ?_ | refine Sim.seq ?_ | refine Sim.region ?_ | refine Sim.block ?_ | refine Sim.skip ?_ | refine Sim.inBlock ?_ | refine Sim.exit rfl ?_ | refine Sim.condT rfl ?_ | refine Sim.condF rfl ?_)
    refine Sim.q ?_
    repeat (first | refine RQ.vv ?_ | refine RQ.p ?_)
    refine RQ.nil fun w8 hq => ?_
    have ha3 := ha3.up hq
    have ha5 := ha5.up hq
    have hyat := hyat.up hq
    have hvv := hvv.up hq
    have hu8 := (hu.trans h67).trans hq
    repeat (first | refine RL.vv ?_ | refine RL.p ?_ | refine RL.nil ?_ | refine Sim.seq ?_ | refine Sim.region ?_ | refine Sim.block ?_ | refine Sim.skip ?_ | refine Sim.inBlock ?_ | refine Sim.exit rfl ?_ | refine Sim.condT rfl ?_ | refine Sim.condF rfl ?_)
    refine Sim.loop (σ := Nat) (fun j => [(3, .pointer (some ⟨b3, 0, none⟩)), (5, .pointer (some ⟨b5, 0, none⟩)), (44, .int .i64 (r.found.length : Int)), (45, .int .i64 (i : Int)), (7, .int .i64 (i : Int)), (72, .slice fa q.fields.length fc), (73, .int .i64 (q.fields.length : Int)), (74, .int .i64 (j : Int))]) (fun j w' => j ≤ q.fields.length ∧ Up w8 w') (fun j => q.fields.length - j) 0 sb ⟨Nat.zero_le _, .refl _⟩ ?_
    rintro j w9 ⟨hj, h89⟩ next2
    by_cases hjl : j < q.fields.length
    rotate_left
    · repeat (first | refine RL.vv ?_ | refine RL.p ?_ | refine RL.nil ?_ | refine Sim.seq ?_ | refine Sim.region ?_ | refine Sim.block ?_ | refine Sim.skip ?_ | refine Sim.inBlock ?_ | refine Sim.exit rfl ?_ | refine Sim.condT rfl ?_ | refine Sim.condF rfl ?_)
      exact next (i + 1) _ _ ⟨by omega, (h67.trans hq).trans h89⟩ (by omega) sb
    have hfj : q.fields[j]? = some q.fields[j] := List.getElem?_eq_getElem hjl
    have hvj : vs[j]? = some (vs[j]'(by omega)) := List.getElem?_eq_getElem (by omega)
    have heq : (vs[j]'(by omega)).field = q.fields[j] := by
      have := congrArg (fun l => l[j]?) hm
      simp only [List.getElem?_map, hvj, hfj, Option.map_some, Option.some.injEq] at this
      exact this
    obtain ⟨fb, fo, cs, rfl, _, hfat, rfl, _⟩ := (hf.up (hu8.trans h89)).at hfj
    obtain ⟨zb, zo, cs, rfl, _, hzat, ⟨kv2, rfl, _⟩, _⟩ := (hvv.up h89).at hvj
    have hfat : At w9 fb (fo + j * 1) _ := hfat
    have hzat : At w9 zb (zo + j * 3) _ := hzat
    have ha3 := ha3.up h89
    have ha5 := ha5.up h89
    have hyat := hyat.up h89
    repeat (first | refine RL.vv ?_ | refine RL.p ?_ | refine RL.nil ?_ | refine Sim.seq ?_ | refine Sim.region ?_ | refine Sim.block ?_ | refine Sim.skip ?_ | refine Sim.inBlock ?_ | refine Sim.exit rfl ?_ | refine Sim.condT rfl ?_ | refine Sim.condF rfl ?_)
    exact next2 (j + 1) _ _ ⟨by omega, h89⟩ (by omega) sb
end Go.Proofs.Ytgckpmcdlciibab
