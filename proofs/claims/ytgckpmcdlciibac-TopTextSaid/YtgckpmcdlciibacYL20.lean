/- The closed facts of chapters 6 and 7: two services. -/
import Derived.Test.YtgckpmcdlciibacZX
namespace Go.Proofs.Ytgckpmcdlciibac
open Go.RowKit
theorem c_fn {P : Program} {e : Env} {w : World} {ty : TypeId} {g : FuncId} {x : Operand} {args : Array Operand} {ts : Array TypeId} {vs : List Value} [Fun P g] (hx : e.ev x = some (.func (.func g) #[] #[])) (ha : e.evs args.toList = some vs) : Ent P (.call { callee := .value x, args := args, argTypes := ts }) ty e w g vs.toArray := by
  have h := c_closure (P := P) (w := w) (ty := ty) (ts := ts) (caps := #[]) hx ha
  rwa [Array.append_empty] at h
def sixUser : Str := ⟨#[117, 115, 101, 114]⟩
def sixName : Str := ⟨#[110, 97, 109, 101]⟩
def sixBoss : Str := ⟨#[98, 111, 115, 115]⟩
def sixAnn : Str := ⟨#[97, 110, 110]⟩
def sixAnnT : Str := ⟨#[65, 110, 110]⟩
def sixNo : Str := ⟨#[]⟩
def sixOne (f : Fld) (v : VVal) : Svc := ⟨[⟨sixUser, [f]⟩], [], [⟨sixUser, sixAnn, [v]⟩]⟩
def sixTwo : List Svc := [sixOne ⟨sixName, 1, sixNo⟩ ⟨sixName, sixAnnT, []⟩, sixOne ⟨sixBoss, 2, sixUser⟩ ⟨sixBoss, sixNo, [sixAnn]⟩]
set_option maxHeartbeats 400000 in
theorem user6_any {S : Nat → Prop} {kv : Value} (f : Fld) (v : VVal) (w : World) (hk : SliceOf strLay S w kv v.keys) : Calls Try.prog 58 #[.agg #[.string f.name, .int .i64 f.kind, .string f.type], .agg #[.string v.field, .string v.text, kv]] w fun en w' => ∃ v1 v3, en = .returned (.agg #[v1, .slice none 0 0, v3]) ∧ Up w w' ∧ SliceOf typLay (fun _ => True) w' v1 [⟨sixUser, [f]⟩] ∧ SliceOf thgLay (fun _ => True) w' v3 [⟨sixUser, sixAnn, [v]⟩] := by
  refine calls_of_sim Try.func58 rfl (Nat.le_of_ble_eq_true rfl) ?_
  obtain ⟨ka, kc, rfl, _⟩ := id hk
  repeat (first | refine RL.vv ?_ | refine RL.p ?_ | refine RL.nil ?_ | refine Sim.seq ?_ | refine Sim.region ?_ | refine Sim.block ?_ | refine Sim.skip ?_ | refine Sim.inBlock ?_ | refine Sim.exit rfl ?_ | refine Sim.condT rfl ?_ | refine Sim.condF rfl ?_)
  refine RL.bx (.refl w) fun b2 w1 _ _ hu1 _ hb2 => ?_
  refine RL.bx hu1 fun b3 w2 _ _ hu2 h12 hb3 => ?_
  have hb2 := hb2.up h12
  refine RL.al hu2 fun b4 w3 _ hle4 hu3 h23 hb4 => ?_
  have ha2 := (hb2.up h23).at
  have ha3 := (hb3.up h23).at
  clear h12 h23 hb2 hb3 hu1 hu2
  repeat (first | refine RL.vv ?_ | refine RL.p ?_ | refine RL.nil ?_ | refine Sim.seq ?_ | refine Sim.region ?_ | refine Sim.block ?_ | refine Sim.skip ?_ | refine Sim.inBlock ?_ | refine Sim.exit rfl ?_ | refine Sim.condT rfl ?_ | refine Sim.condF rfl ?_)
  refine RL.bu (el := 68) [.string f.name, .int .i64 f.kind, .string f.type] hu3 fun b6 w4 he6 _ hu4 h34 hb6 => ?_
  have hn6 : b6 ≠ b4 := fun e => by subst e; have := hb4.lt; omega
  have hb4 := hb4.up h34
  have ha3 := ha3.up h34
  have h6 : SliceOf fldLay (fun k => k ≠ b4) w4 (.slice (some ⟨b6, 0, none⟩) 1 1) [f] := SliceOf.one hb6 hn6 rfl
  refine RL.val trivial rfl (y_build (v := .agg #[.string sixUser, .slice (some ⟨b6, 0, none⟩) 1 1]) rfl (fun w => by kernel_rfl)) ?_
  refine RL.bu (el := 57) [.string sixUser, .slice (some ⟨b6, 0, none⟩) 1 1] hu4 fun b8 w5 he8 _ hu5 h45 hb8 => ?_
  have hn8 : b8 ≠ b4 := fun e => by subst e; have := hb4.lt; omega
  have hb4 := hb4.up h45
  have ha3 := ha3.up h45
  have h8 : SliceOf typLay (fun k => k ≠ b4) w5 (.slice (some ⟨b8, 0, none⟩) 1 1) [⟨sixUser, [f]⟩] := SliceOf.one hb8 hn8 ⟨_, rfl, h6.up h45⟩
  clear ha2
  refine RL.vv ?_ (hy := y_loadA rfl ha3 rfl)
  refine RL.bu (el := 73) [.string v.field, .string v.text, .slice ka v.keys.length kc] hu5 fun b10 w6 he10 _ hu6 h56 hb10 => ?_
  have hn10 : b10 ≠ b4 := fun e => by subst e; have := hb4.lt; omega
  have hlt4 : b4 < w6.heap.size := by have := hb4.lt; have := h56.size; omega
  have hk6 := (hk.old.up hu6).mono (S' := fun k => k ≠ b4) fun k hk => by have := hk.2; omega
  have hb4 := hb4.up h56
  have h8 := h8.up h56
  have h10 : SliceOf valLay (fun k => k ≠ b4) w6 (.slice (some ⟨b10, 0, none⟩) 1 1) [v] := SliceOf.one hb10 hn10 ⟨_, rfl, hk6⟩
  refine RL.val trivial rfl (y_build (v := .agg #[.string sixUser, .string sixAnn, .slice (some ⟨b10, 0, none⟩) 1 1]) rfl (fun w => by kernel_rfl)) ?_
  refine RL.bu (el := 64) [.string sixUser, .string sixAnn, .slice (some ⟨b10, 0, none⟩) 1 1] hu6 fun b12 w7 he12 _ hu7 h67 hb12 => ?_
  have hn12 : b12 ≠ b4 := fun e => by subst e; have := hb4.lt; omega
  have hb4 := hb4.up h67
  have h8 := h8.up h67
  have h12 : SliceOf thgLay (fun k => k ≠ b4) w7 (.slice (some ⟨b12, 0, none⟩) 1 1) [⟨sixUser, sixAnn, [v]⟩] := SliceOf.one hb12 hn12 ⟨_, rfl, h10.up h67⟩
  refine RL.val trivial rfl (y_build (v := .agg #[.slice (some ⟨b8, 0, none⟩) 1 1, .slice none 0 0, .slice (some ⟨b12, 0, none⟩) 1 1]) rfl (fun w => by kernel_rfl)) ?_
  refine RL.st hu7 hb4 hle4 fun w8 hu8 hbt hb4 => ?_
  have h8 := (h8.bt hbt (fun k hk => hk)).mono (S' := fun _ => True) fun _ _ => trivial
  have h12 := (h12.bt hbt (fun k hk => hk)).mono (S' := fun _ => True) fun _ _ => trivial
  repeat (first | refine RL.vv ?_ | refine RL.p ?_ | refine RL.nil ?_ | refine Sim.seq ?_ | refine Sim.region ?_ | refine Sim.block ?_ | refine Sim.skip ?_ | refine Sim.inBlock ?_ | refine Sim.exit rfl ?_ | refine Sim.condT rfl ?_ | refine Sim.condF rfl ?_)
  exact Sim.retC (cs := [.slice (some ⟨b8, 0, none⟩) 1 1, .slice none 0 0, .slice (some ⟨b12, 0, none⟩) 1 1]) Try.func58 rfl rfl hb4.at rfl ⟨_, _, rfl, hu8, h8, h12⟩
set_option maxHeartbeats 400000 in
theorem user7_any {S : Nat → Prop} {kv : Value} (f : Fld) (v : VVal) (w : World) (hk : SliceOf strLay S w kv v.keys) : Calls Try.prog 81 #[.agg #[.string f.name, .int .i64 f.kind, .string f.type], .agg #[.string v.field, .string v.text, kv]] w fun en w' => ∃ v1 v3, en = .returned (.agg #[v1, .slice none 0 0, v3]) ∧ Up w w' ∧ SliceOf typLay (fun _ => True) w' v1 [⟨sixUser, [f]⟩] ∧ SliceOf thgLay (fun _ => True) w' v3 [⟨sixUser, sixAnn, [v]⟩] := by
  refine calls_of_sim Try.func81 rfl (Nat.le_of_ble_eq_true rfl) ?_
  obtain ⟨ka, kc, rfl, _⟩ := id hk
  repeat (first | refine RL.vv ?_ | refine RL.p ?_ | refine RL.nil ?_ | refine Sim.seq ?_ | refine Sim.region ?_ | refine Sim.block ?_ | refine Sim.skip ?_ | refine Sim.inBlock ?_ | refine Sim.exit rfl ?_ | refine Sim.condT rfl ?_ | refine Sim.condF rfl ?_)
  refine RL.bx (.refl w) fun b2 w1 _ _ hu1 _ hb2 => ?_
  refine RL.bx hu1 fun b3 w2 _ _ hu2 h12 hb3 => ?_
  have hb2 := hb2.up h12
  refine RL.al hu2 fun b4 w3 _ hle4 hu3 h23 hb4 => ?_
  have ha2 := (hb2.up h23).at
  have ha3 := (hb3.up h23).at
  clear h12 h23 hb2 hb3 hu1 hu2
  repeat (first | refine RL.vv ?_ | refine RL.p ?_ | refine RL.nil ?_ | refine Sim.seq ?_ | refine Sim.region ?_ | refine Sim.block ?_ | refine Sim.skip ?_ | refine Sim.inBlock ?_ | refine Sim.exit rfl ?_ | refine Sim.condT rfl ?_ | refine Sim.condF rfl ?_)
  refine RL.bu (el := 68) [.string f.name, .int .i64 f.kind, .string f.type] hu3 fun b6 w4 he6 _ hu4 h34 hb6 => ?_
  have hn6 : b6 ≠ b4 := fun e => by subst e; have := hb4.lt; omega
  have hb4 := hb4.up h34
  have ha3 := ha3.up h34
  have h6 : SliceOf fldLay (fun k => k ≠ b4) w4 (.slice (some ⟨b6, 0, none⟩) 1 1) [f] := SliceOf.one hb6 hn6 rfl
  refine RL.val trivial rfl (y_build (v := .agg #[.string sixUser, .slice (some ⟨b6, 0, none⟩) 1 1]) rfl (fun w => by kernel_rfl)) ?_
  refine RL.bu (el := 57) [.string sixUser, .slice (some ⟨b6, 0, none⟩) 1 1] hu4 fun b8 w5 he8 _ hu5 h45 hb8 => ?_
  have hn8 : b8 ≠ b4 := fun e => by subst e; have := hb4.lt; omega
  have hb4 := hb4.up h45
  have ha3 := ha3.up h45
  have h8 : SliceOf typLay (fun k => k ≠ b4) w5 (.slice (some ⟨b8, 0, none⟩) 1 1) [⟨sixUser, [f]⟩] := SliceOf.one hb8 hn8 ⟨_, rfl, h6.up h45⟩
  clear ha2
  refine RL.vv ?_ (hy := y_loadA rfl ha3 rfl)
  refine RL.bu (el := 73) [.string v.field, .string v.text, .slice ka v.keys.length kc] hu5 fun b10 w6 he10 _ hu6 h56 hb10 => ?_
  have hn10 : b10 ≠ b4 := fun e => by subst e; have := hb4.lt; omega
  have hlt4 : b4 < w6.heap.size := by have := hb4.lt; have := h56.size; omega
  have hk6 := (hk.old.up hu6).mono (S' := fun k => k ≠ b4) fun k hk => by have := hk.2; omega
  have hb4 := hb4.up h56
  have h8 := h8.up h56
  have h10 : SliceOf valLay (fun k => k ≠ b4) w6 (.slice (some ⟨b10, 0, none⟩) 1 1) [v] := SliceOf.one hb10 hn10 ⟨_, rfl, hk6⟩
  refine RL.val trivial rfl (y_build (v := .agg #[.string sixUser, .string sixAnn, .slice (some ⟨b10, 0, none⟩) 1 1]) rfl (fun w => by kernel_rfl)) ?_
  refine RL.bu (el := 64) [.string sixUser, .string sixAnn, .slice (some ⟨b10, 0, none⟩) 1 1] hu6 fun b12 w7 he12 _ hu7 h67 hb12 => ?_
  have hn12 : b12 ≠ b4 := fun e => by subst e; have := hb4.lt; omega
  have hb4 := hb4.up h67
  have h8 := h8.up h67
  have h12 : SliceOf thgLay (fun k => k ≠ b4) w7 (.slice (some ⟨b12, 0, none⟩) 1 1) [⟨sixUser, sixAnn, [v]⟩] := SliceOf.one hb12 hn12 ⟨_, rfl, h10.up h67⟩
  refine RL.val trivial rfl (y_build (v := .agg #[.slice (some ⟨b8, 0, none⟩) 1 1, .slice none 0 0, .slice (some ⟨b12, 0, none⟩) 1 1]) rfl (fun w => by kernel_rfl)) ?_
  refine RL.st hu7 hb4 hle4 fun w8 hu8 hbt hb4 => ?_
  have h8 := (h8.bt hbt (fun k hk => hk)).mono (S' := fun _ => True) fun _ _ => trivial
  have h12 := (h12.bt hbt (fun k hk => hk)).mono (S' := fun _ => True) fun _ _ => trivial
  repeat (first | refine RL.vv ?_ | refine RL.p ?_ | refine RL.nil ?_ | refine Sim.seq ?_ | refine Sim.region ?_ | refine Sim.block ?_ | refine Sim.skip ?_ | refine Sim.inBlock ?_ | refine Sim.exit rfl ?_ | refine Sim.condT rfl ?_ | refine Sim.condF rfl ?_)
  exact Sim.retC (cs := [.slice (some ⟨b8, 0, none⟩) 1 1, .slice none 0 0, .slice (some ⟨b12, 0, none⟩) 1 1]) Try.func81 rfl rfl hb4.at rfl ⟨_, _, rfl, hu8, h8, h12⟩
set_option maxHeartbeats 400000 in
theorem two7_any (w : World) : Calls Try.prog 45 #[] w fun en w' => ∃ v, en = .returned v ∧ Up w w' ∧ SliceOf svcLay (fun _ => True) w' v sixTwo := by
  refine calls_of_sim Try.func45 rfl (Nat.le_of_ble_eq_true rfl) ?_
  repeat (first | refine RL.vv ?_ | refine RL.p ?_ | refine RL.nil ?_ | refine Sim.seq ?_ | refine Sim.region ?_ | refine Sim.block ?_ | refine Sim.skip ?_ | refine Sim.inBlock ?_ | refine Sim.exit rfl ?_ | refine Sim.condT rfl ?_ | refine Sim.condF rfl ?_)
  refine RL.val trivial rfl (y_build (v := .agg #[.string sixName, .int .i64 1, .string sixNo]) rfl (fun w => by kernel_rfl)) ?_
  refine RL.val trivial rfl (y_build (v := .agg #[.string sixName, .string sixAnnT, .slice none 0 0]) rfl (fun w => by kernel_rfl)) ?_
  refine RL.cx (user7_any (S := fun _ => True) ⟨sixName, 1, sixNo⟩ ⟨sixName, sixAnnT, []⟩ w (SliceOf.nil _ _ _)) ?_ (hy := c_fn rfl rfl)
  rintro _ w1 ⟨v1, v3, rfl, hu1, h1, h3⟩
  refine ⟨_, rfl, ?_⟩
  repeat (first | refine RL.vv ?_ | refine RL.p ?_ | refine RL.nil ?_ | refine Sim.seq ?_ | refine Sim.region ?_ | refine Sim.block ?_ | refine Sim.skip ?_ | refine Sim.inBlock ?_ | refine Sim.exit rfl ?_ | refine Sim.condT rfl ?_ | refine Sim.condF rfl ?_)
  refine RL.val trivial rfl (y_build (v := .agg #[.string sixBoss, .int .i64 2, .string sixUser]) rfl (fun w => by kernel_rfl)) ?_
  refine RL.bu (el := 9) [.string sixAnn] hu1 fun b8 w2 _ _ hu2 h12 hb8 => ?_
  have h8 : SliceOf strLay (fun _ => True) w2 (.slice (some ⟨b8, 0, none⟩) 1 1) [sixAnn] := SliceOf.one hb8 trivial rfl
  refine RL.val trivial rfl (y_build (v := .agg #[.string sixBoss, .string sixNo, .slice (some ⟨b8, 0, none⟩) 1 1]) rfl (fun w => by kernel_rfl)) ?_
  refine RL.cx (user7_any ⟨sixBoss, 2, sixUser⟩ ⟨sixBoss, sixNo, [sixAnn]⟩ w2 h8) ?_ (hy := c_fn rfl rfl)
  rintro _ w3 ⟨u1, u3, rfl, h23, k1, k3⟩
  refine ⟨_, rfl, ?_⟩
  have hu3 := hu2.trans h23
  have h1 := (h1.up h12).up h23
  have h3 := (h3.up h12).up h23
  obtain ⟨a1, c1, rfl, _⟩ := id h1
  obtain ⟨a3, c3, rfl, _⟩ := id h3
  obtain ⟨e1, d1, rfl, _⟩ := id k1
  obtain ⟨e3, d3, rfl, _⟩ := id k3
  refine RL.bu (el := 31) ([.slice a1 1 c1, .slice none 0 0, .slice a3 1 c3] ++ [.slice e1 1 d1, .slice none 0 0, .slice e3 1 d3]) hu3 fun b11 w4 _ _ hu4 h34 hb11 => ?_
  have hl : SliceOf svcLay (fun _ => True) w4 (.slice (some ⟨b11, 0, none⟩) 2 2) sixTwo := SliceOf.lit2 _ _ _ _ hb11.at trivial ⟨_, _, _, rfl, h1.up h34, SliceOf.nil _ _ _, h3.up h34⟩ ⟨_, _, _, rfl, k1.up h34, SliceOf.nil _ _ _, k3.up h34⟩
  repeat (first | refine RL.vv ?_ | refine RL.p ?_ | refine RL.nil ?_ | refine Sim.seq ?_ | refine Sim.region ?_ | refine Sim.block ?_ | refine Sim.skip ?_ | refine Sim.inBlock ?_ | refine Sim.exit rfl ?_ | refine Sim.condT rfl ?_ | refine Sim.condF rfl ?_)
  exact Sim.ret1 Try.func45 rfl rfl ⟨_, rfl, hu4, hl⟩
end Go.Proofs.Ytgckpmcdlciibac
