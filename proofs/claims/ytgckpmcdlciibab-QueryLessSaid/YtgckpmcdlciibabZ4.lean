/- Several texts in one: A text is read: blanks, signs, names. A text is read: picks, and lists of them. A text is read whole; what is thrown is caught. -/
import Derived.Test.YtgckpmcdlciibabZC
import Derived.Test.YtgckpmcdlciibabZ2
import Derived.Test.YtgckpmcdlciibabZB
import Derived.Test.YtgckpmcdlciibabZ3
import Derived.Laws.Strings2
import Derived.WalkSmall
import Derived.WideLaws
namespace Go.Proofs.Ytgckpmcdlciibab
open Go.RowKit
section
variable {P : Program} {f : FuncId} {N : Nat} {K : Act → World → Prop} {e : Env} {w : World} {R : Ending → World → Prop}
variable {ops : Array Oper} {rest : List Oper} {d : Nat} {op : Op} {ty : TypeId} {ps : String} {af : Array Edge} {g : Option (Nat × Bool)} {v : Value}
/-- a store into a block that is known whole, whose it ever be -/
theorem RL.sb {t u : TypeId} {x y : Operand} {b o : Nat} {cs cs' news : List Value} {n : Nat} [Siz P t n] (hb : Box w b u cs) (h : ∀ w1, But b w w1 → Box w1 b u cs' → RL P f N ops rest K e w1 R)
    (hw : Wants ops e g := by first | exact trivial | exact ⟨_, _, rfl, rfl, rfl⟩) (hx : e.ev x = some (.pointer (some ⟨b, o, none⟩)) := by rfl) (hy : e.ev y = some v := by rfl) (hv : v.cells = news.toArray := by rfl) (hk : news.length = n := by rfl)
    (h1 : ∀ c ∈ news, c.oneCell' = true := by (simp [Value.oneCell'])) (hfit : o + news.length ≤ cs.length := by exact Nat.le_of_ble_eq_true rfl) (hcs : cs.take o ++ news ++ cs.drop (o + news.length) = cs' := by rfl) :
    RL P f N ops ({ dst := none, op := .store t x y, type := ty, pos := ps, after := af, guard := g } :: rest) K e w R :=
  RL.store hw hx hy hb hv hk h1 hfit hcs h
theorem y_sliceS {t : TypeId} {x y z : Operand} {a : ByteArray} {i j : Nat} [IsStr P t] (hx : e.ev x = some (.string a)) (hy : e.ev y = some (.int .i64 (i : Int))) (hz : e.ev z = some (.int .i64 (j : Int))) (h1 : i ≤ j) (h2 : j ≤ a.size) : Yld P (.slice t x (some y) (some z) none) ty e w (.string (a.extract i j)) := Yld.mk fun ρ hρ => by
  have h := run_slice_string (P := P) w t a .i64 .i64 (i : Int) (j : Int) IsStr.h (by omega) (by omega) (by omega)
  have hu := run_underlying (IsStr.h (P := P) (t := t)) w
  simp only [Int.toNat_natCast] at h
  simp [xop, execOp, hρ x _ hx, hρ y _ hy, hρ z _ hz, Instr.sliceAt, hu, h]
theorem y_makeIface {t : TypeId} {x : Operand} (h : P.concrete t = true) (hx : e.ev x = some v) : Yld P (.makeInterface t x) ty e w (.iface t v) := Yld.mk fun ρ hρ => by
  have h1 := run_makeInterface (P := P) (w := w) t v h
  simp [xop, execOp, hρ x _ hx, h1]
end
theorem But.refl (b : Nat) (w : World) : But b w w := But.of_up (.refl w)
theorem isAt_f {s : Str} {i c : Nat} (h : s.size ≤ i) : isAt s i c = false := by
  unfold isAt
  rw [getElem?_neg s i (by omega)]
/-- the reader, in memory -/
abbrev Rd (w : World) (b : Nat) (s : Str) (i p : Nat) : Prop := Box w b 125 [.string s, .int .i64 (i : Int), .int .i64 (p : Int)]
def oopsV (e : Int) (i : Nat) : List PanicEntry := [{ v := .iface 122 (.agg #[.int .i64 e, .int .i64 (i : Int)]), recovered := false }]
set_option maxHeartbeats 1000000 in
theorem blank_any {b i p : Nat} {s : Str} (w : World) (hb : Rd w b s i p) (hi : i ≤ s.size) (hs : s.size ≤ 1000) :
    Calls Try.prog 53 #[.pointer (some ⟨b, 0, none⟩)] w fun en w' => en = .returned (.tuple #[]) ∧ But b w w' ∧ Rd w' b s (blankM s i) p := by
  refine calls_of_sim Try.func53 rfl (Nat.le_of_ble_eq_true rfl) ?_
  repeat (first | refine RL.vv ?_ | refine RL.p ?_ | refine RL.nil ?_ | refine Sim.seq ?_ | refine Sim.region ?_ | refine Sim.block ?_ | refine Sim.skip ?_ | refine Sim.inBlock ?_ | refine Sim.exit rfl ?_ | refine Sim.condT rfl ?_ | refine Sim.condF rfl ?_)
  refine Sim.loop (σ := Nat) (fun _ => [(0, .pointer (some ⟨b, 0, none⟩))]) (fun j w' => j ≤ s.size ∧ But b w w' ∧ Rd w' b s j p ∧ blankM s j = blankM s i) (fun j => s.size - j) i sb ⟨hi, But.refl b w, hb, rfl⟩ ?_
  clear hb
  rintro j w1 ⟨hj, hbt, hb, hbl⟩ next
  have ha := hb.at
  have stop : blAt s j = false → j = blankM s i := fun h => by rw [← hbl, blankM_stop h]
  by_cases hlt : j < s.size
  rotate_left
  · have hst := stop (by unfold blAt; rw [getElem?_neg s j hlt])
    repeat (first | refine RL.vv ?_ | refine RL.p ?_ | refine RL.nil ?_ | refine Sim.seq ?_ | refine Sim.region ?_ | refine Sim.block ?_ | refine Sim.skip ?_ | refine Sim.inBlock ?_ | refine Sim.exit rfl ?_ | refine Sim.condT rfl ?_ | refine Sim.condF rfl ?_)
    refine Sim.q ?_
    repeat (first | refine RQ.vv ?_ | refine RQ.p ?_)
    refine RQ.nil fun w2 hq => ?_
    repeat (first | refine RL.vv ?_ | refine RL.p ?_ | refine RL.nil ?_ | refine Sim.seq ?_ | refine Sim.region ?_ | refine Sim.block ?_ | refine Sim.skip ?_ | refine Sim.inBlock ?_ | refine Sim.exit rfl ?_ | refine Sim.condT rfl ?_ | refine Sim.condF rfl ?_)
    exact Sim.fin0 Try.func53 rfl ⟨rfl, hbt.trans (But.of_up hq), by rw [← hst]; exact hb.up hq⟩
  obtain ⟨c, hc⟩ := str_get? s j hlt
  by_cases c1 : (c.toNat : Int) = 32
  · have hbl1 : blAt s j = true := by
      rw [blAt, hc]
      have : c = 32 := UInt8.toNat_inj.1 (by show c.toNat = 32; omega)
      subst this; rfl
    repeat (first | refine RL.vv ?_ | refine RL.p ?_ | refine RL.nil ?_ | refine Sim.seq ?_ | refine Sim.region ?_ | refine Sim.block ?_ | refine Sim.skip ?_ | refine Sim.inBlock ?_ | refine Sim.exit rfl ?_ | refine Sim.condT rfl ?_ | refine Sim.condF rfl ?_)
    refine Sim.q ?_
    repeat (first | refine RQ.vv ?_ | refine RQ.p ?_)
    refine RQ.nil fun w2 hq => ?_
    have hb := hb.up hq
    repeat (first | refine RL.vv ?_ | refine RL.p ?_ | refine RL.nil ?_ | refine Sim.seq ?_ | refine Sim.region ?_ | refine Sim.block ?_ | refine Sim.skip ?_ | refine Sim.inBlock ?_ | refine Sim.exit rfl ?_ | refine Sim.condT rfl ?_ | refine Sim.condF rfl ?_)
    refine RL.sb hb fun w3 hbt3 hb => ?_
    repeat (first | refine RL.vv ?_ | refine RL.p ?_ | refine RL.nil ?_ | refine Sim.seq ?_ | refine Sim.region ?_ | refine Sim.block ?_ | refine Sim.skip ?_ | refine Sim.inBlock ?_ | refine Sim.exit rfl ?_ | refine Sim.condT rfl ?_ | refine Sim.condF rfl ?_)
    exact next (j + 1) w3 _ ⟨by omega, (hbt.trans (But.of_up hq)).trans hbt3, hb, by rw [← hbl, blankM_step hbl1]⟩ (by omega) sb
  by_cases c2 : (c.toNat : Int) = 10
  · have hbl1 : blAt s j = true := by
      rw [blAt, hc]
      have : c = 10 := UInt8.toNat_inj.1 (by show c.toNat = 10; omega)
      subst this; rfl
    repeat (first | refine RL.vv ?_ | refine RL.p ?_ | refine RL.nil ?_ | refine Sim.seq ?_ | refine Sim.region ?_ | refine Sim.block ?_ | refine Sim.skip ?_ | refine Sim.inBlock ?_ | refine Sim.exit rfl ?_ | refine Sim.condT rfl ?_ | refine Sim.condF rfl ?_)
    refine Sim.q ?_
    repeat (first | refine RQ.vv ?_ | refine RQ.p ?_)
    refine RQ.nil fun w2 hq => ?_
    have hb := hb.up hq
    repeat (first | refine RL.vv ?_ | refine RL.p ?_ | refine RL.nil ?_ | refine Sim.seq ?_ | refine Sim.region ?_ | refine Sim.block ?_ | refine Sim.skip ?_ | refine Sim.inBlock ?_ | refine Sim.exit rfl ?_ | refine Sim.condT rfl ?_ | refine Sim.condF rfl ?_)
    refine RL.sb hb fun w3 hbt3 hb => ?_
    repeat (first | refine RL.vv ?_ | refine RL.p ?_ | refine RL.nil ?_ | refine Sim.seq ?_ | refine Sim.region ?_ | refine Sim.block ?_ | refine Sim.skip ?_ | refine Sim.inBlock ?_ | refine Sim.exit rfl ?_ | refine Sim.condT rfl ?_ | refine Sim.condF rfl ?_)
    exact next (j + 1) w3 _ ⟨by omega, (hbt.trans (But.of_up hq)).trans hbt3, hb, by rw [← hbl, blankM_step hbl1]⟩ (by omega) sb
  have hst := stop (by
    rw [blAt, hc, Bool.or_eq_false_iff]
    exact ⟨beq_eq_false_iff_ne.2 fun e => c1 (by rw [e]; rfl), beq_eq_false_iff_ne.2 fun e => c2 (by rw [e]; rfl)⟩)
  repeat (first | refine RL.vv ?_ | refine RL.p ?_ | refine RL.nil ?_ | refine Sim.seq ?_ | refine Sim.region ?_ | refine Sim.block ?_ | refine Sim.skip ?_ | refine Sim.inBlock ?_ | refine Sim.exit rfl ?_ | refine Sim.condT rfl ?_ | refine Sim.condF rfl ?_)
  refine Sim.q ?_
  repeat (first | refine RQ.vv ?_ | refine RQ.p ?_)
  refine RQ.nil fun w2 hq => ?_
  repeat (first | refine RL.vv ?_ | refine RL.p ?_ | refine RL.nil ?_ | refine Sim.seq ?_ | refine Sim.region ?_ | refine Sim.block ?_ | refine Sim.skip ?_ | refine Sim.inBlock ?_ | refine Sim.exit rfl ?_ | refine Sim.condT rfl ?_ | refine Sim.condF rfl ?_)
  exact Sim.fin0 Try.func53 rfl ⟨rfl, hbt.trans (But.of_up hq), by rw [← hst]; exact hb.up hq⟩
set_option maxHeartbeats 1000000 in
theorem eat_any {b i p c : Nat} {s : Str} (w : World) (hb : Rd w b s i p) (hi : i ≤ s.size) (hs : s.size ≤ 1000) :
    Calls Try.prog 88 #[.pointer (some ⟨b, 0, none⟩), .int .u8 (c : Int)] w fun en w' => en = .returned (.bool (isAt s (blankM s i) c)) ∧ But b w w' ∧ Rd w' b s (if isAt s (blankM s i) c then blankM s i + 1 else blankM s i) p := by
  refine calls_of_sim Try.func88 rfl (Nat.le_of_ble_eq_true rfl) ?_
  repeat (first | refine RL.vv ?_ | refine RL.p ?_ | refine RL.nil ?_ | refine Sim.seq ?_ | refine Sim.region ?_ | refine Sim.block ?_ | refine Sim.skip ?_ | refine Sim.inBlock ?_ | refine Sim.exit rfl ?_ | refine Sim.condT rfl ?_ | refine Sim.condF rfl ?_)
  refine RL.cx (blank_any w hb hi hs) ?_
  rintro _ w1 ⟨rfl, hbt, hb⟩
  refine ⟨_, rfl, ?_⟩
  have hj := blankM_le hi
  generalize blankM s i = j at *
  have ha := hb.at
  by_cases hlt : j < s.size
  rotate_left
  · rw [isAt_f (by omega)]
    have hjs : (j : Int) = (s.size : Int) := by omega
    repeat (first | refine RL.vv ?_ | refine RL.p ?_ | refine RL.nil ?_ | refine Sim.seq ?_ | refine Sim.region ?_ | refine Sim.block ?_ | refine Sim.skip ?_ | refine Sim.inBlock ?_ | refine Sim.exit rfl ?_ | refine Sim.condT rfl ?_ | refine Sim.condF rfl ?_)
    refine Sim.q ?_
    repeat (first | refine RQ.vv ?_ | refine RQ.p ?_)
    refine RQ.nil fun w2 hq => ?_
    repeat (first | refine RL.vv ?_ | refine RL.p ?_ | refine RL.nil ?_ | refine Sim.seq ?_ | refine Sim.region ?_ | refine Sim.block ?_ | refine Sim.skip ?_ | refine Sim.inBlock ?_ | refine Sim.exit rfl ?_ | refine Sim.condT rfl ?_ | refine Sim.condF rfl ?_)
    exact Sim.ret1 Try.func88 rfl rfl ⟨rfl, hbt.trans (But.of_up hq), hb.up hq⟩
  have hjs : ¬ (j : Int) = (s.size : Int) := by omega
  obtain ⟨x, hx⟩ := str_get? s j hlt
  by_cases hxc : (x.toNat : Int) = (c : Int)
  · have : isAt s j c = true := by
      rw [isAt, hx]
      exact beq_iff_eq.2 (by omega)
    rw [this]
    have hxc' : ¬ ¬ (x.toNat : Int) = (c : Int) := fun h => h hxc
    repeat (first | refine RL.vv ?_ | refine RL.p ?_ | refine RL.nil ?_ | refine Sim.seq ?_ | refine Sim.region ?_ | refine Sim.block ?_ | refine Sim.skip ?_ | refine Sim.inBlock ?_ | refine Sim.exit rfl ?_ | refine Sim.condT rfl ?_ | refine Sim.condF rfl ?_)
    refine Sim.q ?_
    repeat (first | refine RQ.vv ?_ | refine RQ.p ?_)
    refine RQ.nil fun w2 hq => ?_
    have hb := hb.up hq
    repeat (first | refine RL.vv ?_ | refine RL.p ?_ | refine RL.nil ?_ | refine Sim.seq ?_ | refine Sim.region ?_ | refine Sim.block ?_ | refine Sim.skip ?_ | refine Sim.inBlock ?_ | refine Sim.exit rfl ?_ | refine Sim.condT rfl ?_ | refine Sim.condF rfl ?_)
    refine RL.sb hb fun w3 hbt3 hb => ?_
    repeat (first | refine RL.vv ?_ | refine RL.p ?_ | refine RL.nil ?_ | refine Sim.seq ?_ | refine Sim.region ?_ | refine Sim.block ?_ | refine Sim.skip ?_ | refine Sim.inBlock ?_ | refine Sim.exit rfl ?_ | refine Sim.condT rfl ?_ | refine Sim.condF rfl ?_)
    exact Sim.ret1 Try.func88 rfl rfl ⟨rfl, (hbt.trans (But.of_up hq)).trans hbt3, hb⟩
  · have : isAt s j c = false := by
      rw [isAt, hx]
      exact beq_eq_false_iff_ne.2 (by omega)
    rw [this]
    repeat (first | refine RL.vv ?_ | refine RL.p ?_ | refine RL.nil ?_ | refine Sim.seq ?_ | refine Sim.region ?_ | refine Sim.block ?_ | refine Sim.skip ?_ | refine Sim.inBlock ?_ | refine Sim.exit rfl ?_ | refine Sim.condT rfl ?_ | refine Sim.condF rfl ?_)
    refine Sim.q ?_
    repeat (first | refine RQ.vv ?_ | refine RQ.p ?_)
    refine RQ.nil fun w2 hq => ?_
    repeat (first | refine RL.vv ?_ | refine RL.p ?_ | refine RL.nil ?_ | refine Sim.seq ?_ | refine Sim.region ?_ | refine Sim.block ?_ | refine Sim.skip ?_ | refine Sim.inBlock ?_ | refine Sim.exit rfl ?_ | refine Sim.condT rfl ?_ | refine Sim.condF rfl ?_)
    exact Sim.ret1 Try.func88 rfl rfl ⟨rfl, hbt.trans (But.of_up hq), hb.up hq⟩
theorem fail_any {b i p : Nat} {s : Str} (e : Int) (w : World) (hb : Rd w b s i p) :
    Calls Try.prog 54 #[.pointer (some ⟨b, 0, none⟩), .int .i64 e] w fun en w' => en = .panicked (oopsV e i) ∧ w' = w := by
  refine calls_of_sim Try.func54 rfl (Nat.le_of_ble_eq_true rfl) ?_
  have ha := hb.at
  repeat (first | refine RL.vv ?_ | refine RL.p ?_ | refine RL.nil ?_ | refine Sim.seq ?_ | refine Sim.region ?_ | refine Sim.block ?_ | refine Sim.skip ?_ | refine Sim.inBlock ?_ | refine Sim.exit rfl ?_ | refine Sim.condT rfl ?_ | refine Sim.condF rfl ?_)
  refine RL.val trivial rfl (y_build (v := .agg #[.int .i64 e, .int .i64 (i : Int)]) rfl (fun w => by kernel_rfl)) ?_
  refine RL.val trivial rfl (y_build (v := .agg #[.int .i64 e, .int .i64 (i : Int)]) rfl (fun w => by kernel_rfl)) ?_
  refine RL.val trivial rfl (y_makeIface (by kernel_rfl) rfl) ?_
  exact RL.pan Try.func54 trivial (fun ρ hρ => by simp [xop, execOp, hρ (.tmp 11) _ rfl, run_panic_iface]) ⟨rfl, rfl⟩
theorem must_any {b i p c : Nat} {s : Str} (w : World) (hb : Rd w b s i p) (hi : i ≤ s.size) (hs : s.size ≤ 1000) :
    Calls Try.prog 51 #[.pointer (some ⟨b, 0, none⟩), .int .u8 (c : Int)] w fun en w' => But b w w' ∧ match mustM s i c with
      | .error (e, j) => en = .panicked (oopsV e j)
      | .ok j => en = .returned (.tuple #[]) ∧ Rd w' b s j p := by
  refine calls_of_sim Try.func51 rfl (Nat.le_of_ble_eq_true rfl) ?_
  repeat (first | refine RL.vv ?_ | refine RL.p ?_ | refine RL.nil ?_ | refine Sim.seq ?_ | refine Sim.region ?_ | refine Sim.block ?_ | refine Sim.skip ?_ | refine Sim.inBlock ?_ | refine Sim.exit rfl ?_ | refine Sim.condT rfl ?_ | refine Sim.condF rfl ?_)
  refine RL.cx (eat_any w hb hi hs) ?_
  rintro _ w1 ⟨rfl, hbt, hb⟩
  refine ⟨_, rfl, ?_⟩
  unfold mustM
  rcases Bool.eq_false_or_eq_true (isAt s (blankM s i) c) with h | h
  · rw [h] at hb ⊢
    repeat (first | refine RL.vv ?_ | refine RL.p ?_ | refine RL.nil ?_ | refine Sim.seq ?_ | refine Sim.region ?_ | refine Sim.block ?_ | refine Sim.skip ?_ | refine Sim.inBlock ?_ | refine Sim.exit rfl ?_ | refine Sim.condT rfl ?_ | refine Sim.condF rfl ?_)
    exact Sim.fin0 Try.func51 rfl ⟨hbt, rfl, hb⟩
  · rw [h] at hb ⊢
    repeat (first | refine RL.vv ?_ | refine RL.p ?_ | refine RL.nil ?_ | refine Sim.seq ?_ | refine Sim.region ?_ | refine Sim.block ?_ | refine Sim.skip ?_ | refine Sim.inBlock ?_ | refine Sim.exit rfl ?_ | refine Sim.condT rfl ?_ | refine Sim.condF rfl ?_)
    refine RL.callP Try.func51 trivial rfl (c_static rfl) (fail_any 2 w1 hb) ?_
    rintro _ _ ⟨rfl, rfl⟩
    exact .inr ⟨_, rfl, hbt, rfl⟩
set_option maxHeartbeats 4000000 in
theorem name_any {b i p : Nat} {s : Str} (w : World) (hb : Rd w b s i p) (hi : i ≤ s.size) (hs : s.size ≤ 1000) :
    Calls Try.prog 50 #[.pointer (some ⟨b, 0, none⟩)] w fun en w' => But b w w' ∧ match nameM s i with
      | .error (e, j) => en = .panicked (oopsV e j)
      | .ok (n, j) => en = .returned (.string n) ∧ Rd w' b s j p := by
  refine calls_of_sim Try.func50 rfl (Nat.le_of_ble_eq_true rfl) ?_
  repeat (first | refine RL.vv ?_ | refine RL.p ?_ | refine RL.nil ?_ | refine Sim.seq ?_ | refine Sim.region ?_ | refine Sim.block ?_ | refine Sim.skip ?_ | refine Sim.inBlock ?_ | refine Sim.exit rfl ?_ | refine Sim.condT rfl ?_ | refine Sim.condF rfl ?_)
  refine RL.cx (blank_any w hb hi hs) ?_
  rintro _ w1 ⟨rfl, hbt, hb⟩
  refine ⟨_, rfl, ?_⟩
  unfold nameM
  have hj := blankM_le hi
  generalize blankM s i = j at *
  have hend := endM_le (s := s) (a := j) hj
  have hge := endM_ge (s := s) j j
  refine RL.nil ?_
  ((repeat refine Sim.seq ?_); refine Sim.region ?_; (repeat (first | refine RL.vv ?_ | refine RL.p ?_)); refine RL.nil ?_)
  repeat refine Sim.seq ?_
  refine Sim.cut [(0, .pointer (some ⟨b, 0, none⟩)), (3, .int .i64 ((endM s j j : Nat) : Int))] (fun w' => But b w w' ∧ Rd w' b s j p) (fun k' next3 => ?_) ?_
  · repeat (first | refine RL.vv ?_ | refine RL.p ?_ | refine RL.nil ?_ | refine Sim.seq ?_ | refine Sim.region ?_ | refine Sim.block ?_ | refine Sim.skip ?_ | refine Sim.inBlock ?_ | refine Sim.exit rfl ?_ | refine Sim.condT rfl ?_ | refine Sim.condF rfl ?_)
    refine Sim.loop (σ := Nat) (fun k => [(0, .pointer (some ⟨b, 0, none⟩)), (3, .int .i64 (k : Int))]) (fun k w' => j ≤ k ∧ k ≤ s.size ∧ But b w w' ∧ Rd w' b s j p ∧ endM s j k = endM s j j) (fun k => s.size - k) j sb ⟨Nat.le_refl _, hj, hbt, hb, rfl⟩ ?_
    clear hb hbt
    rintro k w2 ⟨hjk, hks, hbt, hb, hek⟩ next
    have stop : nmAt s j k = false → k = endM s j j := fun h => by rw [← hek, endM_stop h]
    by_cases hlt : k < s.size
    rotate_left
    · have hst := stop (by unfold nmAt; rw [getElem?_neg s k hlt])
      repeat (first | refine RL.vv ?_ | refine RL.p ?_ | refine RL.nil ?_ | refine Sim.seq ?_ | refine Sim.region ?_ | refine Sim.block ?_ | refine Sim.skip ?_ | refine Sim.inBlock ?_ | refine Sim.exit rfl ?_ | refine Sim.condT rfl ?_ | refine Sim.condF rfl ?_)
      refine next3 w2 _ ⟨hbt, hb⟩ ?_
      rw [← hst]
      exact sb
    obtain ⟨c, hc⟩ := str_get? s k hlt
    have hnm : nmAt s j k = nchr (k == j) c := by unfold nmAt; rw [hc]
    have hgo : nmAt s j k = true → ∀ e', Env.Sub [(0, .pointer (some ⟨b, 0, none⟩)), (3, .int .i64 ((k + 1 : Nat) : Int))] e' → Sim Try.prog 50 _ _ e' w2 _ := fun h e' he => next (k + 1) w2 e' ⟨by omega, by omega, hbt, hb, by rw [← hek, endM_step h]⟩ (by omega) he
    have hno : nmAt s j k = false → ∀ e', Env.Sub [(0, .pointer (some ⟨b, 0, none⟩)), (3, .int .i64 (k : Int))] e' → Sim Try.prog 50 _ _ e' w2 _ := fun h e' he => next3 w2 e' ⟨hbt, hb⟩ (by rw [← stop h]; exact he)
    clear next next3
    by_cases g : (j : Int) < (k : Int)
    · have hkj : (k == j) = false := beq_eq_false_iff_ne.2 (by omega)
      rw [hkj] at hnm
      by_cases c1 : (97 : Int) ≤ c.toNat
      · by_cases c2 : (c.toNat : Int) ≤ 122
        · have ht : nmAt s j k = true := by rw [hnm]; simp [nchr]; omega
          repeat (first | refine RL.vv ?_ | refine RL.p ?_ | refine RL.nil ?_ | refine Sim.seq ?_ | refine Sim.region ?_ | refine Sim.block ?_ | refine Sim.skip ?_ | refine Sim.inBlock ?_ | refine Sim.exit rfl ?_ | refine Sim.condT rfl ?_ | refine Sim.condF rfl ?_)
          exact hgo ht _ sb
        · have c3 : (48 : Int) ≤ c.toNat := by omega
          have c4 : ¬ (c.toNat : Int) ≤ 57 := by omega
          have ht : nmAt s j k = false := by rw [hnm]; simp [nchr]; omega
          repeat (first | refine RL.vv ?_ | refine RL.p ?_ | refine RL.nil ?_ | refine Sim.seq ?_ | refine Sim.region ?_ | refine Sim.block ?_ | refine Sim.skip ?_ | refine Sim.inBlock ?_ | refine Sim.exit rfl ?_ | refine Sim.condT rfl ?_ | refine Sim.condF rfl ?_)
          exact hno ht _ sb
      · by_cases c3 : (48 : Int) ≤ c.toNat
        · by_cases c4 : (c.toNat : Int) ≤ 57
          · have ht : nmAt s j k = true := by rw [hnm]; simp [nchr]; omega
            repeat (first | refine RL.vv ?_ | refine RL.p ?_ | refine RL.nil ?_ | refine Sim.seq ?_ | refine Sim.region ?_ | refine Sim.block ?_ | refine Sim.skip ?_ | refine Sim.inBlock ?_ | refine Sim.exit rfl ?_ | refine Sim.condT rfl ?_ | refine Sim.condF rfl ?_)
            exact hgo ht _ sb
          · have ht : nmAt s j k = false := by rw [hnm]; simp [nchr]; omega
            repeat (first | refine RL.vv ?_ | refine RL.p ?_ | refine RL.nil ?_ | refine Sim.seq ?_ | refine Sim.region ?_ | refine Sim.block ?_ | refine Sim.skip ?_ | refine Sim.inBlock ?_ | refine Sim.exit rfl ?_ | refine Sim.condT rfl ?_ | refine Sim.condF rfl ?_)
            exact hno ht _ sb
        · have ht : nmAt s j k = false := by rw [hnm]; simp [nchr]; omega
          repeat (first | refine RL.vv ?_ | refine RL.p ?_ | refine RL.nil ?_ | refine Sim.seq ?_ | refine Sim.region ?_ | refine Sim.block ?_ | refine Sim.skip ?_ | refine Sim.inBlock ?_ | refine Sim.exit rfl ?_ | refine Sim.condT rfl ?_ | refine Sim.condF rfl ?_)
          exact hno ht _ sb
    · have hkj : (k == j) = true := beq_iff_eq.2 (by omega)
      rw [hkj] at hnm
      by_cases c1 : (97 : Int) ≤ c.toNat
      · by_cases c2 : (c.toNat : Int) ≤ 122
        · have ht : nmAt s j k = true := by rw [hnm]; simp [nchr]; omega
          repeat (first | refine RL.vv ?_ | refine RL.p ?_ | refine RL.nil ?_ | refine Sim.seq ?_ | refine Sim.region ?_ | refine Sim.block ?_ | refine Sim.skip ?_ | refine Sim.inBlock ?_ | refine Sim.exit rfl ?_ | refine Sim.condT rfl ?_ | refine Sim.condF rfl ?_)
          exact hgo ht _ sb
        · have ht : nmAt s j k = false := by rw [hnm]; simp [nchr]; omega
          repeat (first | refine RL.vv ?_ | refine RL.p ?_ | refine RL.nil ?_ | refine Sim.seq ?_ | refine Sim.region ?_ | refine Sim.block ?_ | refine Sim.skip ?_ | refine Sim.inBlock ?_ | refine Sim.exit rfl ?_ | refine Sim.condT rfl ?_ | refine Sim.condF rfl ?_)
          exact hno ht _ sb
      · have ht : nmAt s j k = false := by rw [hnm]; simp [nchr]; omega
        repeat (first | refine RL.vv ?_ | refine RL.p ?_ | refine RL.nil ?_ | refine Sim.seq ?_ | refine Sim.region ?_ | refine Sim.block ?_ | refine Sim.skip ?_ | refine Sim.inBlock ?_ | refine Sim.exit rfl ?_ | refine Sim.condT rfl ?_ | refine Sim.condF rfl ?_)
        exact hno ht _ sb
  clear hb hbt
  rintro w2 ⟨hbt, hb⟩
  generalize endM s j j = k at *
  have ha := hb.at
  by_cases h0 : (k : Int) = (j : Int)
  · rw [if_pos (by omega)]
    repeat (first | refine RL.vv ?_ | refine RL.p ?_ | refine RL.nil ?_ | refine Sim.seq ?_ | refine Sim.region ?_ | refine Sim.block ?_ | refine Sim.skip ?_ | refine Sim.inBlock ?_ | refine Sim.exit rfl ?_ | refine Sim.condT rfl ?_ | refine Sim.condF rfl ?_)
    refine RL.callP Try.func50 trivial rfl (c_static rfl) (fail_any 2 w2 hb) ?_
    rintro _ _ ⟨rfl, rfl⟩
    exact .inr ⟨_, rfl, hbt, rfl⟩
  rw [if_neg (by omega)]
  repeat (first | refine RL.vv ?_ | refine RL.p ?_ | refine RL.nil ?_ | refine Sim.seq ?_ | refine Sim.region ?_ | refine Sim.block ?_ | refine Sim.skip ?_ | refine Sim.inBlock ?_ | refine Sim.exit rfl ?_ | refine Sim.condT rfl ?_ | refine Sim.condF rfl ?_)
  refine RL.vv ?_ (hy := y_sub (d := ((k - j : Nat) : Int)) rfl rfl (by omega) (by omega) (by omega))
  by_cases h12 : (12 : Int) < ((k - j : Nat) : Int)
  · rw [if_pos (by omega)]
    repeat (first | refine RL.vv ?_ | refine RL.p ?_ | refine RL.nil ?_ | refine Sim.seq ?_ | refine Sim.region ?_ | refine Sim.block ?_ | refine Sim.skip ?_ | refine Sim.inBlock ?_ | refine Sim.exit rfl ?_ | refine Sim.condT rfl ?_ | refine Sim.condF rfl ?_)
    refine RL.callP Try.func50 trivial rfl (c_static rfl) (fail_any 6 w2 hb) ?_
    rintro _ _ ⟨rfl, rfl⟩
    exact .inr ⟨_, rfl, hbt, rfl⟩
  rw [if_neg (by omega)]
  repeat (first | refine RL.vv ?_ | refine RL.p ?_ | refine RL.nil ?_ | refine Sim.seq ?_ | refine Sim.region ?_ | refine Sim.block ?_ | refine Sim.skip ?_ | refine Sim.inBlock ?_ | refine Sim.exit rfl ?_ | refine Sim.condT rfl ?_ | refine Sim.condF rfl ?_)
  refine Sim.q ?_
  repeat (first | refine RQ.vv ?_ | refine RQ.p ?_)
  refine RQ.vv ?_ (hy := fun wq hq => y_sliceS rfl rfl rfl hge hend)
  repeat (first | refine RQ.vv ?_ | refine RQ.p ?_)
  refine RQ.nil fun w3 hq => ?_
  have hb := hb.up hq
  repeat (first | refine RL.vv ?_ | refine RL.p ?_ | refine RL.nil ?_ | refine Sim.seq ?_ | refine Sim.region ?_ | refine Sim.block ?_ | refine Sim.skip ?_ | refine Sim.inBlock ?_ | refine Sim.exit rfl ?_ | refine Sim.condT rfl ?_ | refine Sim.condF rfl ?_)
  refine RL.sb hb fun w4 hbt4 hb => ?_
  repeat (first | refine RL.vv ?_ | refine RL.p ?_ | refine RL.nil ?_ | refine Sim.seq ?_ | refine Sim.region ?_ | refine Sim.block ?_ | refine Sim.skip ?_ | refine Sim.inBlock ?_ | refine Sim.exit rfl ?_ | refine Sim.condT rfl ?_ | refine Sim.condF rfl ?_)
  exact Sim.ret1 Try.func50 rfl rfl ⟨(hbt.trans (But.of_up hq)).trans hbt4, rfl, hb⟩
end Go.Proofs.Ytgckpmcdlciibab

namespace Go.Proofs.Ytgckpmcdlciibab
open Go.RowKit
theorem But.grown {b : Nat} {w0 w w1 : World} {r : Option Nat} (h : But b w0 w) (hg : w.grownBy w1 r) (hr : ∀ g, r = some g → w0.heap.size ≤ g) : But b w0 w1 :=
  ⟨hg.os.trans h.os, hg.tape.trans h.tape, hg.output.trans h.output, Nat.le_trans h.size hg.size, fun k hk hne => (hg.block k (Nat.lt_of_lt_of_le hk h.size) (fun e => by have := hr k e.symm; omega)).trans (h.block k hk hne)⟩
theorem But.but {b b' : Nat} {w0 w w1 : World} (h : But b w0 w) (hb : But b' w w1) (hr : w0.heap.size ≤ b') : But b w0 w1 :=
  ⟨hb.os.trans h.os, hb.tape.trans h.tape, hb.output.trans h.output, Nat.le_trans h.size hb.size, fun k hk hne => (hb.block k (Nat.lt_of_lt_of_le hk h.size) (by omega)).trans (h.block k hk hne)⟩
theorem loopM_stop {sub : SubM} {s : Str} {n i p : Nat} {out : List Pck} (h : 0 < out.length) (ha : isAt s (blankM s i) 125 = true) : loopM sub s (n + 1) out i p = .ok (out, blankM s i + 1, p) := by
  rw [loopM, if_pos ⟨h, ha⟩]
theorem loopM_go {sub : SubM} {s : Str} {n i p : Nat} {out : List Pck} (h : ¬ (0 < out.length ∧ isAt s (blankM s i) 125 = true)) : loopM sub s (n + 1) out i p = match pickM sub s (if 0 < out.length then blankM s i else i) p with
      | .error e => .error e
      | .ok (x, i', p') => loopM sub s n (out ++ [x]) i' p' := by
  rw [loopM, if_neg h]
  cases pickM sub s (if 0 < out.length then blankM s i else i) p <;> rfl
/-- what reading one pick, and a list of them, must do -/
def PickR (d : Nat) : Prop := ∀ {b i p k : Nat} {s : Str} (w : World), k + d = 8 → Rd w b s i p → i ≤ s.size → s.size ≤ 1000 → p ≤ 60 →
  Calls Try.prog 89 #[.pointer (some ⟨b, 0, none⟩), .int .i64 (k : Int)] w fun en w' => But b w w' ∧ match pickM (listM s d) s i p with
    | .error (e, j) => en = .panicked (oopsV e j)
    | .ok (x, i', p') => ∃ v, en = .returned (.agg #[.string x.as, .string x.field, v]) ∧ Rd w' b s i' p' ∧ SliceOf (pckLay d) (fun k => w.heap.size ≤ k) w' v x.picks
def ListR (d : Nat) : Prop := ∀ {b i p k : Nat} {s : Str} (w : World), k + d = 9 → Rd w b s i p → i ≤ s.size → s.size ≤ 1000 → p ≤ 60 →
  Calls Try.prog 52 #[.pointer (some ⟨b, 0, none⟩), .int .i64 (k : Int)] w fun en w' => But b w w' ∧ match listM s d i p with
    | .error (e, j) => en = .panicked (oopsV e j)
    | .ok (l, i', p') => ∃ v, en = .returned v ∧ Rd w' b s i' p' ∧ SliceOf (pckLay d) (fun k => w.heap.size ≤ k) w' v l
section
variable {P : Program} {f : FuncId} {N : Nat} {K : Act → World → Prop} {e : Env} {w w0 : World} {R : Ending → World → Prop}
variable {ops : Array Oper} {rest : List Oper} {d : Nat} {ty : TypeId} {ps : String} {af : Array Edge} {g : Option (Nat × Bool)} {v : Value}
/-- append to a row of one's own, beside a block that changes -/
theorem RL.appB {α : Type} {L : Lay α} [OneC L] {t el : TypeId} {by_ : Nat} {z : Value} [Sli P t el] [Siz P el L.k] [Byt P el by_] [Zer P el z] {x y : Operand} {b B : Nat} {S : Nat → Prop} {xv : Value} {xs ys : List α} (hu : But b w0 w)
    (ho : Own L el B S w v xs) (hs : SliceOf L (fun b => S b ∧ some b ≠ v.ownBlock) w xv ys) (hsz : ((xs.length + ys.length) + (xs.length + ys.length) / 4 + 192) * by_ ≤ 281474976710656) (hB : w0.heap.size ≤ B) (hBw : B ≤ w.heap.size)
    (h : ∀ v' w1, But b w0 w1 → Own L el B S w1 v' (xs ++ ys) → w.grownBy w1 v.ownBlock → (∀ g, v'.ownBlock = some g → v.ownBlock = some g ∨ g = w.heap.size) → RL P f N ops rest K ((d, v') :: e) w1 R)
    (hw : Wants ops e g := by first | exact trivial | exact ⟨_, _, rfl, rfl, rfl⟩) (hd : Nat.blt d N = true := by rfl) (hx : e.ev x = some v := by rfl) (hy : e.ev y = some xv := by rfl) (hz : z.cells.size = L.k := by rfl) (hb0 : 0 < by_ := by decide) :
    RL P f N ops ({ dst := some d, op := .call { callee := .builtin .append, args := #[x, y], argTypes := #[t, t] }, type := ty, pos := ps, after := af, guard := g } :: rest) K e w R := by
  obtain ⟨v', w1, hr, h1, h2, h3⟩ := append_wide (P := P) (t := t) (el := el) ty hz hb0 ho hs hsz hBw
  exact RL.eff hw hd (e_append hx hy hr) (h v' w1 (hu.grown h2 fun k hk => Nat.le_trans hB (ho.lt k hk).1) h1 h2 h3)
end
instance (n : Nat) : OneC (pckLay (n + 1)) := ⟨fun {S w cs x} h c hc => by
  obtain ⟨v, rfl, a, c', rfl, _⟩ := pckLay_succ h
  simp at hc
  rcases hc with rfl | rfl | rfl <;> rfl⟩
theorem list_zero : ListR 0 := by
  intro b i p k s w hk hb hi hs hp
  refine calls_of_sim Try.func52 rfl (Nat.le_of_ble_eq_true rfl) ?_
  have h8 : (8 : Int) < (k : Int) := by omega
  repeat (first | refine RL.vv ?_ | refine RL.p ?_ | refine RL.nil ?_ | refine Sim.seq ?_ | refine Sim.region ?_ | refine Sim.block ?_ | refine Sim.skip ?_ | refine Sim.inBlock ?_ | refine Sim.exit rfl ?_ | refine Sim.condT rfl ?_ | refine Sim.condF rfl ?_)
  refine RL.callP Try.func52 trivial rfl (c_static rfl) (fail_any 3 w hb) ?_
  rintro _ _ ⟨rfl, rfl⟩
  exact .inr ⟨_, rfl, .refl _ _, rfl⟩
set_option maxHeartbeats 2000000 in
theorem list_step {d : Nat} (hd7 : d ≤ 7) (H : PickR d) : ListR (d + 1) := by
  intro b i p k s w hk hb hi hs hp
  refine calls_of_sim Try.func52 rfl (Nat.le_of_ble_eq_true rfl) ?_
  have h8 : ¬ (8 : Int) < (k : Int) := by omega
  have hok : SubOk s (listM s d) (fun ps n => shapeM d ps (9 - d : Int) n) := listM_ok d d _ (Nat.le_refl _) (by omega)
  repeat (first | refine RL.vv ?_ | refine RL.p ?_ | refine RL.nil ?_ | refine Sim.seq ?_ | refine Sim.region ?_ | refine Sim.block ?_ | refine Sim.skip ?_ | refine Sim.inBlock ?_ | refine Sim.exit rfl ?_ | refine Sim.condT rfl ?_ | refine Sim.condF rfl ?_)
  have hlm : listM s (d + 1) i p = match mustM s i 123 with
    | .error e => .error e
    | .ok j => loopM (listM s d) s (61 - p) [] j p := rfl
  have hbl := hb.lt
  refine RL.callP Try.func52 trivial rfl (c_static rfl) (must_any w hb hi hs) ?_
  rcases hm : mustM s i 123 with ⟨e, j⟩ | j
  · rw [hlm, hm]
    rintro _ w1 ⟨hbt, rfl⟩
    exact .inr ⟨_, rfl, hbt, rfl⟩
  obtain ⟨RR, hR⟩ : ∃ RR, loopM (listM s d) s (61 - p) [] j p = RR := ⟨_, rfl⟩
  have hls : listM s (d + 1) i p = RR := by rw [hlm, hm]; exact hR
  rw [hls]
  rintro _ w1 ⟨hbt, rfl, hb⟩
  refine .inl ⟨_, rfl, ?_⟩
  have hj := mustM_ok hm
  clear hlm hls
  repeat (first | refine RL.vv ?_ | refine RL.p ?_ | refine RL.nil ?_ | refine Sim.seq ?_ | refine Sim.region ?_ | refine Sim.block ?_ | refine Sim.skip ?_ | refine Sim.inBlock ?_ | refine Sim.exit rfl ?_ | refine Sim.condT rfl ?_ | refine Sim.condF rfl ?_)
  refine Sim.loop (σ := Nat × List Pck × Nat × Nat × Value) (fun st => [(0, .pointer (some ⟨b, 0, none⟩)), (1, .int .i64 (k : Int)), (5, st.2.2.2.2)])
    (fun st w' => st.2.2.1 ≤ s.size ∧ st.2.2.2.1 ≤ 60 ∧ st.2.1.length ≤ st.2.2.2.1 ∧ 61 ≤ st.1 + st.2.2.2.1 ∧ But b w w' ∧ Rd w' b s st.2.2.1 st.2.2.2.1 ∧ Own (pckLay (d + 1)) 102 w.heap.size (fun x => w.heap.size ≤ x) w' st.2.2.2.2 st.2.1 ∧ loopM (listM s d) s st.1 st.2.1 st.2.2.1 st.2.2.2.1 = RR)
    (fun st => 60 - st.2.2.2.1) (61 - p, [], j, p, .slice none 0 0) sb ⟨hj.2, hp, Nat.zero_le _, by simp only; omega, hbt, hb, Own.nil _ _ _ _ _, hR⟩ ?_
  clear hb hbt hR hj hm hp hi
  rintro ⟨n, out, i2, p2, v⟩ w2 ⟨hi, hp, hol, hn, hbt, hb, ho, hR⟩ next
  simp only at hi hp hol hn hb ho hR next ⊢
  obtain ⟨n, rfl⟩ : ∃ m, n = m + 1 := ⟨n - 1, by omega⟩
  obtain ⟨va, vc, rfl⟩ := ho.shape
  by_cases h0 : (out.length : Int) = 0
  · have hgo := loopM_go (sub := listM s d) (s := s) (n := n) (i := i2) (p := p2) (out := out) (fun h => by omega)
    rw [if_neg (by omega)] at hgo
    rw [hgo] at hR
    clear hgo
    obtain ⟨ic, rfl⟩ : ∃ ic, ic = i2 := ⟨_, rfl⟩
    repeat (first | refine RL.vv ?_ | refine RL.p ?_ | refine RL.nil ?_ | refine Sim.seq ?_ | refine Sim.region ?_ | refine Sim.block ?_ | refine Sim.skip ?_ | refine Sim.inBlock ?_ | refine Sim.exit rfl ?_ | refine Sim.condT rfl ?_ | refine Sim.condF rfl ?_)
    refine RL.callP Try.func52 trivial rfl (c_static rfl) (H _ (by omega) hb hi hs hp) ?_
    rcases hpk : pickM (listM s d) s ic p2 with ⟨e, j'⟩ | ⟨x, i', p'⟩
    · have hR : Except.error (e, j') = RR := by rw [hpk] at hR; exact hR
      rintro _ w4 ⟨hbt4, rfl⟩
      exact .inr ⟨_, rfl, hbt.trans hbt4, by rw [← hR]⟩
    have hR : loopM (listM s d) s n (out ++ [x]) i' p' = RR := by rw [hpk] at hR; exact hR
    obtain ⟨hq1, _, _, _, hq2, hq3, hq4, hq5⟩ := pickM_ok hok hi hp hpk
    rintro _ w4 ⟨hbt4, xv, rfl, hb, hsl⟩
    refine .inl ⟨_, rfl, ?_⟩
    have ho4 := ho.but hbt4 (fun x hx => by omega) (fun g hg => by have := (ho.lt g hg).1; omega)
    obtain ⟨xa, xc, rfl, _⟩ := id hsl
    refine RL.bu (el := 102) [.string x.as, .string x.field, .slice xa x.picks.length xc] (.refl w4) fun bx w5 hex _ hu45 _ hbx => ?_
    have hbt5 := (hbt.trans hbt4).trans (But.of_up hu45)
    have hsz := hbt.size
    have hsz4 := hbt4.size
    have hsz5 := hu45.size
    have hel : (pckLay (d + 1)).is (fun y => w.heap.size ≤ y ∧ some y ≠ Value.ownBlock (.slice va out.length vc)) w5 [.string x.as, .string x.field, .slice xa x.picks.length xc] x := by
      have h1 := (hsl.up hu45).mono (S' := fun y => w.heap.size ≤ y ∧ some y ≠ Value.ownBlock (.slice va out.length vc)) fun y hy => ⟨by omega, ho.ne hy⟩
      obtain ⟨a', c', e', q1, q2, q3⟩ := h1
      cases e'
      exact ⟨_, _, rfl, q1, q2, q3⟩
    refine RL.appB (L := pckLay (d + 1)) (el := 102) (S := fun x => w.heap.size ≤ x) (ys := [x]) hbt5 (ho4.up hu45) (SliceOf.one hbx ⟨by omega, ho4.ne (by omega)⟩ hel) (by simp only [List.length_cons, List.length_nil]; omega) (Nat.le_refl _) (by omega) fun v' w6 hbt6 ho6 hg hv => ?_
    have hb := (hb.up hu45).grown hg (ho4.ne' hbl)
    repeat (first | refine RL.vv ?_ | refine RL.p ?_ | refine RL.nil ?_ | refine Sim.seq ?_ | refine Sim.region ?_ | refine Sim.block ?_ | refine Sim.skip ?_ | refine Sim.inBlock ?_ | refine Sim.exit rfl ?_ | refine Sim.condT rfl ?_ | refine Sim.condF rfl ?_)
    exact next (n, out ++ [x], i', p', v') w6 _ ⟨hq5, hq3, by simp only [List.length_append, List.length_cons, List.length_nil]; omega, by simp only; omega, hbt6, hb, ho6, hR⟩ (by simp only; omega) sb
  have h1 : 0 < out.length := by omega
  repeat (first | refine RL.vv ?_ | refine RL.p ?_ | refine RL.nil ?_ | refine Sim.seq ?_ | refine Sim.region ?_ | refine Sim.block ?_ | refine Sim.skip ?_ | refine Sim.inBlock ?_ | refine Sim.exit rfl ?_ | refine Sim.condT rfl ?_ | refine Sim.condF rfl ?_)
  refine RL.cx (eat_any w2 hb hi hs) ?_
  rintro _ w3 ⟨rfl, hbt3, hb⟩
  refine ⟨_, rfl, ?_⟩
  have ho := ho.but hbt3 (fun x hx => by omega) (fun g hg => by have := (ho.lt g hg).1; omega)
  have hbt := hbt.trans hbt3
  rcases Bool.eq_false_or_eq_true (isAt s (blankM s i2) 125) with hc | hc
  · rw [loopM_stop h1 hc] at hR
    rw [hc] at hb ⊢
    repeat (first | refine RL.vv ?_ | refine RL.p ?_ | refine RL.nil ?_ | refine Sim.seq ?_ | refine Sim.region ?_ | refine Sim.block ?_ | refine Sim.skip ?_ | refine Sim.inBlock ?_ | refine Sim.exit rfl ?_ | refine Sim.condT rfl ?_ | refine Sim.condF rfl ?_)
    refine Sim.ret1 Try.func52 rfl rfl ⟨hbt, ?_⟩
    rw [← hR]
    exact ⟨_, rfl, hb, ho.sl (fun x hx _ _ => hx) fun g hg => (ho.lt g hg).1⟩
  have hgo := loopM_go (sub := listM s d) (s := s) (n := n) (i := i2) (p := p2) (out := out) (fun h => by rw [hc] at h; exact Bool.false_ne_true h.2)
  rw [if_pos h1] at hgo
  rw [hgo] at hR
  rw [hc] at hb ⊢
  have hi := blankM_le hi
  clear hgo hc
  have hb : Rd w3 b s (blankM s i2) p2 := hb
  generalize blankM s i2 = ic at *
  repeat (first | refine RL.vv ?_ | refine RL.p ?_ | refine RL.nil ?_ | refine Sim.seq ?_ | refine Sim.region ?_ | refine Sim.block ?_ | refine Sim.skip ?_ | refine Sim.inBlock ?_ | refine Sim.exit rfl ?_ | refine Sim.condT rfl ?_ | refine Sim.condF rfl ?_)
  refine RL.callP Try.func52 trivial rfl (c_static rfl) (H _ (by omega) hb hi hs hp) ?_
  rcases hpk : pickM (listM s d) s ic p2 with ⟨e, j'⟩ | ⟨x, i', p'⟩
  · have hR : Except.error (e, j') = RR := by rw [hpk] at hR; exact hR
    rintro _ w4 ⟨hbt4, rfl⟩
    exact .inr ⟨_, rfl, hbt.trans hbt4, by rw [← hR]⟩
  have hR : loopM (listM s d) s n (out ++ [x]) i' p' = RR := by rw [hpk] at hR; exact hR
  obtain ⟨hq1, _, _, _, hq2, hq3, hq4, hq5⟩ := pickM_ok hok hi hp hpk
  rintro _ w4 ⟨hbt4, xv, rfl, hb, hsl⟩
  refine .inl ⟨_, rfl, ?_⟩
  have ho4 := ho.but hbt4 (fun x hx => by omega) (fun g hg => by have := (ho.lt g hg).1; omega)
  obtain ⟨xa, xc, rfl, _⟩ := id hsl
  refine RL.bu (el := 102) [.string x.as, .string x.field, .slice xa x.picks.length xc] (.refl w4) fun bx w5 hex _ hu45 _ hbx => ?_
  have hbt5 := (hbt.trans hbt4).trans (But.of_up hu45)
  have hsz := hbt.size
  have hsz4 := hbt4.size
  have hsz5 := hu45.size
  have hel : (pckLay (d + 1)).is (fun y => w.heap.size ≤ y ∧ some y ≠ Value.ownBlock (.slice va out.length vc)) w5 [.string x.as, .string x.field, .slice xa x.picks.length xc] x := by
    have h1 := (hsl.up hu45).mono (S' := fun y => w.heap.size ≤ y ∧ some y ≠ Value.ownBlock (.slice va out.length vc)) fun y hy => ⟨by omega, ho.ne hy⟩
    obtain ⟨a', c', e', q1, q2, q3⟩ := h1
    cases e'
    exact ⟨_, _, rfl, q1, q2, q3⟩
  refine RL.appB (L := pckLay (d + 1)) (el := 102) (S := fun x => w.heap.size ≤ x) (ys := [x]) hbt5 (ho4.up hu45) (SliceOf.one hbx ⟨by omega, ho4.ne (by omega)⟩ hel) (by simp only [List.length_cons, List.length_nil]; omega) (Nat.le_refl _) (by omega) fun v' w6 hbt6 ho6 hg hv => ?_
  have hb := (hb.up hu45).grown hg (ho4.ne' hbl)
  repeat (first | refine RL.vv ?_ | refine RL.p ?_ | refine RL.nil ?_ | refine Sim.seq ?_ | refine Sim.region ?_ | refine Sim.block ?_ | refine Sim.skip ?_ | refine Sim.inBlock ?_ | refine Sim.exit rfl ?_ | refine Sim.condT rfl ?_ | refine Sim.condF rfl ?_)
  exact next (n, out ++ [x], i', p', v') w6 _ ⟨hq5, hq3, by simp only [List.length_append, List.length_cons, List.length_nil]; omega, by simp only; omega, hbt6, hb, ho6, hR⟩ (by simp only; omega) sb
set_option maxHeartbeats 4000000 in
theorem pick_step {d : Nat} (hd : d ≤ 8) (H : ListR d) : PickR d := by
  intro b i p k s w hk hb hi hs hp
  refine calls_of_sim Try.func89 rfl (Nat.le_of_ble_eq_true rfl) ?_
  have hok : SubOk s (listM s d) (fun ps n => shapeM d ps (9 - d : Int) n) := listM_ok d d _ (Nat.le_refl _) (by omega)
  have hbl := hb.lt
  repeat (first | refine RL.vv ?_ | refine RL.p ?_ | refine RL.nil ?_ | refine Sim.seq ?_ | refine Sim.region ?_ | refine Sim.block ?_ | refine Sim.skip ?_ | refine Sim.inBlock ?_ | refine Sim.exit rfl ?_ | refine Sim.condT rfl ?_ | refine Sim.condF rfl ?_)
  refine RL.al (.refl w) fun b4 w1 he4 _ hu1 _ hb4 => ?_
  have hb := hb.up hu1
  repeat (first | refine RL.vv ?_ | refine RL.p ?_ | refine RL.nil ?_ | refine Sim.seq ?_ | refine Sim.region ?_ | refine Sim.block ?_ | refine Sim.skip ?_ | refine Sim.inBlock ?_ | refine Sim.exit rfl ?_ | refine Sim.condT rfl ?_ | refine Sim.condF rfl ?_)
  refine RL.callP Try.func89 trivial rfl (c_static rfl) (name_any w1 hb hi hs) ?_
  rcases hn : nameM s i with ⟨e, j⟩ | ⟨n, i1⟩
  · have hpk : pickM (listM s d) s i p = .error (e, j) := by unfold pickM; rw [hn]
    rw [hpk]
    rintro _ w2 ⟨hbt, rfl⟩
    exact .inr ⟨_, rfl, (But.of_up hu1).trans hbt, rfl⟩
  rintro _ w2 ⟨hbt2, rfl, hb⟩
  refine .inl ⟨_, rfl, ?_⟩
  have hi1 := (nameM_at hn hi).2.1
  have hn4 : b4 ≠ b := by omega
  have hb4 := hb4.but hbt2 hn4
  refine RL.val trivial rfl (y_build (v := .agg #[.string ⟨#[]⟩, .string n, .slice none 0 0]) rfl (fun w => by kernel_rfl)) ?_
  refine RL.al (.refl w2) fun b5 w3 he5 _ hu3 _ hb5 => ?_
  have hb := hb.up hu3
  have hl4 := hb4.lt
  have hb4 := hb4.up hu3
  have hl := hb.lt
  refine RL.sb hb5 fun w4 hbt4 hb5 => ?_
  have hs1 := hu1.size
  have hs2 := hbt2.size
  have hs3 := hu3.size
  have hbt : But b w w4 := (((But.of_up hu1).trans hbt2).trans (But.of_up hu3)).but hbt4 (by omega)
  have hb := hb.but hbt4 (by omega)
  have hb4 := hb4.but hbt4 (by omega)
  have hn45 : b4 ≠ b5 := by omega
  have hl4 := hb4.lt
  have hl5 := hb5.lt
  have hw4 : w.heap.size ≤ b4 := by omega
  have hw5 : w.heap.size ≤ b5 := by omega
  have hb5 : Box w4 b5 102 [.string ⟨#[]⟩, .string n, .slice none 0 0] := hb5
  have hb4 : Box w4 b4 102 [.string ⟨#[]⟩, .string ⟨#[]⟩, .slice none 0 0] := hb4
  clear hs1 hs2 hs3 hu1 hbt2 hu3 hbt4 he4 he5
  have ha := hb.at
  repeat (first | refine RL.vv ?_ | refine RL.p ?_ | refine RL.nil ?_ | refine Sim.seq ?_ | refine Sim.region ?_ | refine Sim.block ?_ | refine Sim.skip ?_ | refine Sim.inBlock ?_ | refine Sim.exit rfl ?_ | refine Sim.condT rfl ?_ | refine Sim.condF rfl ?_)
  refine RL.sb hb fun w5 hbt5 hb => ?_
  have hb : Rd w5 b s i1 (p + 1) := hb
  have hbt := hbt.trans hbt5
  have hb4 := hb4.but hbt5 hn4
  have hb5 := hb5.but hbt5 (by omega)
  have ha := hb.at
  clear hbt5
  by_cases h60 : (60 : Int) < ((p + 1 : Nat) : Int)
  · have hpk : pickM (listM s d) s i p = .error (4, i1) := by
      unfold pickM
      rw [hn]
      exact if_pos (by omega)
    rw [hpk]
    repeat (first | refine RL.vv ?_ | refine RL.p ?_ | refine RL.nil ?_ | refine Sim.seq ?_ | refine Sim.region ?_ | refine Sim.block ?_ | refine Sim.skip ?_ | refine Sim.inBlock ?_ | refine Sim.exit rfl ?_ | refine Sim.condT rfl ?_ | refine Sim.condF rfl ?_)
    refine RL.callP Try.func89 trivial rfl (c_static rfl) (fail_any 4 w5 hb) ?_
    rintro _ _ ⟨rfl, rfl⟩
    exact .inr ⟨_, rfl, hbt, rfl⟩
  have h60' : ¬ 60 < p + 1 := by omega
  refine RL.nil ?_
  ((repeat refine Sim.seq ?_); refine Sim.region ?_; (repeat (first | refine RL.vv ?_ | refine RL.p ?_)); refine RL.nil ?_)
  refine Sim.condF rfl ?_
  refine Sim.skip ?_
  refine Sim.seq ?_
  refine Sim.cutX (σ := Str × Str × Nat) (fun _ => [(0, .pointer (some ⟨b, 0, none⟩)), (1, .int .i64 (k : Int)), (4, .pointer (some ⟨b4, 0, none⟩)), (5, .pointer (some ⟨b5, 0, none⟩))])
    (fun st w' => st.2.2 ≤ s.size ∧ But b w w' ∧ Rd w' b s st.2.2 (p + 1) ∧ Box w' b4 102 [.string ⟨#[]⟩, .string ⟨#[]⟩, .slice none 0 0] ∧ Box w' b5 102 [.string st.1, .string st.2.1, .slice none 0 0] ∧ pickM (listM s d) s i p = tailM (listM s d) s (p + 1) st.1 st.2.1 st.2.2) (fun k' next => ?_) ?_
  · repeat (first | refine RL.vv ?_ | refine RL.p ?_ | refine RL.nil ?_ | refine Sim.seq ?_ | refine Sim.region ?_ | refine Sim.block ?_ | refine Sim.skip ?_ | refine Sim.inBlock ?_ | refine Sim.exit rfl ?_ | refine Sim.condT rfl ?_ | refine Sim.condF rfl ?_)
    refine RL.cx (eat_any w5 hb hi1 hs) ?_
    rintro _ w6 ⟨rfl, hbt6, hb⟩
    refine ⟨_, rfl, ?_⟩
    have hbt := hbt.trans hbt6
    have hb4 := hb4.but hbt6 hn4
    have hb5 := hb5.but hbt6 (by omega)
    have hj := blankM_le hi1
    rcases Bool.eq_false_or_eq_true (isAt s (blankM s i1) 58) with hc | hc
    · rw [hc] at hb ⊢
      have hb : Rd w6 b s (blankM s i1 + 1) (p + 1) := hb
      have hlt := isAt_lt hc
      repeat (first | refine RL.vv ?_ | refine RL.p ?_ | refine RL.nil ?_ | refine Sim.seq ?_ | refine Sim.region ?_ | refine Sim.block ?_ | refine Sim.skip ?_ | refine Sim.inBlock ?_ | refine Sim.exit rfl ?_ | refine Sim.condT rfl ?_ | refine Sim.condF rfl ?_)
      have h1 : At w6.drew b5 0 [.string ⟨#[]⟩, .string n, .slice none 0 0] := hb5.at.up (Up.drew _)
      have h2 : True := trivial
      refine Sim.ordD [5, 7] (fun wq => At wq b5 0 [.string ⟨#[]⟩, .string n, .slice none 0 0]) (fun _ => True) ?_ mixed
      refine RD.tk 0 ?_
      refine RD.tk 1 ?_ (hy := fun wq hq => y_loadF rfl hq rfl)
      refine RD.tm 2 ?_
      refine RD.tk 4 ?_
      refine RD.one 3 ?_
      refine RL.callP Try.func89 trivial rfl (c_static rfl) (name_any w6.drew (hb.up (Up.drew _)) (by omega) hs) ?_
      have hbt := hbt.trans (But.of_up (Up.drew w6))
      rcases hn2 : nameM s (blankM s i1 + 1) with ⟨e, j⟩ | ⟨n2, i2⟩
      · have hpk : pickM (listM s d) s i p = .error (e, j) := by
          unfold pickM
          rw [hn]
          simp only
          rw [if_neg h60', if_pos hc, hn2]
        rw [hpk]
        rintro _ w7 ⟨hbt7, rfl⟩
        exact .inr ⟨_, rfl, hbt.trans hbt7, rfl⟩
      rintro _ w7 ⟨hbt7, rfl, hb⟩
      refine .inl ⟨_, rfl, ?_⟩
      have hb4 := (hb4.up (Up.drew _)).but hbt7 hn4
      have hb5 := (hb5.up (Up.drew _)).but hbt7 (by omega)
      refine RL.od trivial hb5.at ?_
      refine RD.one 5 ?_
      refine RL.sb hb5 fun w8 hbt8 hb5 => ?_
      refine RL.ox trivial ?_
      refine RD.one 6 ?_
      refine RL.vv ?_
      refine RL.ox trivial ?_
      refine RD.one 7 ?_
      refine RL.sb hb5 fun w9 hbt9 hb5 => ?_
      refine RL.ox trivial ?_
      refine RD.done (RL.nil ?_)
      refine next (n, n2, i2) w9 _ ⟨(nameM_at hn2 (by omega)).2.1, ((hbt.trans hbt7).but hbt8 hw5).but hbt9 (by omega), (hb.but hbt8 (by omega)).but hbt9 (by omega), (hb4.but hbt8 hn45).but hbt9 hn45, hb5, ?_⟩ sb
      unfold pickM
      rw [hn]
      simp only
      rw [if_neg h60', if_pos hc, hn2]
    · rw [hc] at hb ⊢
      have hb : Rd w6 b s (blankM s i1) (p + 1) := hb
      repeat (first | refine RL.vv ?_ | refine RL.p ?_ | refine RL.nil ?_ | refine Sim.seq ?_ | refine Sim.region ?_ | refine Sim.block ?_ | refine Sim.skip ?_ | refine Sim.inBlock ?_ | refine Sim.exit rfl ?_ | refine Sim.condT rfl ?_ | refine Sim.condF rfl ?_)
      refine next (⟨#[]⟩, n, blankM s i1) w6 _ ⟨hj, hbt, hb, hb4, hb5, ?_⟩ sb
      unfold pickM
      rw [hn]
      simp only
      rw [if_neg h60', if_neg (by rw [hc]; exact Bool.false_ne_true)]
  clear hb hb4 hb5 ha hbt hn hi1
  rintro ⟨al, fd, i2⟩ w6 ⟨hi2, hbt, hb, hb4, hb5, hpk⟩
  simp only at hi2 hb hb5 hpk ⊢
  rw [hpk]
  clear hpk
  repeat (first | refine RL.vv ?_ | refine RL.p ?_ | refine RL.nil ?_ | refine Sim.seq ?_ | refine Sim.region ?_ | refine Sim.block ?_ | refine Sim.skip ?_ | refine Sim.inBlock ?_ | refine Sim.exit rfl ?_ | refine Sim.condT rfl ?_ | refine Sim.condF rfl ?_)
  refine RL.cx (blank_any w6 hb hi2 hs) ?_
  rintro _ w7 ⟨rfl, hbt7, hb⟩
  refine ⟨_, rfl, ?_⟩
  have hj := blankM_le hi2
  have hbt := hbt.trans hbt7
  have hb4 := hb4.but hbt7 hn4
  have hb5 := hb5.but hbt7 (by omega)
  have ha := hb.at
  refine RL.nil ?_
  refine Sim.seq ?_
  refine Sim.cutX (σ := List Pck × Nat × Nat × Value) (fun _ => [(4, .pointer (some ⟨b4, 0, none⟩)), (5, .pointer (some ⟨b5, 0, none⟩))])
    (fun st w' => But b w w' ∧ Rd w' b s st.2.1 st.2.2.1 ∧ Box w' b4 102 [.string ⟨#[]⟩, .string ⟨#[]⟩, .slice none 0 0] ∧ Box w' b5 102 [.string al, .string fd, st.2.2.2] ∧ SliceOf (pckLay d) (fun x => w.heap.size ≤ x ∧ x ≠ b4 ∧ x ≠ b5) w' st.2.2.2 st.1 ∧ tailM (listM s d) s (p + 1) al fd i2 = .ok (.mk al fd st.1, st.2.1, st.2.2.1)) (fun k' next => ?_) ?_
  · rcases Bool.eq_false_or_eq_true (isAt s (blankM s i2) 123) with hc | hc
    · have hlt := isAt_lt hc
      obtain ⟨c, hcc⟩ := str_get? s _ hlt
      have h123 : (c.toNat : Int) = 123 := by
        rw [isAt, hcc] at hc
        have := beq_iff_eq.1 hc
        omega
      repeat (first | refine RL.vv ?_ | refine RL.p ?_ | refine RL.nil ?_ | refine Sim.seq ?_ | refine Sim.region ?_ | refine Sim.block ?_ | refine Sim.skip ?_ | refine Sim.inBlock ?_ | refine Sim.exit rfl ?_ | refine Sim.condT rfl ?_ | refine Sim.condF rfl ?_)
      refine Sim.q ?_
      repeat (first | refine RQ.vv ?_ | refine RQ.p ?_)
      refine RQ.nil fun w8 hq => ?_
      have hb := hb.up hq
      have hb4 := hb4.up hq
      have hb5 := hb5.up hq
      have hbt := hbt.trans (But.of_up hq)
      repeat (first | refine RL.vv ?_ | refine RL.p ?_ | refine RL.nil ?_ | refine Sim.seq ?_ | refine Sim.region ?_ | refine Sim.block ?_ | refine Sim.skip ?_ | refine Sim.inBlock ?_ | refine Sim.exit rfl ?_ | refine Sim.condT rfl ?_ | refine Sim.condF rfl ?_)
      refine RL.callP Try.func89 trivial rfl (c_static rfl) (H (k := k + 1) w8 (by omega) hb hj hs (by omega)) ?_
      rcases hl : listM s d (blankM s i2) (p + 1) with ⟨e, j⟩ | ⟨l, i', p'⟩
      · have htl : tailM (listM s d) s (p + 1) al fd i2 = .error (e, j) := by
          unfold tailM
          rw [if_pos hc, hl]
        rw [htl]
        rintro _ w9 ⟨hbt9, rfl⟩
        exact .inr ⟨_, rfl, hbt.trans hbt9, rfl⟩
      rintro _ w9 ⟨hbt9, v, rfl, hb, hsl⟩
      refine .inl ⟨_, rfl, ?_⟩
      have hl4 := hb4.lt
      have hl5 := hb5.lt
      have hsz := hbt.size
      have hb4 := hb4.but hbt9 hn4
      have hb5 := hb5.but hbt9 (by omega)
      obtain ⟨va, vc, rfl, _⟩ := id hsl
      repeat (first | refine RL.vv ?_ | refine RL.p ?_ | refine RL.nil ?_ | refine Sim.seq ?_ | refine Sim.region ?_ | refine Sim.block ?_ | refine Sim.skip ?_ | refine Sim.inBlock ?_ | refine Sim.exit rfl ?_ | refine Sim.condT rfl ?_ | refine Sim.condF rfl ?_)
      refine RL.sb hb5 fun w10 hbt10 hb5 => ?_
      repeat (first | refine RL.vv ?_ | refine RL.p ?_ | refine RL.nil ?_ | refine Sim.seq ?_ | refine Sim.region ?_ | refine Sim.block ?_ | refine Sim.skip ?_ | refine Sim.inBlock ?_ | refine Sim.exit rfl ?_ | refine Sim.condT rfl ?_ | refine Sim.condF rfl ?_)
      refine next (l, i', p', .slice va l.length vc) w10 _ ⟨(hbt.trans hbt9).but hbt10 hw5, hb.but hbt10 (by omega), hb4.but hbt10 hn45, hb5, (hsl.mono fun x hx => ⟨by omega, by omega, by omega⟩).bt hbt10 (fun x hx => hx.2.2), ?_⟩ sb
      unfold tailM
      rw [if_pos hc, hl]
    · have htl : tailM (listM s d) s (p + 1) al fd i2 = .ok (.mk al fd [], blankM s i2, p + 1) := by
        unfold tailM
        rw [if_neg (by rw [hc]; exact Bool.false_ne_true)]
      by_cases hlt : blankM s i2 < s.size
      · obtain ⟨c, hcc⟩ := str_get? s _ hlt
        have h123 : ¬ (c.toNat : Int) = 123 := fun h => by
          rw [isAt, hcc] at hc
          have := beq_eq_false_iff_ne.1 hc
          omega
        repeat (first | refine RL.vv ?_ | refine RL.p ?_ | refine RL.nil ?_ | refine Sim.seq ?_ | refine Sim.region ?_ | refine Sim.block ?_ | refine Sim.skip ?_ | refine Sim.inBlock ?_ | refine Sim.exit rfl ?_ | refine Sim.condT rfl ?_ | refine Sim.condF rfl ?_)
        refine Sim.q ?_
        repeat (first | refine RQ.vv ?_ | refine RQ.p ?_)
        refine RQ.nil fun w8 hq => ?_
        repeat (first | refine RL.vv ?_ | refine RL.p ?_ | refine RL.nil ?_ | refine Sim.seq ?_ | refine Sim.region ?_ | refine Sim.block ?_ | refine Sim.skip ?_ | refine Sim.inBlock ?_ | refine Sim.exit rfl ?_ | refine Sim.condT rfl ?_ | refine Sim.condF rfl ?_)
        exact next ([], blankM s i2, p + 1, .slice none 0 0) w8 _ ⟨hbt.trans (But.of_up hq), hb.up hq, hb4.up hq, hb5.up hq, SliceOf.nil _ _ _, htl⟩ sb
      · repeat (first | refine RL.vv ?_ | refine RL.p ?_ | refine RL.nil ?_ | refine Sim.seq ?_ | refine Sim.region ?_ | refine Sim.block ?_ | refine Sim.skip ?_ | refine Sim.inBlock ?_ | refine Sim.exit rfl ?_ | refine Sim.condT rfl ?_ | refine Sim.condF rfl ?_)
        refine Sim.q ?_
        repeat (first | refine RQ.vv ?_ | refine RQ.p ?_)
        refine RQ.nil fun w8 hq => ?_
        repeat (first | refine RL.vv ?_ | refine RL.p ?_ | refine RL.nil ?_ | refine Sim.seq ?_ | refine Sim.region ?_ | refine Sim.block ?_ | refine Sim.skip ?_ | refine Sim.inBlock ?_ | refine Sim.exit rfl ?_ | refine Sim.condT rfl ?_ | refine Sim.condF rfl ?_)
        exact next ([], blankM s i2, p + 1, .slice none 0 0) w8 _ ⟨hbt.trans (But.of_up hq), hb.up hq, hb4.up hq, hb5.up hq, SliceOf.nil _ _ _, htl⟩ sb
  clear hb hb4 hb5 hbt ha
  rintro ⟨l, i', p', v⟩ w8 ⟨hbt, hb, hb4, hb5, hsl, htl⟩
  simp only at hb hb5 hsl htl ⊢
  rw [htl]
  obtain ⟨va, vc, rfl, _⟩ := id hsl
  have ha5 := hb5.at
  repeat (first | refine RL.vv ?_ | refine RL.p ?_ | refine RL.nil ?_ | refine Sim.seq ?_ | refine Sim.region ?_ | refine Sim.block ?_ | refine Sim.skip ?_ | refine Sim.inBlock ?_ | refine Sim.exit rfl ?_ | refine Sim.condT rfl ?_ | refine Sim.condF rfl ?_)
  refine RL.sb hb4 fun w9 hbt9 hb4 => ?_
  repeat (first | refine RL.vv ?_ | refine RL.p ?_ | refine RL.nil ?_ | refine Sim.seq ?_ | refine Sim.region ?_ | refine Sim.block ?_ | refine Sim.skip ?_ | refine Sim.inBlock ?_ | refine Sim.exit rfl ?_ | refine Sim.condT rfl ?_ | refine Sim.condF rfl ?_)
  exact Sim.retC Try.func89 rfl rfl hb4.at rfl ⟨hbt.but hbt9 hw4, _, rfl, hb.but hbt9 (by omega), (hsl.bt hbt9 fun x hx => hx.2.1).mono fun x hx => hx.1⟩
theorem list_any : ∀ d, d ≤ 8 → ListR d
  | 0, _ => list_zero
  | d + 1, h => list_step (by omega) (pick_step (by omega) (list_any d (by omega)))
end Go.Proofs.Ytgckpmcdlciibab

namespace Go.Proofs.Ytgckpmcdlciibab
open Go.RowKit
section
variable {P : Program} {f : FuncId} {N : Nat} {k : List Item} {K : Act → World → Prop} {e : Env} {w : World} {R : Ending → World → Prop}
variable {ops : Array Oper} {rest : List Oper} {d : Nat} {op : Op} {ty : TypeId} {ps : String} {af : Array Edge} {g : Option (Nat × Bool)} {v : Value} {fn : Func} {D : List Deferred}
theorem RLD.vv (h : RLD P N fn D ops rest K ((d, v) :: e) w R) (hw : Wants ops e g := by first | exact trivial | exact ⟨_, _, rfl, rfl, rfl⟩) (hd : Nat.blt d N = true := by rfl) (hy : Yld P op ty e w v := by (first | exact y_move rfl | exact y_assign rfl | exact y_pickT rfl rfl | exact y_pickF rfl rfl | exact y_nilCheck rfl | exact y_notT rfl | exact y_notF rfl | exact y_not rfl | exact y_len rfl | exact y_lenS rfl | exact y_fieldAddr rfl | exact y_makeFunc rfl | exact y_neqNilF rfl | exact y_neqBF rfl rfl | exact y_neqNilT rfl | exact y_eqlNilF rfl | exact y_eqlNilT rfl | exact y_loadF rfl (by assumption) rfl | exact y_loadF rfl (Box.at (by assumption)) rfl | exact y_loadF rfl (At.up (by assumption) hq) rfl | exact y_loadF rfl (Box.at (Box.up (by assumption) hq)) rfl | exact y_loadF rfl (At.up (w := w) (by assumption) hu) rfl | exact y_loadF rfl (At.up (w := w) (by assumption) (hu.trans hq)) rfl | exact y_load0 rfl (by assumption) rfl | exact y_load0 rfl (Box.at (by assumption)) rfl | exact y_load0 rfl (At.up (by assumption) hq) rfl | exact y_load0 rfl (Box.at (Box.up (by assumption) hq)) rfl | exact y_load0 rfl (At.up (w := w) (by assumption) hu) rfl | exact y_load0 rfl (At.up (w := w) (by assumption) (hu.trans hq)) rfl | exact y_load1 rfl (by assumption) | exact y_loadA rfl (by assumption) (by first | rfl | assumption) | exact y_loadA rfl (Box.at (by assumption)) rfl | exact y_loadA rfl (At.up (by assumption) hq) (by first | rfl | assumption) | exact y_loadA rfl (At.up (w := w) (by assumption) hu) (by first | rfl | assumption) | exact y_loadA rfl (At.up (w := w) (by assumption) (hu.trans hq)) (by first | rfl | assumption) | exact y_extract rfl rfl | exact dT (by (first | assumption | omega)) (y_lss rfl rfl) | exact dF (by (first | assumption | omega)) (y_lss rfl rfl) | exact dT (by (first | assumption | omega)) (y_gtr rfl rfl) | exact dF (by (first | assumption | omega)) (y_gtr rfl rfl) | exact dT (by (first | assumption | omega)) (y_geq rfl rfl) | exact dF (by (first | assumption | omega)) (y_geq rfl rfl) | exact dT (by (first | assumption | omega)) (y_leq rfl rfl) | exact dF (by (first | assumption | omega)) (y_leq rfl rfl) | exact dT (by (first | assumption | omega)) (y_eql rfl rfl) | exact dF (by (first | assumption | omega)) (y_eql rfl rfl) | exact dT (by (first | assumption | omega)) (y_neq rfl rfl) | exact dF (by (first | assumption | omega)) (y_neq rfl rfl) | exact y_lss rfl rfl | exact y_gtr rfl rfl | exact y_geq rfl rfl | exact y_leq rfl rfl | exact y_eql rfl rfl | exact y_neq rfl rfl | exact y_indexAddr rfl rfl (by omega) | exact y_inc rfl rfl (by omega) | exact dT (by assumption) (y_eqlS rfl rfl) | exact dF (by assumption) (y_eqlS rfl rfl) | exact dT (by assumption) (y_neqS rfl rfl) | exact y_neqSF (by assumption) rfl rfl | exact y_eqlS rfl rfl | exact y_neqS rfl rfl | exact y_indexS rfl rfl (by assumption) | exact y_sliceHi rfl rfl (by omega))) :
    RLD P N fn D ops ({ dst := some d, op := op, type := ty, pos := ps, after := af, guard := g } :: rest) K e w R := RLD.val hw hd hy h
theorem RLD.bx {t : TypeId} {x : Operand} (h : ∀ b w1, b = w.heap.size → Up w w1 → Box w1 b t v.cells.toList → RLD P N fn D ops rest K ((d, .pointer (some ⟨b, 0, none⟩)) :: e) w1 R)
    (hw : Wants ops e g := by first | exact trivial | exact ⟨_, _, rfl, rfl, rfl⟩) (hd : Nat.blt d N = true := by rfl) (hx : e.ev x = some v := by rfl) :
    RLD P N fn D ops ({ dst := some d, op := .box t x, type := ty, pos := ps, after := af, guard := g } :: rest) K e w R :=
  RLD.eff hw hd (e_box hx) (h _ _ rfl (Up.alloc w _) (Box.box w v t))
theorem RLD.sb {t u : TypeId} {x y : Operand} {b o : Nat} {cs cs' news : List Value} {n : Nat} [Siz P t n] (hb : Box w b u cs) (h : ∀ w1, But b w w1 → Box w1 b u cs' → RLD P N fn D ops rest K e w1 R)
    (hw : Wants ops e g := by first | exact trivial | exact ⟨_, _, rfl, rfl, rfl⟩) (hx : e.ev x = some (.pointer (some ⟨b, o, none⟩)) := by rfl) (hy : e.ev y = some v := by rfl) (hv : v.cells = news.toArray := by rfl) (hk : news.length = n := by rfl)
    (h1 : ∀ c ∈ news, c.oneCell' = true := by (simp [Value.oneCell'])) (hfit : o + news.length ≤ cs.length := by exact Nat.le_of_ble_eq_true rfl) (hcs : cs.take o ++ news ++ cs.drop (o + news.length) = cs' := by rfl) :
    RLD P N fn D ops ({ dst := none, op := .store t x y, type := ty, pos := ps, after := af, guard := g } :: rest) K e w R := by
  obtain ⟨w1, hs, hb1, hb2⟩ := s_store (P := P) (ty := ty) (t := t) (k := n) hx hy hb hv hk h1 hfit hcs
  exact RLD.sto hw hs (h w1 hb1 hb2)
theorem leaves_retCC {a b n a' b' n' : Nat} {t t' : TypeId} {cs cs' : List Value} [Stc P t] [Siz P t n] [Stc P t'] [Siz P t' n'] (hr : fn.results = #[.cell a t, .cell a' t']) (ha : e.get a = some (.pointer (some ⟨b, 0, none⟩))) (hc : At w b 0 cs) (hk : cs.length = n)
    (ha' : e.get a' = some (.pointer (some ⟨b', 0, none⟩))) (hc' : At w b' 0 cs') (hk' : cs'.length = n') (hR : R (.returned (.tuple #[.agg cs.toArray, .agg cs'.toArray])) w) : ∀ tm, Env.Ok N e tm → Leaves P fn tm R [] .returning w := fun tm hok =>
  ⟨.tuple #[.agg cs.toArray, .agg cs'.toArray], by simp [results, hr, hok.get _ _ ha, hok.get _ _ ha', asAddr, run_loadVar_cells hc hk, run_loadVar_cells hc' hk'], hR⟩
end
abbrev AskB (w : World) (b : Nat) (t k : Str) (v : Value) : Prop := Box w b 37 [.string t, .string k, v]
abbrev FltB (w : World) (b : Nat) (e i : Int) : Prop := Box w b 41 [.int .i64 e, .int .i64 i]
theorem y_ifaceNilF {P : Program} {e : Env} {w : World} {ty t u u' : TypeId} {x : Operand} {v : Value} (hu : P.underlying u = some (.interface (P.methodsAt u))) (hg : ∀ w, (eqGuard .eql u x (.const .nilIface) (.iface t v) .nilIface).run P w = .ok () w) (hx : e.ev x = some (.iface t v)) : Yld P (.binOp .eql u x (.const .nilIface) u') ty e w (.bool false) := Yld.mk fun ρ hρ => by
  have h1 : ρ (.const .nilIface) = .nilIface := hρ (.const .nilIface) _ rfl
  simp [xop, execOp, hρ x _ hx, h1, hg, run_eql_held_nil w u t v hu]
theorem y_ifaceNilT {P : Program} {e : Env} {w : World} {ty u u' : TypeId} {x : Operand} (hu : P.underlying u = some (.interface (P.methodsAt u))) (hg : ∀ w, (eqGuard .eql u x (.const .nilIface) .nilIface .nilIface).run P w = .ok () w) (hx : e.ev x = some .nilIface) : Yld P (.binOp .eql u x (.const .nilIface) u') ty e w (.bool true) := Yld.mk fun ρ hρ => by
  have h1 : ρ (.const .nilIface) = .nilIface := hρ (.const .nilIface) _ rfl
  simp [xop, execOp, hρ x _ hx, h1, hg, run_eql_nil_nil w u hu]
theorem y_assert {P : Program} {e : Env} {w : World} {ty t u : TypeId} {x : Operand} {v v' : Value} (hx : e.ev x = some v) (hq : ∀ w, (Instr.typeAssert v u t true).run P w = .ok v' w) : Yld P (.typeAssert x u t true) ty e w v' := Yld.mk fun ρ hρ => by
  simp [xop, execOp, hρ x _ hx, hq]
/-- what a fault thrown leaves -/
theorem caught {b2 b3 : Nat} {t k : Str} {v : Value} {e0 i0 : Int} (e : Int) (i : Nat) (w : World) (h2 : AskB w b2 t k v) (h3 : FltB w b3 e0 i0) (hne : b2 ≠ b3) :
    CallsD Try.prog 49 #[.pointer (some ⟨b2, 0, none⟩), .pointer (some ⟨b3, 0, none⟩)] (.panicking (oopsV e i)) w fun en u' w' =>
      en = .returned (.tuple #[]) ∧ u' = .panicking [{ v := .iface 122 (.agg #[.int .i64 e, .int .i64 (i : Int)]), recovered := true }] ∧ (∀ w0 : World, Up w0 w → w0.heap.size ≤ b2 → w0.heap.size ≤ b3 → Up w0 w') ∧ AskB w' b2 ⟨#[]⟩ ⟨#[]⟩ (.slice none 0 0) ∧ FltB w' b3 e i := by
  refine callsD_rec Try.func49 rfl (Nat.le_of_ble_eq_true rfl) rfl rfl ?_
  refine SimW.block ?_
  refine SimW.seq (SimW.reg 0 ?_)
  refine RL.val trivial rfl (y_ifaceNilF (by kernel_rfl) (fun w => by kernel_rfl) rfl) ?_
  refine RL.wnil (SimW.condF rfl ?_)
  refine SimW.seq (SimW.reg 0 ?_)
  refine RL.val trivial rfl (y_assert (v' := .tuple #[.agg #[.int .i64 e, .int .i64 (i : Int)], .bool true]) rfl (fun w => by kernel_rfl)) ?_
  refine RL.vv ?_
  refine RL.vv ?_
  refine RL.wnil (SimW.condT rfl ?_)
  refine SimW.seq (SimW.reg 0 ?_)
  refine RL.al (.refl w) fun bx w1 hex _ hu1 _ hbx => ?_
  have hl2 := h2.lt
  have hl3 := h3.lt
  refine RL.sb hbx fun w2 hbt2 hbx => ?_
  have h2 := (h2.up hu1).but hbt2 (by omega)
  have h3 := (h3.up hu1).but hbt2 (by omega)
  have hbx : Box w2 bx 122 [.int .i64 e, .int .i64 (i : Int)] := hbx
  refine RL.wnil ?_
  refine SimW.ordR 0 (fun wq => Box wq bx 122 [.int .i64 e, .int .i64 (i : Int)]) ?_ mixed
  have hS := hbx.up (Up.drew w2)
  refine RO.tk 0 ?_ (hy := fun wq hq => y_build (v := .agg #[.string ⟨#[]⟩, .string ⟨#[]⟩, .slice none 0 0]) rfl (fun w => by kernel_rfl))
  refine RO.tk 1 ?_
  refine RO.tk 2 ?_ (v := .agg #[.int .i64 e, .int .i64 (i : Int)]) (hy := fun wq hq => y_loadA rfl (Box.at hq) rfl)
  refine RO.one 3 ?_
  have hlx := hbx.lt
  refine RL.sb (h2.up (Up.drew w2)) fun w3 hbt3 h2 => ?_
  have hS := hS.but hbt3 (by omega)
  refine RL.ord hS ?_
  refine RO.one 4 ?_
  refine RL.sb ((h3.up (Up.drew w2)).but hbt3 (Ne.symm hne)) fun w4 hbt4 h3 => ?_
  refine RL.ord (hS.but hbt4 (by omega)) ?_
  refine RO.done (RL.wend fun tm hok => ?_)
  refine ⟨rfl, rfl, rfl, fun w0 hu0 hw2 hw3 => ?_, h2.but hbt4 hne, h3⟩
  exact Up.but (Up.but ((Up.but (hu0.trans hu1) hbt2 (by have := hu0.size; omega)).trans (Up.drew w2)) hbt3 hw2) hbt4 hw3
/-- nothing was thrown -/
theorem uncaught {b2 b3 : Nat} (w : World) :
    CallsD Try.prog 49 #[.pointer (some ⟨b2, 0, none⟩), .pointer (some ⟨b3, 0, none⟩)] .returning w fun en u' w' => en = .returned (.tuple #[]) ∧ u' = .returning ∧ w' = w := by
  refine callsD_idle Try.func49 rfl (Nat.le_of_ble_eq_true rfl) rfl rfl ?_
  refine SimW.block ?_
  refine SimW.seq (SimW.reg 0 ?_)
  refine RL.val trivial rfl (y_ifaceNilT (by kernel_rfl) (fun w => by kernel_rfl) rfl) ?_
  refine RL.wnil (SimW.condT rfl ?_)
  refine SimW.reg 0 ?_
  refine RL.vv ?_
  exact RL.wend fun tm hok => ⟨rfl, rfl, rfl, rfl⟩
section
variable {P : Program} {f : FuncId} {N : Nat} {K : Act → World → Prop} {e : Env} {w : World} {R : Ending → World → Prop}
variable {ops : Array Oper} {ty : TypeId} {ps : String} {af : Array Edge} {g : Option (Nat × Bool)} {v : Value} {D : List Deferred} {S : World → Prop} {fuel : Nat} {listed : Array Bool}
theorem ROD.sb (i : Nat) {t u : TypeId} {x y : Operand} {b o : Nat} {cs cs' news : List Value} {n : Nat} [Siz P t n] (hb : Box w b u cs) (h : ∀ w1, But b w w1 → Box w1 b u cs' → S w1 ∧ ROD P N D ops S fuel (listed.setIfInBounds i true) K e w1 R)
    (hr : Region.ready .any ops listed = [i] := by kernel_rfl) (hi : ops[i]? = some { dst := none, op := .store t x y, type := ty, pos := ps, after := af, guard := g } := by rfl) (hw : Wants ops e g := by first | exact trivial | exact ⟨_, _, rfl, rfl, rfl⟩) (hx : e.ev x = some (.pointer (some ⟨b, o, none⟩)) := by rfl) (hy : e.ev y = some v := by rfl) (hv : v.cells = news.toArray := by rfl) (hk : news.length = n := by rfl)
    (h1 : ∀ c ∈ news, c.oneCell' = true := by (simp [Value.oneCell'])) (hfit : o + news.length ≤ cs.length := by exact Nat.le_of_ble_eq_true rfl) (hcs : cs.take o ++ news ++ cs.drop (o + news.length) = cs' := by rfl) : ROD P N D ops S (fuel + 1) listed K e w R := by
  obtain ⟨w1, hs, hb1, hb2⟩ := s_store (P := P) (ty := ty) (t := t) (k := n) hx hy hb hv hk h1 hfit hcs
  refine ROD.each hr (by simp) fun j hj => ?_
  simp only [List.mem_singleton] at hj
  subst hj
  exact ROD.sto1 hi hw hs (h w1 hb1 hb2).1 (h w1 hb1 hb2).2
end
def ParseR (s : Str) (w : World) (en : Ending) (w' : World) : Prop := ∃ v, en = .returned (.tuple #[.agg #[.string (parseM s).1.type, .string (parseM s).1.key, v], .agg #[.int .i64 (parseM s).2.1, .int .i64 (parseM s).2.2]]) ∧ Up w w' ∧ SliceOf (pckLay 8) (fun k => w.heap.size ≤ k) w' v (parseM s).1.picks
abbrev catchD (b2 b3 : Nat) : Deferred := { target := .fn (.func 49) #[.pointer (some ⟨b2, 0, none⟩), .pointer (some ⟨b3, 0, none⟩)], args := #[] }
theorem leaves_oops {s : Str} {w w' : World} {e' : Env} {e : Int} {j b2 b3 : Nat} {t k : Str} {v : Value} (hs : s.size ≤ 1000) (g2 : e'.get 2 = some (.pointer (some ⟨b2, 0, none⟩))) (g3 : e'.get 3 = some (.pointer (some ⟨b3, 0, none⟩))) (hne : b2 ≠ b3) (hw2 : w.heap.size ≤ b2) (hw3 : w.heap.size ≤ b3) (hu : Up w w') (h2 : AskB w' b2 t k v) (h3 : FltB w' b3 0 0) (hp : askM s = .error (e, j)) :
    ∀ tm, Env.Ok Try.f21.ntmps e' tm → Leaves Try.prog Try.f21 tm (ParseR s w) [catchD b2 b3] (.panicking (oopsV e j)) w' := fun tm hok => by
  refine leaves_cons (f := 49) (args := #[.pointer (some ⟨b2, 0, none⟩), .pointer (some ⟨b3, 0, none⟩)]) (by simp) (by simp [go_sem]) ((caught e j w' h2 h3 hne).mono ?_)
  rintro en u' w'' ⟨rfl, rfl, hup, h2', h3'⟩
  have hpm : parseM s = (⟨⟨#[]⟩, ⟨#[]⟩, []⟩, e, (j : Int)) := by
    unfold parseM
    rw [if_neg (by omega), hp]
  refine leaves_retCC rfl g2 h2'.at rfl g3 h3'.at rfl ?_ tm hok
  refine ⟨.slice none 0 0, ?_, hup w hu hw2 hw3, ?_⟩
  · rw [hpm]
  · rw [hpm]
    exact SliceOf.nil _ _ _
set_option maxHeartbeats 4000000 in
theorem Parse_walk (s : Str) (w : World) : Calls Try.prog 21 #[.string s] w (ParseR s w) := by
  refine calls_of_sim Try.func21 rfl (Nat.le_of_ble_eq_true rfl) ?_
  repeat (first | refine RL.vv ?_ | refine RL.p ?_ | refine RL.nil ?_ | refine Sim.seq ?_ | refine Sim.region ?_ | refine Sim.block ?_ | refine Sim.skip ?_ | refine Sim.inBlock ?_ | refine Sim.exit rfl ?_ | refine Sim.condT rfl ?_ | refine Sim.condF rfl ?_)
  refine RL.al (.refl w) fun b2 w1 he2 hw2 hu1 _ h2 => ?_
  refine RL.al hu1 fun b3 w2 he3 hw3 hu h12 h3 => ?_
  have hne : b2 ≠ b3 := by have := h2.lt; omega
  have h2 := h2.up h12
  have h2 : AskB w2 b2 ⟨#[]⟩ ⟨#[]⟩ (.slice none 0 0) := h2
  have h3 : FltB w2 b3 0 0 := h3
  clear h12 hu1
  by_cases hbig : (1000 : Int) < (s.size : Int)
  · have hpm : parseM s = (⟨⟨#[]⟩, ⟨#[]⟩, []⟩, 3, 0) := by
      unfold parseM
      rw [if_pos (by omega)]
    repeat (first | refine RL.vv ?_ | refine RL.p ?_ | refine RL.nil ?_ | refine Sim.seq ?_ | refine Sim.region ?_ | refine Sim.block ?_ | refine Sim.skip ?_ | refine Sim.inBlock ?_ | refine Sim.exit rfl ?_ | refine Sim.condT rfl ?_ | refine Sim.condF rfl ?_)
    refine RL.val trivial rfl (y_build (v := .agg #[.string ⟨#[]⟩, .string ⟨#[]⟩, .slice none 0 0]) rfl (fun w => by kernel_rfl)) ?_
    refine RL.val trivial rfl (y_build (v := .agg #[.int .i64 3, .int .i64 0]) rfl (fun w => by kernel_rfl)) ?_
    refine RL.sb h2 fun w3 hbt3 h2 => ?_
    refine RL.sb (h3.but hbt3 hne.symm) fun w4 hbt4 h3 => ?_
    repeat (first | refine RL.vv ?_ | refine RL.p ?_ | refine RL.nil ?_ | refine Sim.seq ?_ | refine Sim.region ?_ | refine Sim.block ?_ | refine Sim.skip ?_ | refine Sim.inBlock ?_ | refine Sim.exit rfl ?_ | refine Sim.condT rfl ?_ | refine Sim.condF rfl ?_)
    refine Sim.retCC Try.func21 rfl rfl (h2.but hbt4 hne).at rfl rfl h3.at rfl ⟨.slice none 0 0, ?_, Up.but (Up.but hu hbt3 hw2) hbt4 hw3, ?_⟩
    · rw [hpm]
      rfl
    · rw [hpm]
      exact SliceOf.nil _ _ _
  have hs : s.size ≤ 1000 := by omega
  refine RL.nil ?_
  ((repeat refine Sim.seq ?_); refine Sim.region ?_; (repeat (first | refine RL.vv ?_ | refine RL.p ?_)); refine RL.nil ?_)
  refine Sim.condF rfl ?_
  refine Sim.skip ?_
  refine Sim.seq ?_
  refine Sim.toD ?_
  refine SimD.region Try.func21 ?_
  refine RLD.vv ?_
  refine RLD.defer (dd := catchD b2 b3) trivial (fun ρ hρ => by simp [xop, execOp, hρ (.tmp 10) _ rfl, go_sem]) ?_
  repeat (first | refine RLD.vv ?_ | refine RLD.nil ?_ | refine SimD.seq ?_ | refine SimD.region Try.func21 ?_ | refine SimD.skip ?_ | refine SimD.condT rfl ?_ | refine SimD.condF rfl ?_)
  refine RLD.val trivial rfl (y_build (v := .agg #[.string s, .int .i64 0, .int .i64 0]) rfl (fun w => by kernel_rfl)) ?_
  refine RLD.bx fun b4 w3 he4 hu23 hb => ?_
  have hb : Rd w3 b4 s 0 0 := hb
  repeat (first | refine RLD.vv ?_ | refine RLD.nil ?_ | refine SimD.seq ?_ | refine SimD.region Try.func21 ?_ | refine SimD.skip ?_ | refine SimD.condT rfl ?_ | refine SimD.condF rfl ?_)
  have hsz2 := hu.size
  have hu := hu.trans hu23
  have hl2 := h2.lt
  have hl3 := h3.lt
  have h2 := h2.up hu23
  have h3 := h3.up hu23
  have hn42 : b2 ≠ b4 := by omega
  have hn43 : b3 ≠ b4 := by omega
  have hw4 : w.heap.size ≤ b4 := by omega
  clear hu23 he2 he3 he4
  -- the type's name
  refine RLD.callP trivial rfl (c_static rfl) (name_any w3 hb (Nat.zero_le _) hs) ?_
  rcases q1 : nameM s 0 with ⟨e, j⟩ | ⟨t, i1⟩
  · rintro _ w4 ⟨hbt, rfl⟩
    exact .inr ⟨_, rfl, leaves_oops hs rfl rfl hne hw2 hw3 (Up.but hu hbt hw4) (h2.but hbt hn42) (h3.but hbt hn43) (by unfold askM; rw [q1])⟩
  rintro _ w4 ⟨hbt, rfl, hb⟩
  refine .inl ⟨_, rfl, ?_⟩
  have hu := Up.but hu hbt hw4
  have h2 := h2.but hbt hn42
  have h3 := h3.but hbt hn43
  have hi := (nameM_at q1 (Nat.zero_le _)).2.1
  repeat (first | refine RLD.vv ?_ | refine RLD.nil ?_ | refine SimD.seq ?_ | refine SimD.region Try.func21 ?_ | refine SimD.skip ?_ | refine SimD.condT rfl ?_ | refine SimD.condF rfl ?_)
  refine RLD.sb h2 fun w5 hbt h2 => ?_
  have hu := Up.but hu hbt hw2
  have h3 := h3.but hbt hne.symm
  have hb := hb.but hbt hn42.symm
  have h2 : AskB w5 b2 t ⟨#[]⟩ (.slice none 0 0) := h2
  repeat (first | refine RLD.vv ?_ | refine RLD.nil ?_ | refine SimD.seq ?_ | refine SimD.region Try.func21 ?_ | refine SimD.skip ?_ | refine SimD.condT rfl ?_ | refine SimD.condF rfl ?_)
  refine RLD.callP trivial rfl (c_static rfl) (must_any (c := 40) w5 hb hi hs) ?_
  rcases q2 : mustM s i1 40 with ⟨e, j⟩ | i2
  · rintro _ w4 ⟨hbt, rfl⟩
    exact .inr ⟨_, rfl, leaves_oops hs rfl rfl hne hw2 hw3 (Up.but hu hbt hw4) (h2.but hbt hn42) (h3.but hbt hn43) (by unfold askM; rw [q1]; simp only; rw [q2])⟩
  rintro _ w6 ⟨hbt, rfl, hb⟩
  refine .inl ⟨_, rfl, ?_⟩
  have hu := Up.but hu hbt hw4
  have h2 := h2.but hbt hn42
  have h3 := h3.but hbt hn43
  have hi := (mustM_ok q2).2
  repeat (first | refine RLD.vv ?_ | refine RLD.nil ?_ | refine SimD.seq ?_ | refine SimD.region Try.func21 ?_ | refine SimD.skip ?_ | refine SimD.condT rfl ?_ | refine SimD.condF rfl ?_)
  refine RLD.callP trivial rfl (c_static rfl) (name_any w6 hb hi hs) ?_
  rcases q3 : nameM s i2 with ⟨e, j⟩ | ⟨k, i3⟩
  · rintro _ w4 ⟨hbt, rfl⟩
    exact .inr ⟨_, rfl, leaves_oops hs rfl rfl hne hw2 hw3 (Up.but hu hbt hw4) (h2.but hbt hn42) (h3.but hbt hn43) (by unfold askM; rw [q1]; simp only; rw [q2]; simp only; rw [q3])⟩
  rintro _ w7 ⟨hbt, rfl, hb⟩
  refine .inl ⟨_, rfl, ?_⟩
  have hu := Up.but hu hbt hw4
  have h2 := h2.but hbt hn42
  have h3 := h3.but hbt hn43
  have hi := (nameM_at q3 hi).2.1
  repeat (first | refine RLD.vv ?_ | refine RLD.nil ?_ | refine SimD.seq ?_ | refine SimD.region Try.func21 ?_ | refine SimD.skip ?_ | refine SimD.condT rfl ?_ | refine SimD.condF rfl ?_)
  refine RLD.sb h2 fun w8 hbt h2 => ?_
  have hu := Up.but hu hbt hw2
  have h3 := h3.but hbt hne.symm
  have hb := hb.but hbt hn42.symm
  have h2 : AskB w8 b2 t k (.slice none 0 0) := h2
  repeat (first | refine RLD.vv ?_ | refine RLD.nil ?_ | refine SimD.seq ?_ | refine SimD.region Try.func21 ?_ | refine SimD.skip ?_ | refine SimD.condT rfl ?_ | refine SimD.condF rfl ?_)
  refine RLD.callP trivial rfl (c_static rfl) (must_any (c := 41) w8 hb hi hs) ?_
  rcases q4 : mustM s i3 41 with ⟨e, j⟩ | i4
  · rintro _ w4 ⟨hbt, rfl⟩
    exact .inr ⟨_, rfl, leaves_oops hs rfl rfl hne hw2 hw3 (Up.but hu hbt hw4) (h2.but hbt hn42) (h3.but hbt hn43) (by unfold askM; rw [q1]; simp only; rw [q2]; simp only; rw [q3]; simp only; rw [q4])⟩
  rintro _ w9 ⟨hbt, rfl, hb⟩
  refine .inl ⟨_, rfl, ?_⟩
  have hu := Up.but hu hbt hw4
  have h2 := h2.but hbt hn42
  have h3 := h3.but hbt hn43
  have hi := (mustM_ok q4).2
  have hl4 := hb.lt
  repeat (first | refine RLD.vv ?_ | refine RLD.nil ?_ | refine SimD.seq ?_ | refine SimD.region Try.func21 ?_ | refine SimD.skip ?_ | refine SimD.condT rfl ?_ | refine SimD.condF rfl ?_)
  refine RLD.callP trivial rfl (c_static rfl) (list_any 8 (Nat.le_refl _) (k := 1) w9 rfl hb hi hs (Nat.zero_le _)) ?_
  rcases q5 : listM s 8 i4 0 with ⟨e, j⟩ | ⟨l, i5, p5⟩
  · rintro _ w4 ⟨hbt, rfl⟩
    exact .inr ⟨_, rfl, leaves_oops hs rfl rfl hne hw2 hw3 (Up.but hu hbt hw4) (h2.but hbt hn42) (h3.but hbt hn43) (by unfold askM; rw [q1]; simp only; rw [q2]; simp only; rw [q3]; simp only; rw [q4]; simp only; rw [q5])⟩
  rintro _ w10 ⟨hbt, v, rfl, hb, hsl⟩
  refine .inl ⟨_, rfl, ?_⟩
  have hl2 := h2.lt
  have hl3 := h3.lt
  have hsz9 := hu.size
  have hsl := hsl.mono (S' := fun x => w.heap.size ≤ x ∧ x ≠ b2 ∧ x ≠ b3 ∧ x ≠ b4) fun x hx => ⟨by omega, by omega, by omega, by omega⟩
  have hu := Up.but hu hbt hw4
  have h2 := h2.but hbt hn42
  have h3 := h3.but hbt hn43
  obtain ⟨va, vc, rfl, _⟩ := id hsl
  have hi5 : i5 ≤ s.size := (listM_ok (s := s) 8 8 1 (Nat.le_refl _) rfl i4 0 l i5 p5 hi (Nat.zero_le _) q5).2.2.2.2.2
  repeat (first | refine RLD.vv ?_ | refine RLD.nil ?_ | refine SimD.seq ?_ | refine SimD.region Try.func21 ?_ | refine SimD.skip ?_ | refine SimD.condT rfl ?_ | refine SimD.condF rfl ?_)
  refine RLD.sb h2 fun w11 hbt h2 => ?_
  have hu := Up.but hu hbt hw2
  have h3 := h3.but hbt hne.symm
  have hb := hb.but hbt hn42.symm
  have hsl := hsl.bt hbt fun x hx => hx.2.1
  have h2 : AskB w11 b2 t k (.slice va l.length vc) := h2
  repeat (first | refine RLD.vv ?_ | refine RLD.nil ?_ | refine SimD.seq ?_ | refine SimD.region Try.func21 ?_ | refine SimD.skip ?_ | refine SimD.condT rfl ?_ | refine SimD.condF rfl ?_)
  refine RLD.callP trivial rfl (c_static rfl) ((blank_any w11 hb hi5 hs).mono (R' := fun en w' => en = .returned (.tuple #[]) ∧ But b4 w11 w' ∧ Rd w' b4 s (blankM s i5) p5) fun _ _ h => h) ?_
  rintro _ w12 ⟨rfl, hbt, hb⟩
  refine .inl ⟨_, rfl, ?_⟩
  have hu := Up.but hu hbt hw4
  have h2 := h2.but hbt hn42
  have h3 := h3.but hbt hn43
  have hsl := hsl.bt hbt fun x hx => hx.2.2.2
  have hask : askM s = if blankM s i5 < s.size then .error (2, blankM s i5) else .ok ⟨t, k, l⟩ := by
    unfold askM
    rw [q1]
    simp only
    rw [q2]
    simp only
    rw [q3]
    simp only
    rw [q4]
    simp only
    rw [q5]
  clear q1 q2 q3 q4 q5
  generalize blankM s i5 = i6 at *
  have ha := hb.at
  by_cases hlt : (i6 : Int) < (s.size : Int)
  · rw [if_pos (by omega)] at hask
    repeat (first | refine RLD.vv ?_ | refine RLD.nil ?_ | refine SimD.seq ?_ | refine SimD.region Try.func21 ?_ | refine SimD.skip ?_ | refine SimD.condT rfl ?_ | refine SimD.condF rfl ?_)
    refine RLD.callP trivial rfl (c_static rfl) (fail_any 2 w12 hb) ?_
    rintro _ _ ⟨rfl, rfl⟩
    exact .inr ⟨_, rfl, leaves_oops hs rfl rfl hne hw2 hw3 hu h2 h3 hask⟩
  rw [if_neg (by omega)] at hask
  repeat (first | refine RLD.vv ?_ | refine RLD.nil ?_ | refine SimD.seq ?_ | refine SimD.region Try.func21 ?_ | refine SimD.skip ?_ | refine SimD.condT rfl ?_ | refine SimD.condF rfl ?_)
  refine SimD.ord (fun wq => AskB wq b2 t k (.slice va l.length vc) ∧ FltB wq b3 0 0) Try.func21 ?_ mixed
  have hS : AskB w12.drew b2 t k (.slice va l.length vc) ∧ FltB w12.drew b3 0 0 := ⟨h2.up (Up.drew _), h3.up (Up.drew _)⟩
  refine ROD.take (i := 0) (v := .agg #[.string t, .string k, .slice va l.length vc]) rfl (by kernel_rfl) (by kernel_rfl) (by kernel_rfl) hS trivial rfl (fun wq hq => y_loadA rfl (Box.at hq.1) rfl) ?_
  refine ROD.take (i := 1) (v := .agg #[.int .i64 0, .int .i64 0]) rfl (by kernel_rfl) (by kernel_rfl) (by kernel_rfl) hS trivial rfl (fun wq hq => y_loadA rfl (Box.at hq.2) rfl) ?_
  refine ROD.sb 2 hS.1 fun w13 hbt h2 => ?_
  have h3 := hS.2.but hbt hne.symm
  have hu := Up.but (hu.trans (Up.drew w12)) hbt hw2
  have hsl := (hsl.up (Up.drew w12)).bt hbt fun x hx => hx.2.1
  have h2 : AskB w13 b2 t k (.slice va l.length vc) := h2
  refine ⟨⟨h2, h3⟩, ?_⟩
  refine ROD.sb 3 h3 fun w14 hbt h3 => ?_
  have h2 := h2.but hbt hne
  have h3 : FltB w14 b3 0 0 := h3
  have hsl := hsl.bt hbt fun x hx => hx.2.2.1
  refine ⟨⟨h2, h3⟩, ROD.end ?_⟩
  have hu := Up.but hu hbt hw3
  repeat (first | refine RLD.vv ?_ | refine RLD.nil ?_ | refine SimD.seq ?_ | refine SimD.region Try.func21 ?_ | refine SimD.skip ?_ | refine SimD.condT rfl ?_ | refine SimD.condF rfl ?_)
  refine SimD.ret Try.func21 fun tm hok => ?_
  refine leaves_cons (f := 49) (args := #[.pointer (some ⟨b2, 0, none⟩), .pointer (some ⟨b3, 0, none⟩)]) (by simp) (by simp [go_sem]) ((uncaught w14).mono ?_)
  rintro en u' w'' ⟨rfl, rfl, rfl⟩
  refine leaves_retCC rfl rfl h2.at rfl rfl h3.at rfl ?_ tm hok
  have hpm : parseM s = (⟨t, k, l⟩, 0, 0) := by
    unfold parseM
    rw [if_neg (by omega), hask]
  refine ⟨.slice va l.length vc, ?_, hu, ?_⟩
  · rw [hpm]
  · rw [hpm]
    exact hsl.mono fun x hx => hx.1
/-- a text, read -/
theorem Parse_any (s : Str) (w : World) : Calls Try.prog 21 #[.string s] w fun en w' => ∃ v, en = .returned (.tuple #[.agg #[.string (parseM s).1.type, .string (parseM s).1.key, v], .agg #[.int .i64 (parseM s).2.1, .int .i64 (parseM s).2.2]]) ∧ Up w w' ∧ SliceOf (pckLay 8) (fun k => w.heap.size ≤ k) w' v (parseM s).1.picks :=
  Parse_walk s w
end Go.Proofs.Ytgckpmcdlciibab
