/- Contracts of chapter 2: the types that are seen. -/
import Derived.Test.YtgckpmcdlciibaaC35
namespace Go.Proofs.Ytgckpmcdlciibaa
open Go.RowKit
set_option maxHeartbeats 1000000 in
theorem Types_any {S : Nat → Prop} {v : Value} {sns : List Sn} (w : World) (hl : SliceOf snLay S w v sns) (hn : sns.length ≤ 1000000) :
    Calls Try.prog 38 #[v] w fun en w' => ∃ v', en = .returned v' ∧ Up w w' ∧ SliceOf typLay (fun _ => True) w' v' (sns.map (·.type)) := by
  refine calls_of_sim Try.func38 rfl (Nat.le_of_ble_eq_true rfl) ?_
  obtain ⟨a, c, rfl, hnc, hcm, _⟩ := id hl
  unfold maxLen at hcm
  repeat (first | refine RL.vv ?_ | refine RL.p ?_ | refine RL.nil ?_ | refine Sim.seq ?_ | refine Sim.region ?_ | refine Sim.block ?_ | refine Sim.skip ?_ | refine Sim.inBlock ?_ | refine Sim.exit rfl ?_ | refine Sim.condT rfl ?_ | refine Sim.condF rfl ?_)
  refine Sim.loop (σ := Nat × Value) (fun st => [(6, .slice a sns.length c), (7, .int .i64 (sns.length : Int)), (8, .int .i64 (st.1 : Int)), (3, st.2)])
    (fun st w' => st.1 ≤ sns.length ∧ Up w w' ∧ Own typLay 55 w.heap.size (fun b => b < w.heap.size ∨ w.heap.size ≤ b) w' st.2 ((sns.take st.1).map (·.type))) (fun st => sns.length - st.1) (0, .slice none 0 0) sb ⟨Nat.zero_le _, .refl _, Own.nil _ _ _ _ _⟩ ?_
  rintro ⟨i, v⟩ w1 ⟨hi, hu, ho⟩ next
  simp only at hi ho next ⊢
  by_cases hlt : i < sns.length
  · have hx : sns[i]? = some sns[i] := List.getElem?_eq_getElem hlt
    obtain ⟨b, o, cs, rfl, _, hat, ⟨fv, nv, rfl, hfv, hnv⟩, _⟩ := hl.at hx
    have hat : At w b (o + i * 4) _ := hat
    have htk : (sns.take (i + 1)).map (·.type) = (sns.take i).map (·.type) ++ [sns[i].type] := by rw [List.take_succ_eq_append_getElem hlt, List.map_append]; rfl
    generalize sns[i] = s at *
    obtain ⟨fa, fc, rfl, _⟩ := id hfv
    obtain ⟨na, nc, rfl, _⟩ := id hnv
    clear hnv
    obtain ⟨⟨tn, tf⟩, own, fls⟩ := s
    simp only at hfv hat htk ⊢
    repeat (first | refine RL.vv ?_ | refine RL.p ?_ | refine RL.nil ?_ | refine Sim.seq ?_ | refine Sim.region ?_ | refine Sim.block ?_ | refine Sim.skip ?_ | refine Sim.inBlock ?_ | refine Sim.exit rfl ?_ | refine Sim.condT rfl ?_ | refine Sim.condF rfl ?_)
    refine RL.al (.refl w1) fun b5 w2 _ hle5 h12 _ hb5 => ?_
    repeat (first | refine RL.vv ?_ | refine RL.p ?_ | refine RL.nil ?_ | refine Sim.seq ?_ | refine Sim.region ?_ | refine Sim.block ?_ | refine Sim.skip ?_ | refine Sim.inBlock ?_ | refine Sim.exit rfl ?_ | refine Sim.condT rfl ?_ | refine Sim.condF rfl ?_)
    refine RL.st h12 hb5 hle5 fun w3 h13 _ hb5 => ?_
    have hb5 : Box w3 b5 _ [.string tn, .slice fa tf.length fc, .string own, .slice na fls.length nc] := hb5
    have hu := hu.trans h13
    have ho := ho.up h13
    have hs3 := hu.size
    have ha5 := hb5.at
    clear h12 h13
    repeat (first | refine RL.vv ?_ | refine RL.p ?_ | refine RL.nil ?_ | refine Sim.seq ?_ | refine Sim.region ?_ | refine Sim.block ?_ | refine Sim.skip ?_ | refine Sim.inBlock ?_ | refine Sim.exit rfl ?_ | refine Sim.condT rfl ?_ | refine Sim.condF rfl ?_)
    refine RL.vv ?_ (hy := y_loadA (cs := [.string tn, .slice fa tf.length fc]) rfl (fun j u hj => hb5.at j u (by match j, hj with | 0, hj => exact hj | 1, hj => exact hj)) rfl)
    refine RL.bu (el := 55) [.string tn, .slice fa tf.length fc] (.refl w3) fun b6 w4 he6 _ _ h34 hb6 => ?_
    have hs4 := h34.size
    refine RL.app (L := typLay) (el := 55) (S := fun b => b < w.heap.size ∨ w.heap.size ≤ b) (B := w.heap.size) (ys := [⟨tn, tf⟩]) (hu.trans h34) ((ho.up h34).shift (fun _ _ _ _ => by omega)) (SliceOf.one hb6 ⟨by omega, ho.ne (Nat.le_of_eq he6.symm)⟩ ⟨_, rfl, (hfv.old.up (hu.trans h34)).mono fun k hk => ⟨.inl hk.2, ho.ne' hk.2⟩⟩) (by simp; omega) (Nat.le_refl _) (by omega) fun v2 w5 hu5 ho2 hg hv => ?_
    repeat (first | refine RL.vv ?_ | refine RL.p ?_ | refine RL.nil ?_ | refine Sim.seq ?_ | refine Sim.region ?_ | refine Sim.block ?_ | refine Sim.skip ?_ | refine Sim.inBlock ?_ | refine Sim.exit rfl ?_ | refine Sim.condT rfl ?_ | refine Sim.condF rfl ?_)
    refine next (i + 1, v2) _ _ ⟨by simp only; omega, hu5, ?_⟩ (by simp only; omega) sb
    rw [htk]
    exact ho2
  · have hii : i = sns.length := by omega
    subst hii
    rw [List.take_length] at ho
    repeat (first | refine RL.vv ?_ | refine RL.p ?_ | refine RL.nil ?_ | refine Sim.seq ?_ | refine Sim.region ?_ | refine Sim.block ?_ | refine Sim.skip ?_ | refine Sim.inBlock ?_ | refine Sim.exit rfl ?_ | refine Sim.condT rfl ?_ | refine Sim.condF rfl ?_)
    exact Sim.ret1 Try.func38 rfl rfl ⟨_, rfl, hu, ho.sl (fun _ _ _ _ => trivial) (fun _ _ => trivial)⟩
end Go.Proofs.Ytgckpmcdlciibaa
