/- What the functions that FnPositions reaches answer. -/
import Derived.Test.YtjjoopbebildfaaDoorFnsFnPositionsp1
import Derived.Test.YtjjoopbebildfaaDoorEngX
import Derived.Test.YtjjoopbebildfaaDoorChecked
set_option linter.unusedVariables false
set_option linter.unusedSimpArgs false
namespace Go.Eng
open Go Go.RowKit Go.Proofs
set_option maxHeartbeats 1000000 in
set_option maxRecDepth 10000 in
theorem c_spec_l13Places (rs : Rels) (l : Atoms) (v : Int) (hrs : rs.length ≤ 4611686018427387904) (hl : szS (fun (x : Int × (List (Int))) => (x.2).length) l ≤ 1048576) : Pu Tryd.prog 36 [.c (.t none (.sl 3 (enS3 encS encI encB) (rs))), .c (.t none (.sl 2 (enS2 encI (enSl 1 encI)) (l))), .c (.t none (.v (.int .i64 (v))))] [(0, some (.row none 3 true 1 encI (placesL rs l v)))] 1 (.c (.own 0)) := by
  refine pu_enter Tryd.func36 rfl (Nat.le_of_ble_eq_true rfl) fun w S => ?_
  have gl := sz_len (f := (fun (x : Int × (List (Int))) => (x.2).length)) (l := l)
  refine t_seq ?_
  refine t_region ?_
  refine r_op (o_assign rfl rfl) ?_
  refine r_end ?_
  refine t_seq ?_
  refine t_region ?_
  refine r_op (o_lit0 0 (e := 3) (sz := 1) (zs := [.int .i64 (0)]) encI rfl rfl (by kernel_rfl) rfl) ?_
  refine r_op (o_assign rfl rfl) ?_
  refine r_end ?_
  refine t_seq ?_
  refine t_seq ?_
  refine t_region ?_
  refine r_op (o_assign rfl rfl) ?_
  refine r_end ?_
  refine t_block ?_
  refine t_loopL (fun m => ⟨[(0, some (.c (.t none (.sl 3 (enS3 encS encI encB) (rs))))), (1, some (.c (.t none (.sl 2 (enS2 encI (enSl 1 encI)) (l))))), (2, some (.c (.t none (.v (.int .i64 (v)))))), (6, some (.c (.t none (.v (.slice none 0 0))))), (7, some (.c (.own 0))), (8, some (.c (.t none (.v (.int .i64 ((m : Int)))))))], [(0, some (.row none 3 true 1 encI ((l.take m).flatMap (plc1 rs v))))], 1⟩ : Nat → St) (fun m => m ≤ l.length) (fun m => l.length - m) 0 ⟨⟨rfl, ⟨rfl, ⟨rfl, ⟨rfl, ⟨rfl, ⟨rfl, trivial⟩⟩⟩⟩⟩⟩, ⟨rfl, trivial⟩, rfl⟩ (by exact Nat.zero_le _) ?_
  rintro m hI ih0
  try dsimp only at hI ih0
  have i1 := hI
  refine t_seq ?_
  refine t_seq ?_
  refine t_region ?_
  refine r_op (o_move rfl rfl) ?_
  refine r_op (o_move rfl rfl) ?_
  refine r_op (o_len rfl rfl rfl) ?_
  refine r_op (o_bin rfl rfl rfl rfl) ?_
  refine r_end ?_
  refine t_cond rfl (fun h1 => ?_) (fun h1 => ?_)
  ·
    have h1' := of_decide_eq_true h1
    refine t_skip ?_
    refine t_seq ?_
    refine t_block ?_
    refine t_seq ?_
    refine t_region ?_
    refine r_op (o_assign rfl rfl) ?_
    refine r_end ?_
    refine t_block ?_
    refine t_loopL (fun n => ⟨[(0, some (.c (.t none (.sl 3 (enS3 encS encI encB) (rs))))), (1, some (.c (.t none (.sl 2 (enS2 encI (enSl 1 encI)) (l))))), (2, some (.c (.t none (.v (.int .i64 (v)))))), (6, some (.c (.t none (.v (.slice none 0 0))))), (7, some (.c (.own 0))), (8, some (.c (.t none (.v (.int .i64 ((m : Int))))))), (9, some (.c (.t none (.v (.int .i64 ((n : Int)))))))], [(0, some (.row none 3 true 1 encI ((l.take m).flatMap (plc1 rs v) ++ plcA rs (l.getD m (0, [])).1 v 0 ((l.getD m (0, [])).2.take n))))], 1⟩ : Nat → St) (fun n => n ≤ (l.getD m (0, [])).2.length) (fun n => (l.getD m (0, [])).2.length - n) 0 ⟨⟨rfl, ⟨rfl, ⟨rfl, ⟨rfl, ⟨rfl, ⟨rfl, ⟨rfl, trivial⟩⟩⟩⟩⟩⟩⟩, ⟨(eqR (by rw [List.take_zero]; simp [plcA])), trivial⟩, rfl⟩ (by exact Nat.zero_le _) ?_
    rintro n hI ih1
    try dsimp only at hI ih1
    have j1 := hI; have hzv := getA_get (l := l) (m := m) (by omega); have pr := plc_room (rs := rs) (v := v) (m := m) (n := n) hzv; (have e1 := sz_at (f := (fun (x : Int × (List (Int))) => (x.2).length)) (l := l) (m := m) hzv; (try dsimp only at e1))
    refine t_seq ?_
    refine t_seq ?_
    refine t_region ?_
    refine r_op (o_move rfl rfl) ?_
    refine r_op (o_move rfl rfl) ?_
    refine r_op (o_move rfl rfl) ?_
    obtain ⟨z2, hz3, b4⟩ := at_get (xs := l) (n := (m : Int)) (by first | omega | assumption | (simp only [List.length_append]; omega) | (have e1 := sz_at (f := (fun (x : Int × (List (Int))) => (x.2).length)) (l := l) (m := m) (by assumption); (try dsimp only at e1); omega)) (by first | omega | assumption | (simp only [List.length_append]; omega) | (have e1 := sz_at (f := (fun (x : Int × (List (Int))) => (x.2).length)) (l := l) (m := m) (by assumption); (try dsimp only at e1); omega))
    refine r_op (o_index rfl (by kernel_rfl) rfl rfl b4 hz3) ?_
    refine r_op (o_field rfl (off := 1) (by kernel_rfl) rfl) ?_
    refine r_op (o_load1 rfl (by kernel_rfl) rfl rfl) ?_
    refine r_op (o_len rfl rfl rfl) ?_
    refine r_op (o_bin rfl rfl rfl rfl) ?_
    refine r_end ?_
    refine t_cond rfl (fun h5 => ?_) (fun h5 => ?_)
    ·
      have h5' := of_decide_eq_true h5
      refine t_skip ?_
      refine t_seq ?_
      refine t_block ?_
      refine t_seq ?_
      refine t_region ?_
      refine r_op (o_move rfl rfl) ?_
      refine r_op (o_move rfl rfl) ?_
      refine r_op (o_index rfl (by kernel_rfl) rfl rfl b4 hz3) ?_
      refine r_op (o_field rfl (off := 1) (by kernel_rfl) rfl) ?_
      refine r_op (o_load1 rfl (by kernel_rfl) rfl rfl) ?_
      refine r_op (o_move rfl rfl) ?_
      obtain ⟨z6, hz7, b8⟩ := at_get (xs := z2.2) (n := (n : Int)) (by first | omega | assumption | (simp only [List.length_append]; omega) | (have e1 := sz_at (f := (fun (x : Int × (List (Int))) => (x.2).length)) (l := l) (m := m) (by assumption); (try dsimp only at e1); omega)) (by first | omega | assumption | (simp only [List.length_append]; omega) | (have e1 := sz_at (f := (fun (x : Int × (List (Int))) => (x.2).length)) (l := l) (m := m) (by assumption); (try dsimp only at e1); omega))
      refine r_op (o_index rfl (by kernel_rfl) rfl rfl b8 hz7) ?_
      refine r_op (o_load1 rfl (by kernel_rfl) rfl rfl) ?_
      refine r_op (o_move rfl rfl) ?_
      refine r_op (o_bin rfl rfl rfl rfl) ?_
      refine r_end ?_
      refine t_cond rfl (fun h9 => ?_) (fun h9 => ?_)
      ·
        have h9' := of_decide_eq_true h9
        refine t_region ?_
        refine r_op (o_move rfl rfl) ?_
        refine r_op (o_move rfl rfl) ?_
        refine r_op (o_move rfl rfl) ?_
        refine r_op (o_move rfl rfl) ?_
        refine r_op (o_index rfl (by kernel_rfl) rfl rfl b4 hz3) ?_
        refine r_op (o_field rfl (off := 0) (by kernel_rfl) rfl) ?_
        refine r_op (o_load1 rfl (by kernel_rfl) rfl rfl) ?_
        refine r_op (o_move rfl rfl) ?_
        refine r_op (o_call 1 1 false (Go.Proofs.enters_of Tryd.func9 (by kernel_rfl) rfl) (c_spec_PositionIndex (rs) (z2.1) ((n : Int)) (by first | omega | assumption | (simp only [List.length_append]; omega) | (have e1 := sz_at (f := (fun (x : Int × (List (Int))) => (x.2).length)) (l := l) (m := m) (by assumption); (try dsimp only at e1); omega))) rfl (.cons rfl (.c .t0) (.cons rfl (.c .t0) (.cons rfl (.c .t0) .nil))) rfl rfl rfl) ?_
        refine r_op (o_litS 1 (e := 3) (sz := 1) (zs := [.int .i64 (0)]) rfl rfl (by kernel_rfl) rfl rfl rfl rfl rfl) ?_
        refine r_op (o_append 0 (e := 3) (sz := 1) (by' := 8) (posIx (rs) (z2.1) ((n : Int))) rfl (by kernel_rfl) rfl rfl rfl rfl rfl rfl (.cons .sc .nil) rfl (by first | omega | assumption | (simp only [List.length_append]; omega) | (have e1 := sz_at (f := (fun (x : Int × (List (Int))) => (x.2).length)) (l := l) (m := m) (by assumption); (try dsimp only at e1); omega)) (by first | omega | assumption | (simp only [List.length_append]; omega) | (have e1 := sz_at (f := (fun (x : Int × (List (Int))) => (x.2).length)) (l := l) (m := m) (by assumption); (try dsimp only at e1); omega))) ?_
        refine r_op (o_assign rfl rfl) ?_
        refine r_end ?_
        refine t_endblock ?_
        refine t_region ?_
        refine r_op (o_move rfl rfl) ?_
        refine r_op (o_bin rfl rfl rfl rfl) ?_
        refine r_op (o_assign rfl rfl) ?_
        refine r_end ?_
        have gd3 := Option.some.inj (hzv.symm.trans hz3); have gd4 := congrArg (fun q => q.2.length) gd3; (try dsimp only at gd4)
        refine t_le ?_ (ih1 (n + 1) (by (try dsimp only); omega) (by (try dsimp only); omega))
        exact ⟨⟨rfl, ⟨rfl, ⟨rfl, ⟨rfl, ⟨rfl, ⟨rfl, ⟨(eqI (wr64 (by omega) (by omega))), trivial⟩⟩⟩⟩⟩⟩⟩, ⟨(eqR (by rw [gd3]; first | (rw [List.append_assoc]; exact congrArg _ (plc_hit hz7 (by assumption))) | exact congrArg _ (plc_miss hz7 (by assumption)))), trivial⟩, rfl⟩
      ·
        have h9' := of_decide_eq_false h9
        refine t_skip ?_
        refine t_endblock ?_
        refine t_region ?_
        refine r_op (o_move rfl rfl) ?_
        refine r_op (o_bin rfl rfl rfl rfl) ?_
        refine r_op (o_assign rfl rfl) ?_
        refine r_end ?_
        have gd3 := Option.some.inj (hzv.symm.trans hz3); have gd4 := congrArg (fun q => q.2.length) gd3; (try dsimp only at gd4)
        refine t_le ?_ (ih1 (n + 1) (by (try dsimp only); omega) (by (try dsimp only); omega))
        exact ⟨⟨rfl, ⟨rfl, ⟨rfl, ⟨rfl, ⟨rfl, ⟨rfl, ⟨(eqI (wr64 (by omega) (by omega))), trivial⟩⟩⟩⟩⟩⟩⟩, ⟨(eqR (by rw [gd3]; first | (rw [List.append_assoc]; exact congrArg _ (plc_hit hz7 (by assumption))) | exact congrArg _ (plc_miss hz7 (by assumption)))), trivial⟩, rfl⟩
    ·
      have h5' := of_decide_eq_false h5
      refine t_exit rfl ?_
      refine t_endblock ?_
      refine t_region ?_
      refine r_op (o_move rfl rfl) ?_
      refine r_op (o_bin rfl rfl rfl rfl) ?_
      refine r_op (o_assign rfl rfl) ?_
      refine r_end ?_
      have gd3 := Option.some.inj (hzv.symm.trans hz3)
      refine t_le ?_ (ih0 (m + 1) (by (try dsimp only); omega) (by (try dsimp only); omega))
      exact ⟨⟨rfl, ⟨rfl, ⟨rfl, ⟨rfl, ⟨rfl, ⟨(eqI (wr64 (by omega) (by omega))), trivial⟩⟩⟩⟩⟩⟩, ⟨(eqR (plc_next hzv (by rw [gd3]; omega))), trivial⟩, rfl⟩
  ·
    have h1' := of_decide_eq_false h1
    refine t_exit rfl ?_
    refine t_seq ?_
    refine t_region ?_
    refine r_op (o_move rfl rfl) ?_
    refine r_op (o_assign rfl rfl) ?_
    refine r_end ?_
    refine t_ret Tryd.func36 (.tmp rfl .nil) rfl fun E S w u hI hd => ?_
    refine post_mk hI hd ?_ ⟨eqR ?_, trivial⟩ rfl rfl rfl <;> clear hI hd <;> (try clear ih0) <;> (try clear ih1)
    all_goals first | rfl | ((obtain rfl : m = l.length := by omega); rw [List.take_length]; rfl)
theorem eq_c_spec_l13Put_eql_38 (p0 : Int) (p1 : Int) (p2 : Bool) (q0 : Int) (q1 : Int) (q2 : Bool) : EqS Tryd.prog .eql 38 [.int .i64 p0, .int .i64 p1, .bool p2] [.int .i64 q0, .int .i64 q1, .bool q2] (.bool (decide ((p0, p1, p2) = (q0, q1, q2)))) := by
  refine ⟨rfl, fun x y w => ?_⟩
  have hS : Tryd.prog.underlying 38 = some (.struct (Tryd.prog.fieldsOf 38)) := by kernel_rfl
  have hp : Tryd.prog.stoodInHeld 38 = false := by kernel_rfl
  have u3 := Tryd.underlying3; have a3 := Tryd.isAgg3; have z3 := Tryd.sizeOf3; have u4 := Tryd.underlying4; have a4 := Tryd.isAgg4; have z4 := Tryd.sizeOf4
  rw [Sem.run_bind, run_eqGuard_agg w _ _ _ _ _ _ (by kernel_rfl), Result.andThen_ok, run_eql_struct, show (10000 : Nat) = 9999 + 1 from rfl, run_equalIn_agg w 9999 38 _ _ hS hp]
  simp only [Program.fieldsOf, Tryd.underlying38]
  go_simp
  by_cases h0 : p0 = q0 <;> by_cases h1 : p1 = q1 <;> by_cases h2 : p2 = q2 <;> simp [h0, h1, h2, mkS_toList]
set_option maxHeartbeats 1000000 in
set_option maxRecDepth 10000 in
theorem c_spec_l13Put (U : Nat → Value) (l : List Edg) (a b : Int) (s : Bool) (hl : l.length ≤ 1048576) : Mu Tryd.prog 37 [.c (.own 0), .agg [.t none (.v (.int .i64 (a))), .t none (.v (.int .i64 (b))), .t none (.v (.bool (s)))]] [(0, some (.row (some (U 0)) 38 true 3 (enS3 encI encI encB) (l)))] 1 [(0, some (.row none 38 true 3 (enS3 encI encI encB) (putE l (a, b, s))))] 1 (.c (.own 0)) := by
  refine mu_enter Tryd.func37 rfl (Nat.le_of_ble_eq_true rfl) fun w S M => ?_
  refine t_seq ?_
  refine t_region ?_
  refine r_op (o_box 1 rfl rfl rfl rfl) ?_
  refine r_op (o_assign rfl rfl) ?_
  refine r_end ?_
  refine t_seq ?_
  refine t_seq ?_
  refine t_region ?_
  refine r_op (o_assign rfl rfl) ?_
  refine r_end ?_
  refine t_block ?_
  refine t_loopL (fun m => ⟨[(0, some (.c (.own 0))), (3, some (.c (.ptr 1 0))), (5, some (.c (.t none (.v (.int .i64 ((m : Int)))))))], [(0, some (.row (some (U 0)) 38 true 3 (enS3 encI encI encB) (l))), (1, some (.box [.t none (.v (.int .i64 (a))), .t none (.v (.int .i64 (b))), .t none (.v (.bool (s)))]))], 2⟩ : Nat → St) (fun m => m ≤ l.length ∧ ∀ j z, j < m → l[j]? = some z → (fun y => decide (y = (a, b, s))) z = false) (fun m => l.length - m) 0 ⟨⟨rfl, ⟨rfl, ⟨rfl, trivial⟩⟩⟩, ⟨rfl, ⟨rfl, trivial⟩⟩, rfl⟩ (by exact ⟨Nat.zero_le _, fun j z h => by omega⟩) ?_
  rintro m hI ih0
  try dsimp only at hI ih0
  obtain ⟨i1, i2⟩ := hI
  refine t_seq ?_
  refine t_seq ?_
  refine t_region ?_
  refine r_op (o_move rfl rfl) ?_
  refine r_op (o_move rfl rfl) ?_
  refine r_op (o_leno rfl rfl rfl rfl) ?_
  refine r_op (o_bin rfl rfl rfl rfl) ?_
  refine r_end ?_
  refine t_cond rfl (fun h1 => ?_) (fun h1 => ?_)
  ·
    have h1' := of_decide_eq_true h1
    refine t_skip ?_
    refine t_seq ?_
    refine t_block ?_
    refine t_seq ?_
    refine t_draw (fun _ => true) (by kernel_rfl) ?_
    refine d_take 0 rfl rfl (by kernel_rfl) (by kernel_rfl) (by kernel_rfl) (p_move rfl) ?_
    refine d_take 1 rfl rfl (by kernel_rfl) (by kernel_rfl) (by kernel_rfl) (p_move rfl) ?_
    obtain ⟨z2, hz3, b4⟩ := at_get (xs := l) (n := (m : Int)) (by first | omega | (simp; omega)) (by first | omega | (simp; omega))
    refine d_take 2 rfl rfl (by kernel_rfl) (by kernel_rfl) (by kernel_rfl) (p_indexo (by kernel_rfl) rfl rfl rfl b4 (at_lt b4 hz3)) ?_
    refine d_take 3 rfl rfl (by kernel_rfl) (by kernel_rfl) (by kernel_rfl) (p_loadAo (by kernel_rfl) (by kernel_rfl) rfl rfl hz3) ?_
    refine d_take 4 rfl rfl (by kernel_rfl) (by kernel_rfl) (by kernel_rfl) (p_loadAb (n := 3) (by kernel_rfl) (by kernel_rfl) rfl rfl rfl) ?_
    refine d_take 5 rfl rfl (by kernel_rfl) (by kernel_rfl) (by kernel_rfl) (p_eqA rfl rfl (eq_c_spec_l13Put_eql_38 _ _ _ _ _ _)) ?_
    refine d_end (by kernel_rfl) ?_
    refine t_cond rfl (fun h5 => ?_) (fun h5 => ?_)
    ·
      have h5' := of_decide_eq_true h5
      refine t_seq ?_
      refine t_region ?_
      refine r_op (o_move rfl rfl) ?_
      refine r_op (o_assign rfl rfl) ?_
      refine r_end ?_
      refine gt_unpin 0 rfl ?_
      refine t_ret Tryd.func37 (.tmp rfl .nil) rfl fun E S w u hI hd => ?_
      refine postM_mk hI hd ?_ ⟨eqR ?_, trivial⟩ rfl rfl <;> clear hI hd <;> (try clear ih0)
      all_goals first | rfl | (first | exact putE_there hz3 (by assumption) | exact putE_new i2 (by omega))
    ·
      have h5' := of_decide_eq_false h5
      refine t_skip ?_
      refine t_endblock ?_
      refine t_region ?_
      refine r_op (o_move rfl rfl) ?_
      refine r_op (o_bin rfl rfl rfl rfl) ?_
      refine r_op (o_assign rfl rfl) ?_
      refine r_end ?_
      refine t_le ?_ (ih0 (m + 1) (by (try dsimp only); omega) (by (try dsimp only); exact ⟨by omega, no_step i2 hz3 rfl (decide_eq_false (by assumption))⟩))
      exact ⟨⟨rfl, ⟨rfl, ⟨(eqI (wr64 (by omega) (by omega))), trivial⟩⟩⟩, ⟨rfl, ⟨rfl, trivial⟩⟩, rfl⟩
  ·
    have h1' := of_decide_eq_false h1
    refine t_exit rfl ?_
    refine t_seq ?_
    refine t_region ?_
    refine r_op (o_move rfl rfl) ?_
    refine r_op (o_loadAb rfl (n := 3) (by kernel_rfl) (by kernel_rfl) rfl rfl rfl) ?_
    refine r_op (o_litS 2 (e := 38) (sz := 3) (zs := [.int .i64 (0), .int .i64 (0), .bool (false)]) rfl rfl (by kernel_rfl) rfl rfl rfl rfl rfl) ?_
    refine r_op (o_append 0 (e := 38) (sz := 3) (by' := 24) ((a, b, s)) rfl (by kernel_rfl) rfl rfl rfl rfl rfl rfl (.cons .sc (.cons .sc (.cons .sc .nil))) rfl (by first | omega | (simp; omega)) (by first | omega | (simp; omega))) ?_
    refine r_op (o_assign rfl rfl) ?_
    refine r_end ?_
    refine t_ret Tryd.func37 (.tmp rfl .nil) rfl fun E S w u hI hd => ?_
    refine postM_mk hI hd ?_ ⟨eqR ?_, trivial⟩ rfl rfl <;> clear hI hd <;> (try clear ih0)
    all_goals first | rfl | (first | exact putE_there (by assumption) (by assumption) | exact putE_new i2 (by omega))
set_option maxHeartbeats 1000000 in
set_option maxRecDepth 10000 in
theorem c_spec_PositionGraph (rs : Rels) (ds : List Dep) (hrs : rs.length ≤ 4611686018427387904) (hds : szS (fun (x : (List (Int × (List (Int)))) × (List (Int × (List (Int)))) × Bool × Int × Int) => (szS (fun (x : Int × (List (Int))) => (x.2).length) (x.1)) + (szS (fun (x : Int × (List (Int))) => (x.2).length) (x.2.1))) ds ≤ 1048576) : Pu Tryd.prog 21 [.c (.t none (.sl 3 (enS3 encS encI encB) (rs))), .c (.t none (.sl 5 (enS5 (enSl 2 (enS2 encI (enSl 1 encI))) (enSl 2 (enS2 encI (enSl 1 encI))) encB encI encI) (ds)))] [(0, some (.row none 38 true 3 (enS3 encI encI encB) (graphL rs ds)))] 1 (.c (.own 0)) := by
  refine pu_enter Tryd.func21 rfl (Nat.le_of_ble_eq_true rfl) fun w S => ?_
  have gl := sz_len (f := (fun (x : (List (Int × (List (Int)))) × (List (Int × (List (Int)))) × Bool × Int × Int) => (szS (fun (x : Int × (List (Int))) => (x.2).length) (x.1)) + (szS (fun (x : Int × (List (Int))) => (x.2).length) (x.2.1)))) (l := ds)
  refine t_seq ?_
  refine t_region ?_
  refine r_op (o_assign rfl rfl) ?_
  refine r_end ?_
  refine t_seq ?_
  refine t_region ?_
  refine r_op (o_lit0 0 (e := 38) (sz := 3) (zs := [.int .i64 (0), .int .i64 (0), .bool (false)]) (enS3 encI encI encB) rfl rfl (by kernel_rfl) rfl) ?_
  refine r_op (o_assign rfl rfl) ?_
  refine r_end ?_
  refine t_seq ?_
  refine t_seq ?_
  refine t_region ?_
  refine r_op (o_assign rfl rfl) ?_
  refine r_end ?_
  refine t_block ?_
  refine t_loopL (fun m => ⟨[(0, some (.c (.t none (.sl 3 (enS3 encS encI encB) (rs))))), (1, some (.c (.t none (.sl 5 (enS5 (enSl 2 (enS2 encI (enSl 1 encI))) (enSl 2 (enS2 encI (enSl 1 encI))) encB encI encI) (ds))))), (4, some (.c (.t none (.v (.slice none 0 0))))), (5, some (.c (.own 0))), (6, some (.c (.t none (.v (.int .i64 ((m : Int)))))))], [(0, some (.row none 38 true 3 (enS3 encI encI encB) (putAll ((ds.take m).flatMap (edgesD rs)))))], 1⟩ : Nat → St) (fun m => m ≤ ds.length ∧ (depsOk rs ds = true ∨ m = 0)) (fun m => ds.length - m) 0 ⟨⟨rfl, ⟨rfl, ⟨rfl, ⟨rfl, ⟨rfl, trivial⟩⟩⟩⟩⟩, ⟨(eqR rfl), trivial⟩, rfl⟩ (by exact ⟨Nat.zero_le _, .inr rfl⟩) ?_
  rintro m hI ih0
  try dsimp only at hI ih0
  obtain ⟨i1, i2⟩ := hI; have l0 := fm_len (g := edgesD rs) (l := ds) (m := m)
  refine t_seq ?_
  refine t_seq ?_
  refine t_region ?_
  refine r_op (o_move rfl rfl) ?_
  refine r_op (o_move rfl rfl) ?_
  refine r_op (o_len rfl rfl rfl) ?_
  refine r_op (o_bin rfl rfl rfl rfl) ?_
  refine r_op (o_move rfl rfl) ?_
  refine r_guard rfl rfl rfl (fun g1 => ?_) (fun g1 => ?_)
  ·
    have g1' := of_decide_eq_true g1
    refine r_op (o_move rfl rfl) ?_
    refine r_guard rfl rfl rfl (fun _ => ?_) (nc g1)
    refine r_op (o_move rfl rfl) ?_
    refine r_guard rfl rfl rfl (fun _ => ?_) (nc g1)
    refine r_op (o_call 1 1 false (Go.Proofs.enters_of Tryd.func33 (by kernel_rfl) rfl) (c_spec_AreValidDependencies (rs) (ds) (by first | omega | assumption | (have e1 := sz_at (f := (fun (x : (List (Int × (List (Int)))) × (List (Int × (List (Int)))) × Bool × Int × Int) => (szS (fun (x : Int × (List (Int))) => (x.2).length) (x.1)) + (szS (fun (x : Int × (List (Int))) => (x.2).length) (x.2.1)))) (l := ds) (m := m) (by assumption); (try dsimp only at e1); omega)) (by first | omega | assumption | (have e1 := sz_at (f := (fun (x : (List (Int × (List (Int)))) × (List (Int × (List (Int)))) × Bool × Int × Int) => (szS (fun (x : Int × (List (Int))) => (x.2).length) (x.1)) + (szS (fun (x : Int × (List (Int))) => (x.2).length) (x.2.1)))) (l := ds) (m := m) (by assumption); (try dsimp only at e1); omega))) rfl (.cons rfl (.c .t0) (.cons rfl (.c .t0) .nil)) rfl rfl rfl) ?_
    refine r_op (o_pickT rfl rfl g1 rfl) ?_
    refine r_end ?_
    refine t_cond rfl (fun h2 => ?_) (fun h2 => ?_)
    ·
      have h2' := h2
      refine t_skip ?_
      refine t_seq ?_
      refine t_block ?_
      refine t_seq ?_
      refine t_region ?_
      refine r_op (o_move rfl rfl) ?_
      refine r_op (o_move rfl rfl) ?_
      obtain ⟨z3, hz4, b5⟩ := at_get (xs := ds) (n := (m : Int)) (by first | omega | assumption | (have e1 := sz_at (f := (fun (x : (List (Int × (List (Int)))) × (List (Int × (List (Int)))) × Bool × Int × Int) => (szS (fun (x : Int × (List (Int))) => (x.2).length) (x.1)) + (szS (fun (x : Int × (List (Int))) => (x.2).length) (x.2.1)))) (l := ds) (m := m) (by assumption); (try dsimp only at e1); omega)) (by first | omega | assumption | (have e1 := sz_at (f := (fun (x : (List (Int × (List (Int)))) × (List (Int × (List (Int)))) × Bool × Int × Int) => (szS (fun (x : Int × (List (Int))) => (x.2).length) (x.1)) + (szS (fun (x : Int × (List (Int))) => (x.2).length) (x.2.1)))) (l := ds) (m := m) (by assumption); (try dsimp only at e1); omega))
      refine r_op (o_index rfl (by kernel_rfl) rfl rfl b5 hz4) ?_
      refine r_op (o_loadA rfl (n := 5) (by kernel_rfl) (by kernel_rfl) rfl rfl) ?_
      refine r_op (o_call 1 5 false (Go.Proofs.enters_of Tryd.func34 (by kernel_rfl) rfl) (c_spec_FrontierVariables (z3.1) (z3.2.1) (z3.2.2.1) (z3.2.2.2.1) (z3.2.2.2.2) (by first | omega | assumption | (have e1 := sz_at (f := (fun (x : (List (Int × (List (Int)))) × (List (Int × (List (Int)))) × Bool × Int × Int) => (szS (fun (x : Int × (List (Int))) => (x.2).length) (x.1)) + (szS (fun (x : Int × (List (Int))) => (x.2).length) (x.2.1)))) (l := ds) (m := m) (by assumption); (try dsimp only at e1); omega))) rfl (.cons rfl (.agg (.cons .t0 (.cons .t0 (.cons .t0 (.cons .t0 (.cons .t0 .nil)))))) .nil) rfl rfl rfl) ?_
      refine r_op (o_assign rfl rfl) ?_
      refine r_end ?_
      refine t_seq ?_
      refine t_region ?_
      refine r_op (o_move rfl rfl) ?_
      refine r_op (o_move rfl rfl) ?_
      refine r_op (o_index rfl (by kernel_rfl) rfl rfl b5 hz4) ?_
      refine r_op (o_loadA rfl (n := 5) (by kernel_rfl) (by kernel_rfl) rfl rfl) ?_
      refine r_op (o_call 5 9 false (Go.Proofs.enters_of Tryd.func35 (by kernel_rfl) rfl) (c_spec_ExistentialVariables (z3.1) (z3.2.1) (z3.2.2.1) (z3.2.2.2.1) (z3.2.2.2.2) (by first | omega | assumption | (have e1 := sz_at (f := (fun (x : (List (Int × (List (Int)))) × (List (Int × (List (Int)))) × Bool × Int × Int) => (szS (fun (x : Int × (List (Int))) => (x.2).length) (x.1)) + (szS (fun (x : Int × (List (Int))) => (x.2).length) (x.2.1)))) (l := ds) (m := m) (by assumption); (try dsimp only at e1); omega))) rfl (.cons rfl (.agg (.cons .t0 (.cons .t0 (.cons .t0 (.cons .t0 (.cons .t0 .nil)))))) .nil) rfl rfl rfl) ?_
      refine r_op (o_assign rfl rfl) ?_
      refine r_end ?_
      refine t_seq ?_
      refine t_region ?_
      refine r_op (o_assign rfl rfl) ?_
      refine r_end ?_
      refine t_block ?_
      refine t_loopL (fun n => ⟨[(0, some (.c (.t none (.sl 3 (enS3 encS encI encB) (rs))))), (1, some (.c (.t none (.sl 5 (enS5 (enSl 2 (enS2 encI (enSl 1 encI))) (enSl 2 (enS2 encI (enSl 1 encI))) encB encI encI) (ds))))), (4, some (.c (.t none (.v (.slice none 0 0))))), (5, some (.c (.own 0))), (6, some (.c (.t none (.v (.int .i64 ((m : Int))))))), (7, some (.c (.own 2))), (8, some (.c (.own 6))), (9, some (.c (.t none (.v (.int .i64 ((n : Int)))))))], [(0, some (.row none 38 true 3 (enS3 encI encI encB) (putAll ((ds.take m).flatMap (edgesD rs) ++ ((selV true (setI (varsL z3.1)) (setI (varsL z3.2.1))).take n).flatMap (edgesV rs z3))))), (2, some (.row none 3 true 1 encI (selV true (setI (varsL (z3.1))) (setI (varsL (z3.2.1)))))), (6, some (.row none 3 true 1 encI (selV false (setI (varsL (z3.1))) (setI (varsL (z3.2.1))))))], 9⟩ : Nat → St) (fun n => n ≤ (selV true (setI (varsL z3.1)) (setI (varsL z3.2.1))).length) (fun n => (selV true (setI (varsL z3.1)) (setI (varsL z3.2.1))).length - n) 0 ⟨⟨rfl, ⟨rfl, ⟨rfl, ⟨rfl, ⟨rfl, ⟨rfl, ⟨rfl, ⟨rfl, trivial⟩⟩⟩⟩⟩⟩⟩⟩, ⟨(eqR (by rw [fm_zero, List.append_nil])), ⟨rfl, ⟨rfl, trivial⟩⟩⟩, rfl⟩ (by exact Nat.zero_le _) ?_
      rintro n hI ih1
      try dsimp only at hI ih1
      have er := edges_room (rs := rs) (ds := ds) (by assumption); have j1 := hI; have db := edges_bnd (depsOk_at (rs := rs) (by assumption) (List.mem_of_getElem? hz4)); have db1 : (selV true (setI (varsL z3.1)) (setI (varsL z3.2.1))).length ≤ 12 := db.1; have db2 : (selV false (setI (varsL z3.1)) (setI (varsL z3.2.1))).length ≤ 12 := db.2.1; (have e1 := sz_at (f := (fun (x : (List (Int × (List (Int)))) × (List (Int × (List (Int)))) × Bool × Int × Int) => (szS (fun (x : Int × (List (Int))) => (x.2).length) (x.1)) + (szS (fun (x : Int × (List (Int))) => (x.2).length) (x.2.1)))) (l := ds) (m := m) hz4; (try dsimp only at e1)); have l1 := fm_len (g := edgesV rs z3) (l := selV true (setI (varsL z3.1)) (setI (varsL z3.2.1))) (m := n); have l0 := fm_part (g := edgesD rs) (l := ds) (m := m) hz4 l1; have pl := putAll_len (((ds.take m).flatMap (edgesD rs) ++ ((selV true (setI (varsL z3.1)) (setI (varsL z3.2.1))).take n).flatMap (edgesV rs z3))); rw [List.length_append] at l0 pl
      refine t_seq ?_
      refine t_seq ?_
      refine t_region ?_
      refine r_op (o_move rfl rfl) ?_
      refine r_op (o_move rfl rfl) ?_
      refine r_op (o_leno rfl rfl rfl rfl) ?_
      refine r_op (o_bin rfl rfl rfl rfl) ?_
      refine r_end ?_
      refine t_cond rfl (fun h6 => ?_) (fun h6 => ?_)
      ·
        have h6' := of_decide_eq_true h6
        refine t_skip ?_
        refine t_seq ?_
        refine t_block ?_
        refine t_seq ?_
        refine t_draw (fun _ => true) (by kernel_rfl) ?_
        refine d_take 0 rfl rfl (by kernel_rfl) (by kernel_rfl) (by kernel_rfl) (p_move rfl) ?_
        refine d_take 1 rfl rfl (by kernel_rfl) (by kernel_rfl) (by kernel_rfl) (p_move rfl) ?_
        refine d_take 2 rfl rfl (by kernel_rfl) (by kernel_rfl) (by kernel_rfl) (p_move rfl) ?_
        refine d_take 3 rfl rfl (by kernel_rfl) (by kernel_rfl) (by kernel_rfl) (p_index (by kernel_rfl) rfl rfl b5 hz4) ?_
        refine d_take 4 rfl rfl (by kernel_rfl) (by kernel_rfl) (by kernel_rfl) (p_field (off := 0) (by kernel_rfl) rfl) ?_
        refine d_take 5 rfl rfl (by kernel_rfl) (by kernel_rfl) (by kernel_rfl) (p_load1 (by kernel_rfl) rfl rfl) ?_
        refine d_take 6 rfl rfl (by kernel_rfl) (by kernel_rfl) (by kernel_rfl) (p_move rfl) ?_
        refine d_take 7 rfl rfl (by kernel_rfl) (by kernel_rfl) (by kernel_rfl) (p_move rfl) ?_
        obtain ⟨z7, hz8, b9⟩ := at_get (xs := selV true (setI (varsL (z3.1))) (setI (varsL (z3.2.1)))) (n := (n : Int)) (by first | omega | assumption | (have e1 := sz_at (f := (fun (x : (List (Int × (List (Int)))) × (List (Int × (List (Int)))) × Bool × Int × Int) => (szS (fun (x : Int × (List (Int))) => (x.2).length) (x.1)) + (szS (fun (x : Int × (List (Int))) => (x.2).length) (x.2.1)))) (l := ds) (m := m) (by assumption); (try dsimp only at e1); omega)) (by first | omega | assumption | (have e1 := sz_at (f := (fun (x : (List (Int × (List (Int)))) × (List (Int × (List (Int)))) × Bool × Int × Int) => (szS (fun (x : Int × (List (Int))) => (x.2).length) (x.1)) + (szS (fun (x : Int × (List (Int))) => (x.2).length) (x.2.1)))) (l := ds) (m := m) (by assumption); (try dsimp only at e1); omega))
        refine d_take 8 rfl rfl (by kernel_rfl) (by kernel_rfl) (by kernel_rfl) (p_indexo (by kernel_rfl) rfl rfl rfl b9 (at_lt b9 hz8)) ?_
        refine d_take 9 rfl rfl (by kernel_rfl) (by kernel_rfl) (by kernel_rfl) (p_load1o (by kernel_rfl) rfl rfl rfl hz8) ?_
        refine d_only 10 rfl (by kernel_rfl) rfl (o_call 9 10 false (Go.Proofs.enters_of Tryd.func36 (by kernel_rfl) rfl) (c_spec_l13Places (rs) (z3.1) (z7) (by first | omega | assumption | (have e1 := sz_at (f := (fun (x : (List (Int × (List (Int)))) × (List (Int × (List (Int)))) × Bool × Int × Int) => (szS (fun (x : Int × (List (Int))) => (x.2).length) (x.1)) + (szS (fun (x : Int × (List (Int))) => (x.2).length) (x.2.1)))) (l := ds) (m := m) (by assumption); (try dsimp only at e1); omega)) (by first | omega | assumption | (have e1 := sz_at (f := (fun (x : (List (Int × (List (Int)))) × (List (Int × (List (Int)))) × Bool × Int × Int) => (szS (fun (x : Int × (List (Int))) => (x.2).length) (x.1)) + (szS (fun (x : Int × (List (Int))) => (x.2).length) (x.2.1)))) (l := ds) (m := m) (by assumption); (try dsimp only at e1); omega))) rfl (.cons rfl (.c .t0) (.cons rfl (.c .t0) (.cons rfl (.c .t0) .nil))) rfl rfl rfl) ?_
        refine d_take 11 rfl rfl (by kernel_rfl) (by kernel_rfl) (by kernel_rfl) (p_assign rfl) ?_
        refine d_end (by kernel_rfl) ?_
        refine t_seq ?_
        refine t_draw (fun _ => true) (by kernel_rfl) ?_
        refine d_take 0 rfl rfl (by kernel_rfl) (by kernel_rfl) (by kernel_rfl) (p_move rfl) ?_
        refine d_take 1 rfl rfl (by kernel_rfl) (by kernel_rfl) (by kernel_rfl) (p_move rfl) ?_
        refine d_take 2 rfl rfl (by kernel_rfl) (by kernel_rfl) (by kernel_rfl) (p_move rfl) ?_
        refine d_take 3 rfl rfl (by kernel_rfl) (by kernel_rfl) (by kernel_rfl) (p_index (by kernel_rfl) rfl rfl b5 hz4) ?_
        refine d_take 4 rfl rfl (by kernel_rfl) (by kernel_rfl) (by kernel_rfl) (p_field (off := 1) (by kernel_rfl) rfl) ?_
        refine d_take 5 rfl rfl (by kernel_rfl) (by kernel_rfl) (by kernel_rfl) (p_load1 (by kernel_rfl) rfl rfl) ?_
        refine d_take 6 rfl rfl (by kernel_rfl) (by kernel_rfl) (by kernel_rfl) (p_move rfl) ?_
        refine d_take 7 rfl rfl (by kernel_rfl) (by kernel_rfl) (by kernel_rfl) (p_move rfl) ?_
        refine d_take 8 rfl rfl (by kernel_rfl) (by kernel_rfl) (by kernel_rfl) (p_indexo (by kernel_rfl) rfl rfl rfl b9 (at_lt b9 hz8)) ?_
        refine d_take 9 rfl rfl (by kernel_rfl) (by kernel_rfl) (by kernel_rfl) (p_load1o (by kernel_rfl) rfl rfl rfl hz8) ?_
        refine d_only 10 rfl (by kernel_rfl) rfl (o_call 10 11 false (Go.Proofs.enters_of Tryd.func36 (by kernel_rfl) rfl) (c_spec_l13Places (rs) (z3.2.1) (z7) (by first | omega | assumption | (have e1 := sz_at (f := (fun (x : (List (Int × (List (Int)))) × (List (Int × (List (Int)))) × Bool × Int × Int) => (szS (fun (x : Int × (List (Int))) => (x.2).length) (x.1)) + (szS (fun (x : Int × (List (Int))) => (x.2).length) (x.2.1)))) (l := ds) (m := m) (by assumption); (try dsimp only at e1); omega)) (by first | omega | assumption | (have e1 := sz_at (f := (fun (x : (List (Int × (List (Int)))) × (List (Int × (List (Int)))) × Bool × Int × Int) => (szS (fun (x : Int × (List (Int))) => (x.2).length) (x.1)) + (szS (fun (x : Int × (List (Int))) => (x.2).length) (x.2.1)))) (l := ds) (m := m) (by assumption); (try dsimp only at e1); omega))) rfl (.cons rfl (.c .t0) (.cons rfl (.c .t0) (.cons rfl (.c .t0) .nil))) rfl rfl rfl) ?_
        refine d_take 11 rfl rfl (by kernel_rfl) (by kernel_rfl) (by kernel_rfl) (p_assign rfl) ?_
        refine d_end (by kernel_rfl) ?_
        refine t_seq ?_
        refine t_region ?_
        refine r_op (o_assign rfl rfl) ?_
        refine r_end ?_
        refine t_block ?_
        refine t_loopL (fun p => ⟨[(0, some (.c (.t none (.sl 3 (enS3 encS encI encB) (rs))))), (1, some (.c (.t none (.sl 5 (enS5 (enSl 2 (enS2 encI (enSl 1 encI))) (enSl 2 (enS2 encI (enSl 1 encI))) encB encI encI) (ds))))), (4, some (.c (.t none (.v (.slice none 0 0))))), (5, some (.c (.own 0))), (6, some (.c (.t none (.v (.int .i64 ((m : Int))))))), (7, some (.c (.own 2))), (8, some (.c (.own 6))), (9, some (.c (.t none (.v (.int .i64 ((n : Int))))))), (10, some (.c (.own 9))), (11, some (.c (.own 10))), (12, some (.c (.t none (.v (.int .i64 ((p : Int)))))))], [(0, some (.row none 38 true 3 (enS3 encI encI encB) (putAll (((ds.take m).flatMap (edgesD rs) ++ ((selV true (setI (varsL z3.1)) (setI (varsL z3.2.1))).take n).flatMap (edgesV rs z3)) ++ ((placesL rs z3.1 z7).take p).flatMap (edgesF rs z3 z7))))), (2, some (.row none 3 true 1 encI (selV true (setI (varsL (z3.1))) (setI (varsL (z3.2.1)))))), (6, some (.row none 3 true 1 encI (selV false (setI (varsL (z3.1))) (setI (varsL (z3.2.1)))))), (9, some (.row none 3 true 1 encI (placesL (rs) (z3.1) (z7)))), (10, some (.row none 3 true 1 encI (placesL (rs) (z3.2.1) (z7))))], 11⟩ : Nat → St) (fun p => p ≤ (placesL rs z3.1 z7).length) (fun p => (placesL rs z3.1 z7).length - p) 0 ⟨⟨rfl, ⟨rfl, ⟨rfl, ⟨rfl, ⟨rfl, ⟨rfl, ⟨rfl, ⟨rfl, ⟨rfl, ⟨rfl, ⟨rfl, trivial⟩⟩⟩⟩⟩⟩⟩⟩⟩⟩⟩, ⟨(eqR (by rw [fm_zero, List.append_nil])), ⟨rfl, ⟨rfl, ⟨rfl, ⟨rfl, trivial⟩⟩⟩⟩⟩, rfl⟩ (by exact Nat.zero_le _) ?_
        rintro p hI ih2
        try dsimp only at hI ih2
        have k1 := hI; have dp := (db.2.2.1 z7).1; have dq := (db.2.2.1 z7).2; have l2 := fm_len (g := edgesF rs z3 z7) (l := placesL rs z3.1 z7) (m := p); have l1 := fm_part (g := edgesV rs z3) (l := selV true (setI (varsL z3.1)) (setI (varsL z3.2.1))) (m := n) hz8 l2; have l0 := fm_part (g := edgesD rs) (l := ds) (m := m) hz4 l1; have pl := putAll_len ((((ds.take m).flatMap (edgesD rs) ++ ((selV true (setI (varsL z3.1)) (setI (varsL z3.2.1))).take n).flatMap (edgesV rs z3)) ++ ((placesL rs z3.1 z7).take p).flatMap (edgesF rs z3 z7))); simp only [List.length_append] at l0 pl
        refine t_seq ?_
        refine t_seq ?_
        refine t_region ?_
        refine r_op (o_move rfl rfl) ?_
        refine r_op (o_move rfl rfl) ?_
        refine r_op (o_leno rfl rfl rfl rfl) ?_
        refine r_op (o_bin rfl rfl rfl rfl) ?_
        refine r_end ?_
        refine t_cond rfl (fun h10 => ?_) (fun h10 => ?_)
        ·
          have h10' := of_decide_eq_true h10
          refine t_skip ?_
          refine t_seq ?_
          refine t_block ?_
          refine t_seq ?_
          refine t_seq ?_
          refine t_region ?_
          refine r_op (o_assign rfl rfl) ?_
          refine r_end ?_
          refine t_block ?_
          refine t_loopL (fun b => ⟨[(0, some (.c (.t none (.sl 3 (enS3 encS encI encB) (rs))))), (1, some (.c (.t none (.sl 5 (enS5 (enSl 2 (enS2 encI (enSl 1 encI))) (enSl 2 (enS2 encI (enSl 1 encI))) encB encI encI) (ds))))), (4, some (.c (.t none (.v (.slice none 0 0))))), (5, some (.c (.own 0))), (6, some (.c (.t none (.v (.int .i64 ((m : Int))))))), (7, some (.c (.own 2))), (8, some (.c (.own 6))), (9, some (.c (.t none (.v (.int .i64 ((n : Int))))))), (10, some (.c (.own 9))), (11, some (.c (.own 10))), (12, some (.c (.t none (.v (.int .i64 ((p : Int))))))), (13, some (.c (.t none (.v (.int .i64 ((b : Int)))))))], [(0, some (.row none 38 true 3 (enS3 encI encI encB) (addL ((placesL rs z3.1 z7).getD p 0) false (putAll (((ds.take m).flatMap (edgesD rs) ++ ((selV true (setI (varsL z3.1)) (setI (varsL z3.2.1))).take n).flatMap (edgesV rs z3)) ++ ((placesL rs z3.1 z7).take p).flatMap (edgesF rs z3 z7))) ((placesL rs z3.2.1 z7).take b)))), (2, some (.row none 3 true 1 encI (selV true (setI (varsL (z3.1))) (setI (varsL (z3.2.1)))))), (6, some (.row none 3 true 1 encI (selV false (setI (varsL (z3.1))) (setI (varsL (z3.2.1)))))), (9, some (.row none 3 true 1 encI (placesL (rs) (z3.1) (z7)))), (10, some (.row none 3 true 1 encI (placesL (rs) (z3.2.1) (z7))))], 11⟩ : Nat → St) (fun b => b ≤ (placesL rs z3.2.1 z7).length) (fun b => (placesL rs z3.2.1 z7).length - b) 0 ⟨⟨rfl, ⟨rfl, ⟨rfl, ⟨rfl, ⟨rfl, ⟨rfl, ⟨rfl, ⟨rfl, ⟨rfl, ⟨rfl, ⟨rfl, ⟨rfl, trivial⟩⟩⟩⟩⟩⟩⟩⟩⟩⟩⟩⟩, ⟨(eqR (by rw [List.take_zero]; rfl)), ⟨rfl, ⟨rfl, ⟨rfl, ⟨rfl, trivial⟩⟩⟩⟩⟩, rfl⟩ (by exact Nat.zero_le _) ?_
          rintro b hI ih3
          try dsimp only at hI ih3
          have n1 := hI; have hzf := getD_get (l := placesL rs z3.1 z7) (m := p) (by omega); have al := addL_len (f := ((placesL rs z3.1 z7).getD p 0)) (sp := false) ((placesL rs z3.2.1 z7).take b) (putAll (((ds.take m).flatMap (edgesD rs) ++ ((selV true (setI (varsL z3.1)) (setI (varsL z3.2.1))).take n).flatMap (edgesV rs z3)) ++ ((placesL rs z3.1 z7).take p).flatMap (edgesF rs z3 z7))); rw [List.length_take] at al
          refine t_seq ?_
          refine t_seq ?_
          refine t_region ?_
          refine r_op (o_move rfl rfl) ?_
          refine r_op (o_move rfl rfl) ?_
          refine r_op (o_leno rfl rfl rfl rfl) ?_
          refine r_op (o_bin rfl rfl rfl rfl) ?_
          refine r_end ?_
          refine t_cond rfl (fun h11 => ?_) (fun h11 => ?_)
          ·
            have h11' := of_decide_eq_true h11
            refine t_skip ?_
            refine t_seq ?_
            refine t_block ?_
            refine t_draw (fun i => !(Nat.beq i 10)) (by kernel_rfl) ?_
            refine d_take 0 rfl rfl (by kernel_rfl) (by kernel_rfl) (by kernel_rfl) (p_move rfl) ?_
            refine d_take 1 rfl rfl (by kernel_rfl) (by kernel_rfl) (by kernel_rfl) (p_move rfl) ?_
            refine d_take 2 rfl rfl (by kernel_rfl) (by kernel_rfl) (by kernel_rfl) (p_move rfl) ?_
            obtain ⟨z12, hz13, b14⟩ := at_get (xs := placesL (rs) (z3.1) (z7)) (n := (p : Int)) (by first | omega | assumption | (have e1 := sz_at (f := (fun (x : (List (Int × (List (Int)))) × (List (Int × (List (Int)))) × Bool × Int × Int) => (szS (fun (x : Int × (List (Int))) => (x.2).length) (x.1)) + (szS (fun (x : Int × (List (Int))) => (x.2).length) (x.2.1)))) (l := ds) (m := m) (by assumption); (try dsimp only at e1); omega)) (by first | omega | assumption | (have e1 := sz_at (f := (fun (x : (List (Int × (List (Int)))) × (List (Int × (List (Int)))) × Bool × Int × Int) => (szS (fun (x : Int × (List (Int))) => (x.2).length) (x.1)) + (szS (fun (x : Int × (List (Int))) => (x.2).length) (x.2.1)))) (l := ds) (m := m) (by assumption); (try dsimp only at e1); omega))
            refine d_take 3 rfl rfl (by kernel_rfl) (by kernel_rfl) (by kernel_rfl) (p_indexo (by kernel_rfl) rfl rfl rfl b14 (at_lt b14 hz13)) ?_
            refine d_take 4 rfl rfl (by kernel_rfl) (by kernel_rfl) (by kernel_rfl) (p_load1o (by kernel_rfl) rfl rfl rfl hz13) ?_
            refine d_take 5 rfl rfl (by kernel_rfl) (by kernel_rfl) (by kernel_rfl) (p_move rfl) ?_
            refine d_take 6 rfl rfl (by kernel_rfl) (by kernel_rfl) (by kernel_rfl) (p_move rfl) ?_
            obtain ⟨z15, hz16, b17⟩ := at_get (xs := placesL (rs) (z3.2.1) (z7)) (n := (b : Int)) (by first | omega | assumption | (have e1 := sz_at (f := (fun (x : (List (Int × (List (Int)))) × (List (Int × (List (Int)))) × Bool × Int × Int) => (szS (fun (x : Int × (List (Int))) => (x.2).length) (x.1)) + (szS (fun (x : Int × (List (Int))) => (x.2).length) (x.2.1)))) (l := ds) (m := m) (by assumption); (try dsimp only at e1); omega)) (by first | omega | assumption | (have e1 := sz_at (f := (fun (x : (List (Int × (List (Int)))) × (List (Int × (List (Int)))) × Bool × Int × Int) => (szS (fun (x : Int × (List (Int))) => (x.2).length) (x.1)) + (szS (fun (x : Int × (List (Int))) => (x.2).length) (x.2.1)))) (l := ds) (m := m) (by assumption); (try dsimp only at e1); omega))
            refine d_take 7 rfl rfl (by kernel_rfl) (by kernel_rfl) (by kernel_rfl) (p_indexo (by kernel_rfl) rfl rfl rfl b17 (at_lt b17 hz16)) ?_
            refine d_take 8 rfl rfl (by kernel_rfl) (by kernel_rfl) (by kernel_rfl) (p_load1o (by kernel_rfl) rfl rfl rfl hz16) ?_
            refine d_take 9 rfl rfl (by kernel_rfl) (by kernel_rfl) (by kernel_rfl) (p_build (pl := [(0, 1), (1, 1), (2, 1)]) (zs := [.int .i64 (0), .int .i64 (0), .bool (false)]) (by kernel_rfl) (by kernel_rfl) rfl rfl rfl) ?_
            refine d_only 10 rfl (by kernel_rfl) rfl (o_callC 0 (l' := putE (addL ((placesL rs z3.1 z7).getD p 0) false (putAll (((ds.take m).flatMap (edgesD rs) ++ ((selV true (setI (varsL z3.1)) (setI (varsL z3.2.1))).take n).flatMap (edgesV rs z3)) ++ ((placesL rs z3.1 z7).take p).flatMap (edgesF rs z3 z7))) ((placesL rs z3.2.1 z7).take b)) ((z12), (z15), (false))) (Go.Proofs.enters_of Tryd.func37 (by kernel_rfl) rfl) (fun U => c_spec_l13Put U  (addL ((placesL rs z3.1 z7).getD p 0) false (putAll (((ds.take m).flatMap (edgesD rs) ++ ((selV true (setI (varsL z3.1)) (setI (varsL z3.2.1))).take n).flatMap (edgesV rs z3)) ++ ((placesL rs z3.1 z7).take p).flatMap (edgesF rs z3 z7))) ((placesL rs z3.2.1 z7).take b)) (z12) (z15) (false) (by first | omega | assumption | (have e1 := sz_at (f := (fun (x : (List (Int × (List (Int)))) × (List (Int × (List (Int)))) × Bool × Int × Int) => (szS (fun (x : Int × (List (Int))) => (x.2).length) (x.1)) + (szS (fun (x : Int × (List (Int))) => (x.2).length) (x.2.1)))) (l := ds) (m := m) (by assumption); (try dsimp only at e1); omega))) rfl rfl (.cons rfl (.own rfl) (.agg rfl (.cons .t0 (.cons .t0 (.cons .t0 .nil))) .nil))) ?_
            refine d_take 11 rfl rfl (by kernel_rfl) (by kernel_rfl) (by kernel_rfl) (p_assign rfl) ?_
            refine d_end (by kernel_rfl) ?_
            refine t_endblock ?_
            refine t_region ?_
            refine r_op (o_move rfl rfl) ?_
            refine r_op (o_bin rfl rfl rfl rfl) ?_
            refine r_op (o_assign rfl rfl) ?_
            refine r_end ?_
            have gdf := Option.some.inj (hzf.symm.trans hz13)
            refine t_le ?_ (ih3 (b + 1) (by (try dsimp only); omega) (by (try dsimp only); omega))
            exact ⟨⟨rfl, ⟨rfl, ⟨rfl, ⟨rfl, ⟨rfl, ⟨rfl, ⟨rfl, ⟨rfl, ⟨rfl, ⟨rfl, ⟨rfl, ⟨(eqI (wr64 (by omega) (by omega))), trivial⟩⟩⟩⟩⟩⟩⟩⟩⟩⟩⟩⟩, ⟨(eqR (by rw [← gdf]; exact addL_snoc hz16)), ⟨rfl, ⟨rfl, ⟨rfl, ⟨rfl, trivial⟩⟩⟩⟩⟩, rfl⟩
          ·
            have h11' := of_decide_eq_false h11
            refine t_exit rfl ?_
            refine t_seq ?_
            refine t_region ?_
            refine r_op (o_assign rfl rfl) ?_
            refine r_end ?_
            refine t_block ?_
            refine t_loopL (fun q => ⟨[(0, some (.c (.t none (.sl 3 (enS3 encS encI encB) (rs))))), (1, some (.c (.t none (.sl 5 (enS5 (enSl 2 (enS2 encI (enSl 1 encI))) (enSl 2 (enS2 encI (enSl 1 encI))) encB encI encI) (ds))))), (4, some (.c (.t none (.v (.slice none 0 0))))), (5, some (.c (.own 0))), (6, some (.c (.t none (.v (.int .i64 ((m : Int))))))), (7, some (.c (.own 2))), (8, some (.c (.own 6))), (9, some (.c (.t none (.v (.int .i64 ((n : Int))))))), (10, some (.c (.own 9))), (11, some (.c (.own 10))), (12, some (.c (.t none (.v (.int .i64 ((p : Int))))))), (14, some (.c (.t none (.v (.int .i64 ((q : Int)))))))], [(0, some (.row none 38 true 3 (enS3 encI encI encB) (putAll (((((ds.take m).flatMap (edgesD rs) ++ ((selV true (setI (varsL z3.1)) (setI (varsL z3.2.1))).take n).flatMap (edgesV rs z3)) ++ ((placesL rs z3.1 z7).take p).flatMap (edgesF rs z3 z7)) ++ edgesN rs z3 z7 ((placesL rs z3.1 z7).getD p 0)) ++ ((selV false (setI (varsL z3.1)) (setI (varsL z3.2.1))).take q).flatMap (edgesX rs z3 ((placesL rs z3.1 z7).getD p 0)))))), (2, some (.row none 3 true 1 encI (selV true (setI (varsL (z3.1))) (setI (varsL (z3.2.1)))))), (6, some (.row none 3 true 1 encI (selV false (setI (varsL (z3.1))) (setI (varsL (z3.2.1)))))), (9, some (.row none 3 true 1 encI (placesL (rs) (z3.1) (z7)))), (10, some (.row none 3 true 1 encI (placesL (rs) (z3.2.1) (z7))))], 11⟩ : Nat → St) (fun q => q ≤ (selV false (setI (varsL z3.1)) (setI (varsL z3.2.1))).length) (fun q => (selV false (setI (varsL z3.1)) (setI (varsL z3.2.1))).length - q) 0 ⟨⟨rfl, ⟨rfl, ⟨rfl, ⟨rfl, ⟨rfl, ⟨rfl, ⟨rfl, ⟨rfl, ⟨rfl, ⟨rfl, ⟨rfl, ⟨rfl, trivial⟩⟩⟩⟩⟩⟩⟩⟩⟩⟩⟩⟩, ⟨(eqR (by rw [List.take_of_length_le (l := placesL rs z3.2.1 z7) (i := b) (by omega), fm_zero, List.append_nil, addL_all]; rfl)), ⟨rfl, ⟨rfl, ⟨rfl, ⟨rfl, trivial⟩⟩⟩⟩⟩, rfl⟩ (by exact Nat.zero_le _) ?_
            rintro q hI ih4
            try dsimp only at hI ih4
            have o1 := hI; have l3 : (edgesN rs z3 z7 ((placesL rs z3.1 z7).getD p 0) ++ ((selV false (setI (varsL z3.1)) (setI (varsL z3.2.1))).take q).flatMap (edgesX rs z3 ((placesL rs z3.1 z7).getD p 0))).length ≤ (edgesF rs z3 z7 ((placesL rs z3.1 z7).getD p 0)).length := (by have l4 := fm_len (g := edgesX rs z3 ((placesL rs z3.1 z7).getD p 0)) (l := selV false (setI (varsL z3.1)) (setI (varsL z3.2.1))) (m := q); unfold edgesF exisV; simp only [List.length_append]; omega); have l2 := fm_part (g := edgesF rs z3 z7) (l := placesL rs z3.1 z7) (m := p) hzf l3; have l1 := fm_part (g := edgesV rs z3) (l := selV true (setI (varsL z3.1)) (setI (varsL z3.2.1))) (m := n) hz8 l2; have l0 := fm_part (g := edgesD rs) (l := ds) (m := m) hz4 l1; have pl := putAll_len ((((((ds.take m).flatMap (edgesD rs) ++ ((selV true (setI (varsL z3.1)) (setI (varsL z3.2.1))).take n).flatMap (edgesV rs z3)) ++ ((placesL rs z3.1 z7).take p).flatMap (edgesF rs z3 z7)) ++ edgesN rs z3 z7 ((placesL rs z3.1 z7).getD p 0)) ++ ((selV false (setI (varsL z3.1)) (setI (varsL z3.2.1))).take q).flatMap (edgesX rs z3 ((placesL rs z3.1 z7).getD p 0)))); simp only [List.length_append] at l0 pl
            refine t_seq ?_
            refine t_seq ?_
            refine t_region ?_
            refine r_op (o_move rfl rfl) ?_
            refine r_op (o_move rfl rfl) ?_
            refine r_op (o_leno rfl rfl rfl rfl) ?_
            refine r_op (o_bin rfl rfl rfl rfl) ?_
            refine r_end ?_
            refine t_cond rfl (fun h18 => ?_) (fun h18 => ?_)
            ·
              have h18' := of_decide_eq_true h18
              refine t_skip ?_
              refine t_seq ?_
              refine t_block ?_
              refine t_seq ?_
              refine t_draw (fun _ => true) (by kernel_rfl) ?_
              refine d_take 0 rfl rfl (by kernel_rfl) (by kernel_rfl) (by kernel_rfl) (p_move rfl) ?_
              refine d_take 1 rfl rfl (by kernel_rfl) (by kernel_rfl) (by kernel_rfl) (p_move rfl) ?_
              refine d_take 2 rfl rfl (by kernel_rfl) (by kernel_rfl) (by kernel_rfl) (p_move rfl) ?_
              refine d_take 3 rfl rfl (by kernel_rfl) (by kernel_rfl) (by kernel_rfl) (p_index (by kernel_rfl) rfl rfl b5 hz4) ?_
              refine d_take 4 rfl rfl (by kernel_rfl) (by kernel_rfl) (by kernel_rfl) (p_field (off := 1) (by kernel_rfl) rfl) ?_
              refine d_take 5 rfl rfl (by kernel_rfl) (by kernel_rfl) (by kernel_rfl) (p_load1 (by kernel_rfl) rfl rfl) ?_
              refine d_take 6 rfl rfl (by kernel_rfl) (by kernel_rfl) (by kernel_rfl) (p_move rfl) ?_
              refine d_take 7 rfl rfl (by kernel_rfl) (by kernel_rfl) (by kernel_rfl) (p_move rfl) ?_
              obtain ⟨z19, hz20, b21⟩ := at_get (xs := selV false (setI (varsL (z3.1))) (setI (varsL (z3.2.1)))) (n := (q : Int)) (by first | omega | assumption | (have e1 := sz_at (f := (fun (x : (List (Int × (List (Int)))) × (List (Int × (List (Int)))) × Bool × Int × Int) => (szS (fun (x : Int × (List (Int))) => (x.2).length) (x.1)) + (szS (fun (x : Int × (List (Int))) => (x.2).length) (x.2.1)))) (l := ds) (m := m) (by assumption); (try dsimp only at e1); omega)) (by first | omega | assumption | (have e1 := sz_at (f := (fun (x : (List (Int × (List (Int)))) × (List (Int × (List (Int)))) × Bool × Int × Int) => (szS (fun (x : Int × (List (Int))) => (x.2).length) (x.1)) + (szS (fun (x : Int × (List (Int))) => (x.2).length) (x.2.1)))) (l := ds) (m := m) (by assumption); (try dsimp only at e1); omega))
              refine d_take 8 rfl rfl (by kernel_rfl) (by kernel_rfl) (by kernel_rfl) (p_indexo (by kernel_rfl) rfl rfl rfl b21 (at_lt b21 hz20)) ?_
              refine d_take 9 rfl rfl (by kernel_rfl) (by kernel_rfl) (by kernel_rfl) (p_load1o (by kernel_rfl) rfl rfl rfl hz20) ?_
              refine d_only 10 rfl (by kernel_rfl) rfl (o_call 11 12 false (Go.Proofs.enters_of Tryd.func36 (by kernel_rfl) rfl) (c_spec_l13Places (rs) (z3.2.1) (z19) (by first | omega | assumption | (have e1 := sz_at (f := (fun (x : (List (Int × (List (Int)))) × (List (Int × (List (Int)))) × Bool × Int × Int) => (szS (fun (x : Int × (List (Int))) => (x.2).length) (x.1)) + (szS (fun (x : Int × (List (Int))) => (x.2).length) (x.2.1)))) (l := ds) (m := m) (by assumption); (try dsimp only at e1); omega)) (by first | omega | assumption | (have e1 := sz_at (f := (fun (x : (List (Int × (List (Int)))) × (List (Int × (List (Int)))) × Bool × Int × Int) => (szS (fun (x : Int × (List (Int))) => (x.2).length) (x.1)) + (szS (fun (x : Int × (List (Int))) => (x.2).length) (x.2.1)))) (l := ds) (m := m) (by assumption); (try dsimp only at e1); omega))) rfl (.cons rfl (.c .t0) (.cons rfl (.c .t0) (.cons rfl (.c .t0) .nil))) rfl rfl rfl) ?_
              refine d_take 11 rfl rfl (by kernel_rfl) (by kernel_rfl) (by kernel_rfl) (p_assign rfl) ?_
              refine d_end (by kernel_rfl) ?_
              refine t_seq ?_
              refine t_region ?_
              refine r_op (o_assign rfl rfl) ?_
              refine r_end ?_
              refine t_block ?_
              refine t_loopL (fun b => ⟨[(0, some (.c (.t none (.sl 3 (enS3 encS encI encB) (rs))))), (1, some (.c (.t none (.sl 5 (enS5 (enSl 2 (enS2 encI (enSl 1 encI))) (enSl 2 (enS2 encI (enSl 1 encI))) encB encI encI) (ds))))), (4, some (.c (.t none (.v (.slice none 0 0))))), (5, some (.c (.own 0))), (6, some (.c (.t none (.v (.int .i64 ((m : Int))))))), (7, some (.c (.own 2))), (8, some (.c (.own 6))), (9, some (.c (.t none (.v (.int .i64 ((n : Int))))))), (10, some (.c (.own 9))), (11, some (.c (.own 10))), (12, some (.c (.t none (.v (.int .i64 ((p : Int))))))), (14, some (.c (.t none (.v (.int .i64 ((q : Int))))))), (15, some (.c (.own 11))), (16, some (.c (.t none (.v (.int .i64 ((b : Int)))))))], [(0, some (.row none 38 true 3 (enS3 encI encI encB) (addL ((placesL rs z3.1 z7).getD p 0) true (putAll (((((ds.take m).flatMap (edgesD rs) ++ ((selV true (setI (varsL z3.1)) (setI (varsL z3.2.1))).take n).flatMap (edgesV rs z3)) ++ ((placesL rs z3.1 z7).take p).flatMap (edgesF rs z3 z7)) ++ edgesN rs z3 z7 ((placesL rs z3.1 z7).getD p 0)) ++ ((selV false (setI (varsL z3.1)) (setI (varsL z3.2.1))).take q).flatMap (edgesX rs z3 ((placesL rs z3.1 z7).getD p 0)))) ((placesL rs z3.2.1 z19).take b)))), (2, some (.row none 3 true 1 encI (selV true (setI (varsL (z3.1))) (setI (varsL (z3.2.1)))))), (6, some (.row none 3 true 1 encI (selV false (setI (varsL (z3.1))) (setI (varsL (z3.2.1)))))), (9, some (.row none 3 true 1 encI (placesL (rs) (z3.1) (z7)))), (10, some (.row none 3 true 1 encI (placesL (rs) (z3.2.1) (z7)))), (11, some (.row none 3 true 1 encI (placesL (rs) (z3.2.1) (z19))))], 12⟩ : Nat → St) (fun b => b ≤ (placesL rs z3.2.1 z19).length) (fun b => (placesL rs z3.2.1 z19).length - b) 0 ⟨⟨rfl, ⟨rfl, ⟨rfl, ⟨rfl, ⟨rfl, ⟨rfl, ⟨rfl, ⟨rfl, ⟨rfl, ⟨rfl, ⟨rfl, ⟨rfl, ⟨rfl, ⟨rfl, trivial⟩⟩⟩⟩⟩⟩⟩⟩⟩⟩⟩⟩⟩⟩, ⟨(eqR (by rw [List.take_zero]; rfl)), ⟨rfl, ⟨rfl, ⟨rfl, ⟨rfl, ⟨rfl, trivial⟩⟩⟩⟩⟩⟩, rfl⟩ (by exact Nat.zero_le _) ?_
              rintro b hI ih5
              try dsimp only at hI ih5
              have r1 := hI; have dr := (db.2.2.1 z19).2; have al := addL_len (f := ((placesL rs z3.1 z7).getD p 0)) (sp := true) ((placesL rs z3.2.1 z19).take b) (putAll (((((ds.take m).flatMap (edgesD rs) ++ ((selV true (setI (varsL z3.1)) (setI (varsL z3.2.1))).take n).flatMap (edgesV rs z3)) ++ ((placesL rs z3.1 z7).take p).flatMap (edgesF rs z3 z7)) ++ edgesN rs z3 z7 ((placesL rs z3.1 z7).getD p 0)) ++ ((selV false (setI (varsL z3.1)) (setI (varsL z3.2.1))).take q).flatMap (edgesX rs z3 ((placesL rs z3.1 z7).getD p 0)))); rw [List.length_take] at al
              refine t_seq ?_
              refine t_seq ?_
              refine t_region ?_
              refine r_op (o_move rfl rfl) ?_
              refine r_op (o_move rfl rfl) ?_
              refine r_op (o_leno rfl rfl rfl rfl) ?_
              refine r_op (o_bin rfl rfl rfl rfl) ?_
              refine r_end ?_
              refine t_cond rfl (fun h22 => ?_) (fun h22 => ?_)
              ·
                have h22' := of_decide_eq_true h22
                refine t_skip ?_
                refine t_seq ?_
                refine t_block ?_
                refine t_draw (fun i => !(Nat.beq i 10)) (by kernel_rfl) ?_
                refine d_take 0 rfl rfl (by kernel_rfl) (by kernel_rfl) (by kernel_rfl) (p_move rfl) ?_
                refine d_take 1 rfl rfl (by kernel_rfl) (by kernel_rfl) (by kernel_rfl) (p_move rfl) ?_
                refine d_take 2 rfl rfl (by kernel_rfl) (by kernel_rfl) (by kernel_rfl) (p_move rfl) ?_
                obtain ⟨z23, hz24, b25⟩ := at_get (xs := placesL (rs) (z3.1) (z7)) (n := (p : Int)) (by first | omega | assumption | (have e1 := sz_at (f := (fun (x : (List (Int × (List (Int)))) × (List (Int × (List (Int)))) × Bool × Int × Int) => (szS (fun (x : Int × (List (Int))) => (x.2).length) (x.1)) + (szS (fun (x : Int × (List (Int))) => (x.2).length) (x.2.1)))) (l := ds) (m := m) (by assumption); (try dsimp only at e1); omega)) (by first | omega | assumption | (have e1 := sz_at (f := (fun (x : (List (Int × (List (Int)))) × (List (Int × (List (Int)))) × Bool × Int × Int) => (szS (fun (x : Int × (List (Int))) => (x.2).length) (x.1)) + (szS (fun (x : Int × (List (Int))) => (x.2).length) (x.2.1)))) (l := ds) (m := m) (by assumption); (try dsimp only at e1); omega))
                refine d_take 3 rfl rfl (by kernel_rfl) (by kernel_rfl) (by kernel_rfl) (p_indexo (by kernel_rfl) rfl rfl rfl b25 (at_lt b25 hz24)) ?_
                refine d_take 4 rfl rfl (by kernel_rfl) (by kernel_rfl) (by kernel_rfl) (p_load1o (by kernel_rfl) rfl rfl rfl hz24) ?_
                refine d_take 5 rfl rfl (by kernel_rfl) (by kernel_rfl) (by kernel_rfl) (p_move rfl) ?_
                refine d_take 6 rfl rfl (by kernel_rfl) (by kernel_rfl) (by kernel_rfl) (p_move rfl) ?_
                obtain ⟨z26, hz27, b28⟩ := at_get (xs := placesL (rs) (z3.2.1) (z19)) (n := (b : Int)) (by first | omega | assumption | (have e1 := sz_at (f := (fun (x : (List (Int × (List (Int)))) × (List (Int × (List (Int)))) × Bool × Int × Int) => (szS (fun (x : Int × (List (Int))) => (x.2).length) (x.1)) + (szS (fun (x : Int × (List (Int))) => (x.2).length) (x.2.1)))) (l := ds) (m := m) (by assumption); (try dsimp only at e1); omega)) (by first | omega | assumption | (have e1 := sz_at (f := (fun (x : (List (Int × (List (Int)))) × (List (Int × (List (Int)))) × Bool × Int × Int) => (szS (fun (x : Int × (List (Int))) => (x.2).length) (x.1)) + (szS (fun (x : Int × (List (Int))) => (x.2).length) (x.2.1)))) (l := ds) (m := m) (by assumption); (try dsimp only at e1); omega))
                refine d_take 7 rfl rfl (by kernel_rfl) (by kernel_rfl) (by kernel_rfl) (p_indexo (by kernel_rfl) rfl rfl rfl b28 (at_lt b28 hz27)) ?_
                refine d_take 8 rfl rfl (by kernel_rfl) (by kernel_rfl) (by kernel_rfl) (p_load1o (by kernel_rfl) rfl rfl rfl hz27) ?_
                refine d_take 9 rfl rfl (by kernel_rfl) (by kernel_rfl) (by kernel_rfl) (p_build (pl := [(0, 1), (1, 1), (2, 1)]) (zs := [.int .i64 (0), .int .i64 (0), .bool (false)]) (by kernel_rfl) (by kernel_rfl) rfl rfl rfl) ?_
                refine d_only 10 rfl (by kernel_rfl) rfl (o_callC 0 (l' := putE (addL ((placesL rs z3.1 z7).getD p 0) true (putAll (((((ds.take m).flatMap (edgesD rs) ++ ((selV true (setI (varsL z3.1)) (setI (varsL z3.2.1))).take n).flatMap (edgesV rs z3)) ++ ((placesL rs z3.1 z7).take p).flatMap (edgesF rs z3 z7)) ++ edgesN rs z3 z7 ((placesL rs z3.1 z7).getD p 0)) ++ ((selV false (setI (varsL z3.1)) (setI (varsL z3.2.1))).take q).flatMap (edgesX rs z3 ((placesL rs z3.1 z7).getD p 0)))) ((placesL rs z3.2.1 z19).take b)) ((z23), (z26), (true))) (Go.Proofs.enters_of Tryd.func37 (by kernel_rfl) rfl) (fun U => c_spec_l13Put U  (addL ((placesL rs z3.1 z7).getD p 0) true (putAll (((((ds.take m).flatMap (edgesD rs) ++ ((selV true (setI (varsL z3.1)) (setI (varsL z3.2.1))).take n).flatMap (edgesV rs z3)) ++ ((placesL rs z3.1 z7).take p).flatMap (edgesF rs z3 z7)) ++ edgesN rs z3 z7 ((placesL rs z3.1 z7).getD p 0)) ++ ((selV false (setI (varsL z3.1)) (setI (varsL z3.2.1))).take q).flatMap (edgesX rs z3 ((placesL rs z3.1 z7).getD p 0)))) ((placesL rs z3.2.1 z19).take b)) (z23) (z26) (true) (by first | omega | assumption | (have e1 := sz_at (f := (fun (x : (List (Int × (List (Int)))) × (List (Int × (List (Int)))) × Bool × Int × Int) => (szS (fun (x : Int × (List (Int))) => (x.2).length) (x.1)) + (szS (fun (x : Int × (List (Int))) => (x.2).length) (x.2.1)))) (l := ds) (m := m) (by assumption); (try dsimp only at e1); omega))) rfl rfl (.cons rfl (.own rfl) (.agg rfl (.cons .t0 (.cons .t0 (.cons .t0 .nil))) .nil))) ?_
                refine d_take 11 rfl rfl (by kernel_rfl) (by kernel_rfl) (by kernel_rfl) (p_assign rfl) ?_
                refine d_end (by kernel_rfl) ?_
                refine t_endblock ?_
                refine t_region ?_
                refine r_op (o_move rfl rfl) ?_
                refine r_op (o_bin rfl rfl rfl rfl) ?_
                refine r_op (o_assign rfl rfl) ?_
                refine r_end ?_
                have gdf := Option.some.inj (hzf.symm.trans hz24)
                refine t_le ?_ (ih5 (b + 1) (by (try dsimp only); omega) (by (try dsimp only); omega))
                exact ⟨⟨rfl, ⟨rfl, ⟨rfl, ⟨rfl, ⟨rfl, ⟨rfl, ⟨rfl, ⟨rfl, ⟨rfl, ⟨rfl, ⟨rfl, ⟨rfl, ⟨rfl, ⟨(eqI (wr64 (by omega) (by omega))), trivial⟩⟩⟩⟩⟩⟩⟩⟩⟩⟩⟩⟩⟩⟩, ⟨(eqR (by rw [← gdf]; exact addL_snoc hz27)), ⟨rfl, ⟨rfl, ⟨rfl, ⟨rfl, ⟨rfl, trivial⟩⟩⟩⟩⟩⟩, rfl⟩
              ·
                have h22' := of_decide_eq_false h22
                refine t_exit rfl ?_
                refine t_endblock ?_
                refine t_region ?_
                refine r_op (o_move rfl rfl) ?_
                refine r_op (o_bin rfl rfl rfl rfl) ?_
                refine r_op (o_assign rfl rfl) ?_
                refine r_end ?_
                refine t_le ?_ (ih4 (q + 1) (by (try dsimp only); omega) (by (try dsimp only); omega))
                exact ⟨⟨rfl, ⟨rfl, ⟨rfl, ⟨rfl, ⟨rfl, ⟨rfl, ⟨rfl, ⟨rfl, ⟨rfl, ⟨rfl, ⟨rfl, ⟨(eqI (wr64 (by omega) (by omega))), trivial⟩⟩⟩⟩⟩⟩⟩⟩⟩⟩⟩⟩, ⟨(eqR (by rw [List.take_of_length_le (l := placesL rs z3.2.1 z19) (i := b) (by omega), addL_all, fm_step (l := selV false (setI (varsL z3.1)) (setI (varsL z3.2.1))) (m := q) hz20, ← List.append_assoc]; rfl)), ⟨rfl, ⟨rfl, ⟨rfl, ⟨rfl, trivial⟩⟩⟩⟩⟩, rfl⟩
            ·
              have h18' := of_decide_eq_false h18
              refine t_exit rfl ?_
              refine t_endblock ?_
              refine t_region ?_
              refine r_op (o_move rfl rfl) ?_
              refine r_op (o_bin rfl rfl rfl rfl) ?_
              refine r_op (o_assign rfl rfl) ?_
              refine r_end ?_
              refine t_le ?_ (ih2 (p + 1) (by (try dsimp only); omega) (by (try dsimp only); omega))
              exact ⟨⟨rfl, ⟨rfl, ⟨rfl, ⟨rfl, ⟨rfl, ⟨rfl, ⟨rfl, ⟨rfl, ⟨rfl, ⟨rfl, ⟨(eqI (wr64 (by omega) (by omega))), trivial⟩⟩⟩⟩⟩⟩⟩⟩⟩⟩⟩, ⟨(eqR (congrArg putAll (gs_2 (g := edgesF rs z3 z7) (h := edgesX rs z3 ((placesL rs z3.1 z7).getD p 0)) (r := selV false (setI (varsL z3.1)) (setI (varsL z3.2.1))) (N := edgesN rs z3 z7 ((placesL rs z3.1 z7).getD p 0)) hzf (by omega) rfl))), ⟨rfl, ⟨rfl, ⟨rfl, ⟨rfl, trivial⟩⟩⟩⟩⟩, rfl⟩
        ·
          have h10' := of_decide_eq_false h10
          refine t_exit rfl ?_
          refine t_endblock ?_
          refine t_region ?_
          refine r_op (o_move rfl rfl) ?_
          refine r_op (o_bin rfl rfl rfl rfl) ?_
          refine r_op (o_assign rfl rfl) ?_
          refine r_end ?_
          refine t_le ?_ (ih1 (n + 1) (by (try dsimp only); omega) (by (try dsimp only); omega))
          exact ⟨⟨rfl, ⟨rfl, ⟨rfl, ⟨rfl, ⟨rfl, ⟨rfl, ⟨rfl, ⟨(eqI (wr64 (by omega) (by omega))), trivial⟩⟩⟩⟩⟩⟩⟩⟩, ⟨(eqR (congrArg putAll (gs_1 (g := edgesV rs z3) (l := selV true (setI (varsL z3.1)) (setI (varsL z3.2.1))) (m := n) (h := edgesF rs z3 z7) (r := placesL rs z3.1 z7) hz8 (by omega) rfl))), ⟨rfl, ⟨rfl, trivial⟩⟩⟩, rfl⟩
      ·
        have h6' := of_decide_eq_false h6
        refine t_exit rfl ?_
        refine t_endblock ?_
        refine t_region ?_
        refine r_op (o_move rfl rfl) ?_
        refine r_op (o_bin rfl rfl rfl rfl) ?_
        refine r_op (o_assign rfl rfl) ?_
        refine r_end ?_
        refine t_le ?_ (ih0 (m + 1) (by (try dsimp only); omega) (by (try dsimp only); exact ⟨by omega, .inl (by assumption)⟩))
        exact ⟨⟨rfl, ⟨rfl, ⟨rfl, ⟨rfl, ⟨(eqI (wr64 (by omega) (by omega))), trivial⟩⟩⟩⟩⟩, ⟨(eqR (congrArg putAll (gs_0 (g := edgesD rs) (h := edgesV rs z3) (r := selV true (setI (varsL z3.1)) (setI (varsL z3.2.1))) hz4 (by omega) rfl))), trivial⟩, rfl⟩
    ·
      have h2' := h2
      refine t_exit rfl ?_
      refine t_seq ?_
      refine t_region ?_
      refine r_op (o_move rfl rfl) ?_
      refine r_op (o_assign rfl rfl) ?_
      refine r_end ?_
      refine t_ret Tryd.func21 (.tmp rfl .nil) rfl fun E S w u hI hd => ?_
      refine post_mk hI hd ?_ ⟨eqR ?_, trivial⟩ rfl rfl rfl <;> clear hI hd <;> (try clear ih0) <;> (try clear ih1) <;> (try clear ih2) <;> (try clear ih3) <;> (try clear ih4) <;> (try clear ih5)
      all_goals first | rfl | (first | exact graph_no (by assumption) | exact graph_yes (by assumption) (by omega) | (rcases i2 with e | e <;> first | exact graph_yes e (by omega) | (exfalso; simp_all; done) | (subst e; cases hg : depsOk rs ds <;> first | exact graph_no hg | exact graph_yes hg (by omega)) | (subst e; exact graph_no (by assumption))))
  ·
    have g1' := of_decide_eq_false g1
    refine r_guard rfl rfl rfl (ncf g1) (fun _ => ?_)
    refine r_guard rfl rfl rfl (ncf g1) (fun _ => ?_)
    refine r_op (o_pickF rfl rfl g1 rfl) ?_
    refine r_end ?_
    refine t_cond rfl (ncf rfl) (fun _ => ?_)
    refine t_exit rfl ?_
    refine t_seq ?_
    refine t_region ?_
    refine r_op (o_move rfl rfl) ?_
    refine r_op (o_assign rfl rfl) ?_
    refine r_end ?_
    refine t_ret Tryd.func21 (.tmp rfl .nil) rfl fun E S w u hI hd => ?_
    refine post_mk hI hd ?_ ⟨eqR ?_, trivial⟩ rfl rfl rfl <;> clear hI hd <;> (try clear ih0) <;> (try clear ih1) <;> (try clear ih2) <;> (try clear ih3) <;> (try clear ih4) <;> (try clear ih5)
    all_goals first | rfl | (first | exact graph_no (by assumption) | exact graph_yes (by assumption) (by omega) | (rcases i2 with e | e <;> first | exact graph_yes e (by omega) | (exfalso; simp_all; done) | (subst e; cases hg : depsOk rs ds <;> first | exact graph_no hg | exact graph_yes hg (by omega)) | (subst e; exact graph_no (by assumption))))
set_option maxHeartbeats 1000000 in
set_option maxRecDepth 10000 in
theorem c_spec_DrawIsReachable (code : List Int) (hc : code.length ≤ 1048576) : PuG Tryd.prog 7 [.c (.t none (.sl 1 encU (code)))] (fun (⟨n, es, a, b⟩ : Int × (List Edg) × Int × Int) => (-1 ≤ n ∧ n ≤ 31) ∧ es.length ≤ 1048576 ∧ (-1 ≤ a ∧ a ≤ 7) ∧ (0 ≤ b ∧ b ≤ 8)) (fun (⟨n, es, a, b⟩ : Int × (List Edg) × Int × Int) => []) 0 (fun (⟨n, es, a, b⟩ : Int × (List Edg) × Int × Int) => .tup [(false, [.t none (.v (.int .i64 (n)))]), (false, [.t none (.sl 3 (enS3 encI encI encB) (es))]), (false, [.t none (.v (.int .i64 (a)))]), (false, [.t none (.v (.int .i64 (b)))])]) := by
  refine pu_enterG Tryd.func7 rfl (Nat.le_of_ble_eq_true rfl) fun w S => ?_
  refine t_seq ?_
  refine t_region ?_
  refine r_op (o_assign rfl rfl) ?_
  refine r_op (o_assign rfl rfl) ?_
  refine r_op (o_assign rfl rfl) ?_
  refine r_op (o_assign rfl rfl) ?_
  refine r_end ?_
  refine t_seq ?_
  refine t_region ?_
  refine r_op (o_move rfl rfl) ?_
  refine r_opX (o_callG 0 1 (Go.Proofs.enters_of Tryd.func15 (by kernel_rfl) rfl) (c_spec_l1New (code) (by first | omega | assumption | (unfold okI; omega) | (rw [sigs5_len]; omega) | (simp only [List.length_cons, List.length_nil]; omega) | (have e1 := dep6_sz (ds := _) (by assumption) (by assumption); omega))) rfl (.cons rfl (.c .t0) .nil) rfl rfl) ?_
  rintro ⟨h1, hq2⟩
  try dsimp only at hq2
  try dsimp only
  refine r_op (o_assign rfl rfl) ?_
  refine r_end ?_
  refine t_seq ?_
  refine t_region ?_
  refine r_op (o_move rfl rfl) ?_
  refine r_opX (o_callG 1 1 (Go.Proofs.enters_of Tryd.func20 (by kernel_rfl) rfl) (c_spec_DrawAreValidDependencies (code) (by first | omega | assumption | (unfold okI; omega) | (rw [sigs5_len]; omega) | (simp only [List.length_cons, List.length_nil]; omega) | (have e1 := dep6_sz (ds := _) (by assumption) (by assumption); omega))) rfl (.cons rfl (.c .t0) .nil) rfl rfl) ?_
  rintro ⟨ds4, hq5⟩
  try dsimp only at hq5
  try dsimp only
  obtain ⟨q6, q7⟩ := hq5
  refine r_op (o_move rfl rfl) ?_
  refine r_op (o_extract rfl rfl rfl rfl) ?_
  refine r_op (o_extract rfl rfl rfl rfl) ?_
  refine r_op (o_assign rfl rfl) ?_
  refine r_op (o_assign rfl rfl) ?_
  refine r_end ?_
  refine t_seq ?_
  refine t_region ?_
  refine r_op (o_move rfl rfl) ?_
  refine r_op (o_move rfl rfl) ?_
  refine r_op (o_call 1 2 false (Go.Proofs.enters_of Tryd.func21 (by kernel_rfl) rfl) (c_spec_PositionGraph (sigs5) ((ds4)) (by first | omega | assumption | (unfold okI; omega) | (rw [sigs5_len]; omega) | (simp only [List.length_cons, List.length_nil]; omega) | (have e1 := dep6_sz (ds := ds4) (by assumption) (by assumption); omega)) (by first | omega | assumption | (unfold okI; omega) | (rw [sigs5_len]; omega) | (simp only [List.length_cons, List.length_nil]; omega) | (have e1 := dep6_sz (ds := ds4) (by assumption) (by assumption); omega))) rfl (.cons rfl (.c .t0) (.cons rfl (.c .t0) .nil)) rfl rfl rfl) ?_
  refine r_op (o_assign rfl rfl) ?_
  refine r_end ?_
  refine t_seq ?_
  refine t_seq ?_
  refine t_region ?_
  refine r_op (o_move rfl rfl) ?_
  refine r_op (o_leno rfl rfl rfl rfl) ?_
  refine r_op (o_bin rfl rfl rfl rfl) ?_
  refine r_op (o_move rfl rfl) ?_
  refine r_guard rfl rfl rfl (fun g8 => ?_) (fun g8 => ?_)
  ·
    have g8' := of_decide_eq_true g8
    refine r_op (o_move rfl rfl) ?_
    refine r_guard rfl rfl rfl (fun _ => ?_) (nc g8)
    refine r_opX (o_callGM 0 2 3 (pv := none) (Go.Proofs.enters_of Tryd.func22 (by kernel_rfl) rfl) (c_spec_l1Once ((code)) (0) ((h1)) (10) (by first | omega | assumption | (unfold okI; omega) | (rw [sigs5_len]; omega) | (simp only [List.length_cons, List.length_nil]; omega) | (have e1 := dep6_sz (ds := ds4) (by assumption) (by assumption); omega)) (by first | omega | assumption | (unfold okI; omega) | (rw [sigs5_len]; omega) | (simp only [List.length_cons, List.length_nil]; omega) | (have e1 := dep6_sz (ds := ds4) (by assumption) (by assumption); omega)) (by first | omega | assumption | (unfold okI; omega) | (rw [sigs5_len]; omega) | (simp only [List.length_cons, List.length_nil]; omega) | (have e1 := dep6_sz (ds := ds4) (by assumption) (by assumption); omega)) (by first | omega | assumption | (unfold okI; omega) | (rw [sigs5_len]; omega) | (simp only [List.length_cons, List.length_nil]; omega) | (have e1 := dep6_sz (ds := ds4) (by assumption) (by assumption); omega)) (by first | omega | assumption | (unfold okI; omega) | (rw [sigs5_len]; omega) | (simp only [List.length_cons, List.length_nil]; omega) | (have e1 := dep6_sz (ds := ds4) (by assumption) (by assumption); omega))) rfl rfl (.cur rfl (.cons rfl .nil)) rfl (fun ⟨_, _, _⟩ => rfl) (fun _ => rfl) (fun ⟨_, _, _⟩ => rfl) rfl rfl) ?_
    rintro ⟨⟨b9, i210, h211⟩, hq12⟩
    try dsimp only at hq12
    try dsimp only
    refine r_op (o_pickT rfl rfl g8 rfl) ?_
    refine r_end ?_
    refine t_cond rfl (fun h14 => ?_) (fun h14 => ?_)
    ·
      have h14' := h14
      refine t_region ?_
      refine r_op (o_move rfl rfl) ?_
      refine r_op (o_move rfl rfl) ?_
      refine r_op (o_litS 3 (e := 3) (sz := 1) (zs := [.int .i64 (0)]) rfl rfl (by kernel_rfl) rfl rfl rfl rfl rfl) ?_
      refine r_freezeB 3 (enc := encI) ([-1, 8, 30]) rfl (.cons (.cons (.cons .nil))) (frz_pu rfl) ?_
      refine r_opX (o_callGM 0 4 5 (pv := none) (Go.Proofs.enters_of Tryd.func23 (by kernel_rfl) rfl) (c_spec_l1PickInt (((code))) ((i210)) ((h211)) ([-1, 8, 30]) (by first | omega | assumption | (unfold okI; omega) | (rw [sigs5_len]; omega) | (simp only [List.length_cons, List.length_nil]; omega) | (have e1 := dep6_sz (ds := ds4) (by assumption) (by assumption); omega)) (by first | omega | assumption | (unfold okI; omega) | (rw [sigs5_len]; omega) | (simp only [List.length_cons, List.length_nil]; omega) | (have e1 := dep6_sz (ds := ds4) (by assumption) (by assumption); omega)) (by first | omega | assumption | (unfold okI; omega) | (rw [sigs5_len]; omega) | (simp only [List.length_cons, List.length_nil]; omega) | (have e1 := dep6_sz (ds := ds4) (by assumption) (by assumption); omega)) (by first | omega | assumption | (unfold okI; omega) | (rw [sigs5_len]; omega) | (simp only [List.length_cons, List.length_nil]; omega) | (have e1 := dep6_sz (ds := ds4) (by assumption) (by assumption); omega)) (by first | omega | assumption | (unfold okI; omega) | (rw [sigs5_len]; omega) | (simp only [List.length_cons, List.length_nil]; omega) | (have e1 := dep6_sz (ds := ds4) (by assumption) (by assumption); omega))) rfl rfl (.cur rfl (.cons rfl .nil)) rfl (fun ⟨_, _, _⟩ => rfl) (fun _ => rfl) (fun ⟨_, _, _⟩ => rfl) rfl rfl) ?_
      rintro ⟨⟨x15, i216, h217⟩, hq18⟩
      try dsimp only at hq18
      try dsimp only
      obtain ⟨q19, q20⟩ := hq18
      obtain ⟨z21, hz22, b23⟩ := at_get (xs := graphL (sigs5) ((ds4))) (n := 0) (by first | omega | assumption | (unfold okI; omega) | (rw [sigs5_len]; omega) | (simp only [List.length_cons, List.length_nil]; omega) | (have e1 := dep6_sz (ds := ds4) (by assumption) (by assumption); omega)) (by first | omega | assumption | (unfold okI; omega) | (rw [sigs5_len]; omega) | (simp only [List.length_cons, List.length_nil]; omega) | (have e1 := dep6_sz (ds := ds4) (by assumption) (by assumption); omega))
      refine r_op (o_indexo rfl (by kernel_rfl) rfl rfl rfl b23 (at_lt b23 hz22)) ?_
      refine r_op (o_fieldo rfl (off := 1) (by kernel_rfl) rfl) ?_
      refine r_op (o_storeo ((z21.1, (x15), z21.2.2)) (n := 1) (by kernel_rfl) rfl rfl hz22 rfl rfl rfl rfl (.cons .sc .nil) rfl (fun j h1 h2 => by (have : j = 0 ∨ j = 1 ∨ j = 2 ∨ j = 3 ∨ j = 4 := by omega); rcases this with rfl | rfl | rfl | rfl | rfl <;> first | rfl | omega | (simp at h2; done))) ?_
      refine r_end ?_
      refine t_seq ?_
      refine t_region ?_
      refine r_op (o_move rfl rfl) ?_
      refine r_op (o_litS 5 (e := 3) (sz := 1) (zs := [.int .i64 (0)]) rfl rfl (by kernel_rfl) rfl rfl rfl rfl rfl) ?_
      refine r_freezeB 5 (enc := encI) ([8, 8, 8, 4, 31, -1]) rfl (.cons (.cons (.cons (.cons (.cons (.cons .nil)))))) (frz_pu rfl) ?_
      refine r_opX (o_callGM 0 6 7 (pv := none) (Go.Proofs.enters_of Tryd.func23 (by kernel_rfl) rfl) (c_spec_l1PickInt ((((code)))) ((i216)) ((h217)) ([8, 8, 8, 4, 31, -1]) (by first | omega | assumption | (unfold okI; omega) | (rw [sigs5_len]; omega) | (simp only [List.length_cons, List.length_nil]; omega) | (have e1 := dep6_sz (ds := ds4) (by assumption) (by assumption); omega)) (by first | omega | assumption | (unfold okI; omega) | (rw [sigs5_len]; omega) | (simp only [List.length_cons, List.length_nil]; omega) | (have e1 := dep6_sz (ds := ds4) (by assumption) (by assumption); omega)) (by first | omega | assumption | (unfold okI; omega) | (rw [sigs5_len]; omega) | (simp only [List.length_cons, List.length_nil]; omega) | (have e1 := dep6_sz (ds := ds4) (by assumption) (by assumption); omega)) (by first | omega | assumption | (unfold okI; omega) | (rw [sigs5_len]; omega) | (simp only [List.length_cons, List.length_nil]; omega) | (have e1 := dep6_sz (ds := ds4) (by assumption) (by assumption); omega)) (by first | omega | assumption | (unfold okI; omega) | (rw [sigs5_len]; omega) | (simp only [List.length_cons, List.length_nil]; omega) | (have e1 := dep6_sz (ds := ds4) (by assumption) (by assumption); omega))) rfl rfl (.cur rfl (.cons rfl .nil)) rfl (fun ⟨_, _, _⟩ => rfl) (fun _ => rfl) (fun ⟨_, _, _⟩ => rfl) rfl rfl) ?_
      rintro ⟨⟨x24, i225, h226⟩, hq27⟩
      try dsimp only at hq27
      try dsimp only
      obtain ⟨q28, q29⟩ := hq27
      refine r_op (o_move rfl rfl) ?_
      refine r_op (o_move rfl rfl) ?_
      refine r_opX (o_callGM 0 7 8 (pv := none) (Go.Proofs.enters_of Tryd.func17 (by kernel_rfl) rfl) (c_spec_l1Below (((((code))))) ((i225)) ((h226)) (9) (by first | omega | assumption | (unfold okI; omega) | (rw [sigs5_len]; omega) | (simp only [List.length_cons, List.length_nil]; omega) | (have e1 := dep6_sz (ds := ds4) (by assumption) (by assumption); omega)) (by first | omega | assumption | (unfold okI; omega) | (rw [sigs5_len]; omega) | (simp only [List.length_cons, List.length_nil]; omega) | (have e1 := dep6_sz (ds := ds4) (by assumption) (by assumption); omega)) (by first | omega | assumption | (unfold okI; omega) | (rw [sigs5_len]; omega) | (simp only [List.length_cons, List.length_nil]; omega) | (have e1 := dep6_sz (ds := ds4) (by assumption) (by assumption); omega)) (by first | omega | assumption | (unfold okI; omega) | (rw [sigs5_len]; omega) | (simp only [List.length_cons, List.length_nil]; omega) | (have e1 := dep6_sz (ds := ds4) (by assumption) (by assumption); omega)) (by first | omega | assumption | (unfold okI; omega) | (rw [sigs5_len]; omega) | (simp only [List.length_cons, List.length_nil]; omega) | (have e1 := dep6_sz (ds := ds4) (by assumption) (by assumption); omega))) rfl rfl (.cur rfl (.cons rfl .nil)) rfl (fun ⟨_, _, _⟩ => rfl) (fun _ => rfl) (fun ⟨_, _, _⟩ => rfl) rfl rfl) ?_
      rintro ⟨⟨x30, i231, h232⟩, hq33⟩
      try dsimp only at hq33
      try dsimp only
      obtain ⟨q34, q35⟩ := hq33
      refine r_op (o_bin rfl rfl rfl rfl) ?_
      refine r_op (o_move rfl rfl) ?_
      refine r_opX (o_callGM 0 8 9 (pv := none) (Go.Proofs.enters_of Tryd.func17 (by kernel_rfl) rfl) (c_spec_l1Below ((((((code)))))) ((i231)) ((h232)) (9) (by first | omega | assumption | (unfold okI; omega) | (rw [sigs5_len]; omega) | (simp only [List.length_cons, List.length_nil]; omega) | (have e1 := dep6_sz (ds := ds4) (by assumption) (by assumption); omega)) (by first | omega | assumption | (unfold okI; omega) | (rw [sigs5_len]; omega) | (simp only [List.length_cons, List.length_nil]; omega) | (have e1 := dep6_sz (ds := ds4) (by assumption) (by assumption); omega)) (by first | omega | assumption | (unfold okI; omega) | (rw [sigs5_len]; omega) | (simp only [List.length_cons, List.length_nil]; omega) | (have e1 := dep6_sz (ds := ds4) (by assumption) (by assumption); omega)) (by first | omega | assumption | (unfold okI; omega) | (rw [sigs5_len]; omega) | (simp only [List.length_cons, List.length_nil]; omega) | (have e1 := dep6_sz (ds := ds4) (by assumption) (by assumption); omega)) (by first | omega | assumption | (unfold okI; omega) | (rw [sigs5_len]; omega) | (simp only [List.length_cons, List.length_nil]; omega) | (have e1 := dep6_sz (ds := ds4) (by assumption) (by assumption); omega))) rfl rfl (.cur rfl (.cons rfl .nil)) rfl (fun ⟨_, _, _⟩ => rfl) (fun _ => rfl) (fun ⟨_, _, _⟩ => rfl) rfl rfl) ?_
      rintro ⟨⟨x36, i237, h238⟩, hq39⟩
      try dsimp only at hq39
      try dsimp only
      obtain ⟨q40, q41⟩ := hq39
      refine r_op (o_assign rfl rfl) ?_
      refine r_op (o_assign rfl rfl) ?_
      refine r_op (o_assign rfl rfl) ?_
      refine r_op (o_assign rfl rfl) ?_
      refine r_end ?_
      refine gt_freeze 1 rfl (frz_pu rfl) ?_
      refine t_ret Tryd.func7 (.tmp rfl (.tmp rfl (.tmp rfl (.tmp rfl .nil)))) rfl fun E S w u hI hd => ?_
      refine post_mkG (⟨(x24), (graphL (sigs5) ((ds4))).set ((0 : Int)).toNat ((z21.1, (x15), z21.2.2)), IntKind.i64.wrap ((x30) - 1), (x36)⟩) ?_ hI hd ?_ trivial rfl rfl <;> clear hI hd
      · (try dsimp only) <;> ((have e1 := pickN (by assumption)); (have e2 := graph_len (rs := sigs5) (ds := ds4)); refine ⟨by omega, by (try simp only [List.length_set]); omega, by ((try simp only [IntKind.wrap_i64] at *); omega), by ((try simp only [IntKind.wrap_i64] at *); omega)⟩)
      · rfl
    ·
      have h14' := h14
      refine t_skip ?_
      refine t_seq ?_
      refine t_region ?_
      refine r_op (o_move rfl rfl) ?_
      refine r_op (o_litS 3 (e := 3) (sz := 1) (zs := [.int .i64 (0)]) rfl rfl (by kernel_rfl) rfl rfl rfl rfl rfl) ?_
      refine r_freezeB 3 (enc := encI) ([8, 8, 8, 4, 31, -1]) rfl (.cons (.cons (.cons (.cons (.cons (.cons .nil)))))) (frz_pu rfl) ?_
      refine r_opX (o_callGM 0 4 5 (pv := none) (Go.Proofs.enters_of Tryd.func23 (by kernel_rfl) rfl) (c_spec_l1PickInt (((code))) ((i210)) ((h211)) ([8, 8, 8, 4, 31, -1]) (by first | omega | assumption | (unfold okI; omega) | (rw [sigs5_len]; omega) | (simp only [List.length_cons, List.length_nil]; omega) | (have e1 := dep6_sz (ds := ds4) (by assumption) (by assumption); omega)) (by first | omega | assumption | (unfold okI; omega) | (rw [sigs5_len]; omega) | (simp only [List.length_cons, List.length_nil]; omega) | (have e1 := dep6_sz (ds := ds4) (by assumption) (by assumption); omega)) (by first | omega | assumption | (unfold okI; omega) | (rw [sigs5_len]; omega) | (simp only [List.length_cons, List.length_nil]; omega) | (have e1 := dep6_sz (ds := ds4) (by assumption) (by assumption); omega)) (by first | omega | assumption | (unfold okI; omega) | (rw [sigs5_len]; omega) | (simp only [List.length_cons, List.length_nil]; omega) | (have e1 := dep6_sz (ds := ds4) (by assumption) (by assumption); omega)) (by first | omega | assumption | (unfold okI; omega) | (rw [sigs5_len]; omega) | (simp only [List.length_cons, List.length_nil]; omega) | (have e1 := dep6_sz (ds := ds4) (by assumption) (by assumption); omega))) rfl rfl (.cur rfl (.cons rfl .nil)) rfl (fun ⟨_, _, _⟩ => rfl) (fun _ => rfl) (fun ⟨_, _, _⟩ => rfl) rfl rfl) ?_
      rintro ⟨⟨x42, i243, h244⟩, hq45⟩
      try dsimp only at hq45
      try dsimp only
      obtain ⟨q46, q47⟩ := hq45
      refine r_op (o_move rfl rfl) ?_
      refine r_op (o_move rfl rfl) ?_
      refine r_opX (o_callGM 0 5 6 (pv := none) (Go.Proofs.enters_of Tryd.func17 (by kernel_rfl) rfl) (c_spec_l1Below ((((code)))) ((i243)) ((h244)) (9) (by first | omega | assumption | (unfold okI; omega) | (rw [sigs5_len]; omega) | (simp only [List.length_cons, List.length_nil]; omega) | (have e1 := dep6_sz (ds := ds4) (by assumption) (by assumption); omega)) (by first | omega | assumption | (unfold okI; omega) | (rw [sigs5_len]; omega) | (simp only [List.length_cons, List.length_nil]; omega) | (have e1 := dep6_sz (ds := ds4) (by assumption) (by assumption); omega)) (by first | omega | assumption | (unfold okI; omega) | (rw [sigs5_len]; omega) | (simp only [List.length_cons, List.length_nil]; omega) | (have e1 := dep6_sz (ds := ds4) (by assumption) (by assumption); omega)) (by first | omega | assumption | (unfold okI; omega) | (rw [sigs5_len]; omega) | (simp only [List.length_cons, List.length_nil]; omega) | (have e1 := dep6_sz (ds := ds4) (by assumption) (by assumption); omega)) (by first | omega | assumption | (unfold okI; omega) | (rw [sigs5_len]; omega) | (simp only [List.length_cons, List.length_nil]; omega) | (have e1 := dep6_sz (ds := ds4) (by assumption) (by assumption); omega))) rfl rfl (.cur rfl (.cons rfl .nil)) rfl (fun ⟨_, _, _⟩ => rfl) (fun _ => rfl) (fun ⟨_, _, _⟩ => rfl) rfl rfl) ?_
      rintro ⟨⟨x48, i249, h250⟩, hq51⟩
      try dsimp only at hq51
      try dsimp only
      obtain ⟨q52, q53⟩ := hq51
      refine r_op (o_bin rfl rfl rfl rfl) ?_
      refine r_op (o_move rfl rfl) ?_
      refine r_opX (o_callGM 0 6 7 (pv := none) (Go.Proofs.enters_of Tryd.func17 (by kernel_rfl) rfl) (c_spec_l1Below (((((code))))) ((i249)) ((h250)) (9) (by first | omega | assumption | (unfold okI; omega) | (rw [sigs5_len]; omega) | (simp only [List.length_cons, List.length_nil]; omega) | (have e1 := dep6_sz (ds := ds4) (by assumption) (by assumption); omega)) (by first | omega | assumption | (unfold okI; omega) | (rw [sigs5_len]; omega) | (simp only [List.length_cons, List.length_nil]; omega) | (have e1 := dep6_sz (ds := ds4) (by assumption) (by assumption); omega)) (by first | omega | assumption | (unfold okI; omega) | (rw [sigs5_len]; omega) | (simp only [List.length_cons, List.length_nil]; omega) | (have e1 := dep6_sz (ds := ds4) (by assumption) (by assumption); omega)) (by first | omega | assumption | (unfold okI; omega) | (rw [sigs5_len]; omega) | (simp only [List.length_cons, List.length_nil]; omega) | (have e1 := dep6_sz (ds := ds4) (by assumption) (by assumption); omega)) (by first | omega | assumption | (unfold okI; omega) | (rw [sigs5_len]; omega) | (simp only [List.length_cons, List.length_nil]; omega) | (have e1 := dep6_sz (ds := ds4) (by assumption) (by assumption); omega))) rfl rfl (.cur rfl (.cons rfl .nil)) rfl (fun ⟨_, _, _⟩ => rfl) (fun _ => rfl) (fun ⟨_, _, _⟩ => rfl) rfl rfl) ?_
      rintro ⟨⟨x54, i255, h256⟩, hq57⟩
      try dsimp only at hq57
      try dsimp only
      obtain ⟨q58, q59⟩ := hq57
      refine r_op (o_assign rfl rfl) ?_
      refine r_op (o_assign rfl rfl) ?_
      refine r_op (o_assign rfl rfl) ?_
      refine r_op (o_assign rfl rfl) ?_
      refine r_end ?_
      refine gt_freeze 1 rfl (frz_pu rfl) ?_
      refine t_ret Tryd.func7 (.tmp rfl (.tmp rfl (.tmp rfl (.tmp rfl .nil)))) rfl fun E S w u hI hd => ?_
      refine post_mkG (⟨(x42), graphL (sigs5) ((ds4)), IntKind.i64.wrap ((x48) - 1), (x54)⟩) ?_ hI hd ?_ trivial rfl rfl <;> clear hI hd
      · (try dsimp only) <;> ((have e1 := pickN (by assumption)); (have e2 := graph_len (rs := sigs5) (ds := ds4)); refine ⟨by omega, by (try simp only [List.length_set]); omega, by ((try simp only [IntKind.wrap_i64] at *); omega), by ((try simp only [IntKind.wrap_i64] at *); omega)⟩)
      · rfl
  ·
    have g8' := of_decide_eq_false g8
    refine r_guard rfl rfl rfl (ncf g8) (fun _ => ?_)
    refine r_op (o_pickF rfl rfl g8 rfl) ?_
    refine r_end ?_
    refine t_cond rfl (ncf rfl) (fun _ => ?_)
    refine t_skip ?_
    refine t_seq ?_
    refine t_region ?_
    refine r_op (o_move rfl rfl) ?_
    refine r_op (o_litS 2 (e := 3) (sz := 1) (zs := [.int .i64 (0)]) rfl rfl (by kernel_rfl) rfl rfl rfl rfl rfl) ?_
    refine r_freezeB 2 (enc := encI) ([8, 8, 8, 4, 31, -1]) rfl (.cons (.cons (.cons (.cons (.cons (.cons .nil)))))) (frz_pu rfl) ?_
    refine r_opX (o_callGM 0 3 4 (pv := none) (Go.Proofs.enters_of Tryd.func23 (by kernel_rfl) rfl) (c_spec_l1PickInt ((code)) (0) ((h1)) ([8, 8, 8, 4, 31, -1]) (by first | omega | assumption | (unfold okI; omega) | (rw [sigs5_len]; omega) | (simp only [List.length_cons, List.length_nil]; omega) | (have e1 := dep6_sz (ds := ds4) (by assumption) (by assumption); omega)) (by first | omega | assumption | (unfold okI; omega) | (rw [sigs5_len]; omega) | (simp only [List.length_cons, List.length_nil]; omega) | (have e1 := dep6_sz (ds := ds4) (by assumption) (by assumption); omega)) (by first | omega | assumption | (unfold okI; omega) | (rw [sigs5_len]; omega) | (simp only [List.length_cons, List.length_nil]; omega) | (have e1 := dep6_sz (ds := ds4) (by assumption) (by assumption); omega)) (by first | omega | assumption | (unfold okI; omega) | (rw [sigs5_len]; omega) | (simp only [List.length_cons, List.length_nil]; omega) | (have e1 := dep6_sz (ds := ds4) (by assumption) (by assumption); omega)) (by first | omega | assumption | (unfold okI; omega) | (rw [sigs5_len]; omega) | (simp only [List.length_cons, List.length_nil]; omega) | (have e1 := dep6_sz (ds := ds4) (by assumption) (by assumption); omega))) rfl rfl (.cur rfl (.cons rfl .nil)) rfl (fun ⟨_, _, _⟩ => rfl) (fun _ => rfl) (fun ⟨_, _, _⟩ => rfl) rfl rfl) ?_
    rintro ⟨⟨x60, i261, h262⟩, hq63⟩
    try dsimp only at hq63
    try dsimp only
    obtain ⟨q64, q65⟩ := hq63
    refine r_op (o_move rfl rfl) ?_
    refine r_op (o_move rfl rfl) ?_
    refine r_opX (o_callGM 0 4 5 (pv := none) (Go.Proofs.enters_of Tryd.func17 (by kernel_rfl) rfl) (c_spec_l1Below (((code))) ((i261)) ((h262)) (9) (by first | omega | assumption | (unfold okI; omega) | (rw [sigs5_len]; omega) | (simp only [List.length_cons, List.length_nil]; omega) | (have e1 := dep6_sz (ds := ds4) (by assumption) (by assumption); omega)) (by first | omega | assumption | (unfold okI; omega) | (rw [sigs5_len]; omega) | (simp only [List.length_cons, List.length_nil]; omega) | (have e1 := dep6_sz (ds := ds4) (by assumption) (by assumption); omega)) (by first | omega | assumption | (unfold okI; omega) | (rw [sigs5_len]; omega) | (simp only [List.length_cons, List.length_nil]; omega) | (have e1 := dep6_sz (ds := ds4) (by assumption) (by assumption); omega)) (by first | omega | assumption | (unfold okI; omega) | (rw [sigs5_len]; omega) | (simp only [List.length_cons, List.length_nil]; omega) | (have e1 := dep6_sz (ds := ds4) (by assumption) (by assumption); omega)) (by first | omega | assumption | (unfold okI; omega) | (rw [sigs5_len]; omega) | (simp only [List.length_cons, List.length_nil]; omega) | (have e1 := dep6_sz (ds := ds4) (by assumption) (by assumption); omega))) rfl rfl (.cur rfl (.cons rfl .nil)) rfl (fun ⟨_, _, _⟩ => rfl) (fun _ => rfl) (fun ⟨_, _, _⟩ => rfl) rfl rfl) ?_
    rintro ⟨⟨x66, i267, h268⟩, hq69⟩
    try dsimp only at hq69
    try dsimp only
    obtain ⟨q70, q71⟩ := hq69
    refine r_op (o_bin rfl rfl rfl rfl) ?_
    refine r_op (o_move rfl rfl) ?_
    refine r_opX (o_callGM 0 5 6 (pv := none) (Go.Proofs.enters_of Tryd.func17 (by kernel_rfl) rfl) (c_spec_l1Below ((((code)))) ((i267)) ((h268)) (9) (by first | omega | assumption | (unfold okI; omega) | (rw [sigs5_len]; omega) | (simp only [List.length_cons, List.length_nil]; omega) | (have e1 := dep6_sz (ds := ds4) (by assumption) (by assumption); omega)) (by first | omega | assumption | (unfold okI; omega) | (rw [sigs5_len]; omega) | (simp only [List.length_cons, List.length_nil]; omega) | (have e1 := dep6_sz (ds := ds4) (by assumption) (by assumption); omega)) (by first | omega | assumption | (unfold okI; omega) | (rw [sigs5_len]; omega) | (simp only [List.length_cons, List.length_nil]; omega) | (have e1 := dep6_sz (ds := ds4) (by assumption) (by assumption); omega)) (by first | omega | assumption | (unfold okI; omega) | (rw [sigs5_len]; omega) | (simp only [List.length_cons, List.length_nil]; omega) | (have e1 := dep6_sz (ds := ds4) (by assumption) (by assumption); omega)) (by first | omega | assumption | (unfold okI; omega) | (rw [sigs5_len]; omega) | (simp only [List.length_cons, List.length_nil]; omega) | (have e1 := dep6_sz (ds := ds4) (by assumption) (by assumption); omega))) rfl rfl (.cur rfl (.cons rfl .nil)) rfl (fun ⟨_, _, _⟩ => rfl) (fun _ => rfl) (fun ⟨_, _, _⟩ => rfl) rfl rfl) ?_
    rintro ⟨⟨x72, i273, h274⟩, hq75⟩
    try dsimp only at hq75
    try dsimp only
    obtain ⟨q76, q77⟩ := hq75
    refine r_op (o_assign rfl rfl) ?_
    refine r_op (o_assign rfl rfl) ?_
    refine r_op (o_assign rfl rfl) ?_
    refine r_op (o_assign rfl rfl) ?_
    refine r_end ?_
    refine gt_freeze 1 rfl (frz_pu rfl) ?_
    refine t_ret Tryd.func7 (.tmp rfl (.tmp rfl (.tmp rfl (.tmp rfl .nil)))) rfl fun E S w u hI hd => ?_
    refine post_mkG (⟨(x60), graphL (sigs5) ((ds4)), IntKind.i64.wrap ((x66) - 1), (x72)⟩) ?_ hI hd ?_ trivial rfl rfl <;> clear hI hd
    · (try dsimp only) <;> ((have e1 := pickN (by assumption)); (have e2 := graph_len (rs := sigs5) (ds := ds4)); refine ⟨by omega, by (try simp only [List.length_set]); omega, by ((try simp only [IntKind.wrap_i64] at *); omega), by ((try simp only [IntKind.wrap_i64] at *); omega)⟩)
    · rfl
set_option maxHeartbeats 1000000 in
set_option maxRecDepth 10000 in
theorem c_impl_IsReachable (n : Int) (es : List Edg) (a b : Int) (hes : es.length ≤ 4611686018427387904) : Pu Tryd.prog 8 [.c (.t none (.v (.int .i64 (n)))), .c (.t none (.sl 3 (enS3 encI encI encB) (es))), .c (.t none (.v (.int .i64 (a)))), .c (.t none (.v (.int .i64 (b))))] [] 0 (.c (.t none (.v (.bool (reachB n es a b))))) := by
  refine pu_enter Tryd.func8 rfl (Nat.le_of_ble_eq_true rfl) fun w S => ?_
  refine t_seq ?_
  refine t_region ?_
  refine r_op (o_assign rfl rfl) ?_
  refine r_end ?_
  refine t_seq ?_
  refine t_seq ?_
  refine t_region ?_
  refine r_op (o_move rfl rfl) ?_
  refine r_op (o_call 0 0 false (Go.Proofs.enters_of Tryd.func19 (by kernel_rfl) rfl) (c_impl_within (n) (0) (30)) rfl (.cons rfl (.c .t0) (.cons rfl (.c .t0) (.cons rfl (.c .t0) .nil))) rfl rfl rfl) ?_
  refine r_op (o_not rfl rfl) ?_
  refine r_op (o_move rfl rfl) ?_
  refine r_guard rfl rfl rfl (fun g1 => ?_) (fun g1 => ?_)
  ·
    have g1' := of_decide_eq_true (bnf g1)
    refine r_op (o_move rfl rfl) ?_
    refine r_guard rfl rfl rfl (fun _ => ?_) (ncf g1)
    refine r_op (o_move rfl rfl) ?_
    refine r_guard rfl rfl rfl (fun _ => ?_) (ncf g1)
    refine r_op (o_bin rfl rfl rfl rfl) ?_
    refine r_guard rfl rfl rfl (fun _ => ?_) (ncf g1)
    refine r_op (o_call 0 0 false (Go.Proofs.enters_of Tryd.func19 (by kernel_rfl) rfl) (c_impl_within (a) (0) (IntKind.i64.wrap (n - 1))) rfl (.cons rfl (.c .t0) (.cons rfl (.c .t0) (.cons rfl (.c .t0) .nil))) rfl rfl rfl) ?_
    refine r_guard rfl rfl rfl (fun _ => ?_) (ncf g1)
    refine r_op (o_not rfl rfl) ?_
    refine r_op (o_pickF rfl rfl g1 rfl) ?_
    refine r_op (o_move rfl rfl) ?_
    refine r_guard rfl rfl rfl (fun g2 => ?_) (fun g2 => ?_)
    ·
      have g2' := of_decide_eq_true (bnf g2)
      refine r_op (o_move rfl rfl) ?_
      refine r_guard rfl rfl rfl (fun _ => ?_) (ncf g2)
      refine r_op (o_move rfl rfl) ?_
      refine r_guard rfl rfl rfl (fun _ => ?_) (ncf g2)
      refine r_op (o_bin rfl rfl rfl rfl) ?_
      refine r_guard rfl rfl rfl (fun _ => ?_) (ncf g2)
      refine r_op (o_call 0 0 false (Go.Proofs.enters_of Tryd.func19 (by kernel_rfl) rfl) (c_impl_within (b) (0) (IntKind.i64.wrap (n - 1))) rfl (.cons rfl (.c .t0) (.cons rfl (.c .t0) (.cons rfl (.c .t0) .nil))) rfl rfl rfl) ?_
      refine r_guard rfl rfl rfl (fun _ => ?_) (ncf g2)
      refine r_op (o_not rfl rfl) ?_
      refine r_op (o_pickF rfl rfl g2 rfl) ?_
      refine r_end ?_
      refine t_cond rfl (fun h3 => ?_) (fun h3 => ?_)
      ·
        have h3' := of_decide_eq_false (bnt h3)
        refine t_seq ?_
        refine t_region ?_
        refine r_op (o_assign rfl rfl) ?_
        refine r_end ?_
        refine t_ret Tryd.func8 (.tmp rfl .nil) rfl fun E S w u hI hd => ?_
        refine post_mk hI hd ?_ trivial rfl rfl rfl <;> clear hI hd <;> (try clear ih0) <;> (try clear ih1)
        all_goals first | rfl | (refine scB ?_; first | exact reach_no (by (simp only [IntKind.wrap_i64] at *; omega)) | exact reach_no (by omega) | exact reach_yes gd.1 gd.2.1 gd.2.2 (by omega) (by assumption) | exact reach_yes gd.1 gd.2.1 gd.2.2 (by omega) (by assumption) | exact reach_yes gd.1 gd.2.1 gd.2.2 (by omega) (by assumption))
      ·
        have h3' := of_decide_eq_true (bnf h3)
        refine t_skip ?_
        refine t_seq ?_
        refine t_region ?_
        refine r_op (o_move rfl rfl) ?_
        refine r_op (o_make 0 true (et := 4) (sz := 1) (by' := 1) encB (false) (zs := [.bool (false)]) rfl rfl (by kernel_rfl) (by kernel_rfl) rfl rfl (.cons (.v rfl) .nil) rfl rfl (by first | omega | decide | (simp only [IntKind.wrap_i64] at *; omega) | (simp only [List.length_replicate, List.length_set, IntKind.wrap_i64] at *; omega) | (simp; omega)) (by first | omega | decide | (simp only [IntKind.wrap_i64] at *; omega) | (simp only [List.length_replicate, List.length_set, IntKind.wrap_i64] at *; omega) | (simp; omega)) (by first | omega | decide | (simp only [IntKind.wrap_i64] at *; omega) | (simp only [List.length_replicate, List.length_set, IntKind.wrap_i64] at *; omega) | (simp; omega))) ?_
        refine r_op (o_assign rfl rfl) ?_
        refine r_end ?_
        refine t_seq ?_
        refine t_region ?_
        refine r_op (o_move rfl rfl) ?_
        refine r_op (o_move rfl rfl) ?_
        obtain ⟨z4, hz5, b6⟩ := at_get (xs := List.replicate (n).toNat (false)) (n := a) (by first | omega | decide | (simp only [IntKind.wrap_i64] at *; omega) | (simp only [List.length_replicate, List.length_set, IntKind.wrap_i64] at *; omega) | (simp; omega)) (by first | omega | decide | (simp only [IntKind.wrap_i64] at *; omega) | (simp only [List.length_replicate, List.length_set, IntKind.wrap_i64] at *; omega) | (simp; omega))
        refine r_op (o_indexo rfl (by kernel_rfl) rfl rfl rfl b6 (at_lt b6 hz5)) ?_
        refine r_op (o_storeo (true) (n := 1) (by kernel_rfl) rfl rfl hz5 rfl rfl rfl rfl (.cons .sc .nil) rfl (fun j h1 h2 => by simp at h1 h2; omega)) ?_
        refine r_end ?_
        refine t_seq ?_
        refine t_seq ?_
        refine t_region ?_
        refine r_op (o_move rfl rfl) ?_
        refine r_op (o_move rfl rfl) ?_
        refine r_end ?_
        refine t_block ?_
        refine t_loopL (fun m => ⟨[(0, some (.c (.t none (.v (.int .i64 (n)))))), (1, some (.c (.t none (.sl 3 (enS3 encI encI encB) (es))))), (3, some (.c (.t none (.v (.int .i64 (b)))))), (8, some (.c (.t none (.v (.bool (false)))))), (9, some (.c (.own 0))), (34, some (.c (.t none (.v (.int .i64 (n)))))), (35, some (.c (.t none (.v (.int .i64 ((m : Int)))))))], [(0, some (.row none 4 true 1 encB (rnd n es ((List.replicate (n).toNat (false)).set (a).toNat (true)) m)))], 1⟩ : Nat → St) (fun m => m ≤ n.toNat) (fun m => n.toNat - m) 0 ⟨⟨rfl, ⟨rfl, ⟨rfl, ⟨rfl, ⟨rfl, ⟨rfl, ⟨rfl, trivial⟩⟩⟩⟩⟩⟩⟩, ⟨(eqR rfl), trivial⟩, rfl⟩ (by exact Nat.zero_le _) ?_
        rintro m hI ih0
        try dsimp only at hI ih0
        have i1 := hI; have gd : (0 ≤ n ∧ n ≤ 30) ∧ (0 ≤ a ∧ a ≤ n - 1) ∧ (0 ≤ b ∧ b ≤ n - 1) := (by (simp only [IntKind.wrap_i64] at *; omega)); have wn : IntKind.i64.wrap (n - 1) = n - 1 := wr64 (by omega) (by omega); have ql : (rnd n es ((List.replicate (n).toNat (false)).set (a).toNat (true)) m).length = n.toNat := (by rw [rnd_len]; simp)
        refine t_seq ?_
        refine t_region ?_
        refine r_op (o_bin rfl rfl rfl rfl) ?_
        refine r_end ?_
        refine t_seq ?_
        refine t_cond rfl (fun h7 => ?_) (fun h7 => ?_)
        ·
          have h7' := of_decide_eq_true h7
          refine t_skip ?_
          refine t_seq ?_
          refine t_block ?_
          refine t_seq ?_
          refine t_region ?_
          refine r_op (o_move rfl rfl) ?_
          refine r_op (o_len rfl rfl rfl) ?_
          refine r_op (o_move rfl rfl) ?_
          refine r_end ?_
          refine t_block ?_
          refine t_loopL (fun j => ⟨[(0, some (.c (.t none (.v (.int .i64 (n)))))), (1, some (.c (.t none (.sl 3 (enS3 encI encI encB) (es))))), (3, some (.c (.t none (.v (.int .i64 (b)))))), (8, some (.c (.t none (.v (.bool (false)))))), (9, some (.c (.own 0))), (34, some (.c (.t none (.v (.int .i64 (n)))))), (35, some (.c (.t none (.v (.int .i64 ((m : Int))))))), (37, some (.c (.t none (.sl 3 (enS3 encI encI encB) (es))))), (38, some (.c (.t none (.v (.int .i64 (((es).length : Int))))))), (39, some (.c (.t none (.v (.int .i64 ((j : Int)))))))], [(0, some (.row none 4 true 1 encB ((es.take j).foldl (stepE n) (rnd n es ((List.replicate (n).toNat (false)).set (a).toNat (true)) m))))], 1⟩ : Nat → St) (fun j => j ≤ es.length) (fun j => es.length - j) 0 ⟨⟨rfl, ⟨rfl, ⟨rfl, ⟨rfl, ⟨rfl, ⟨rfl, ⟨rfl, ⟨rfl, ⟨rfl, ⟨rfl, trivial⟩⟩⟩⟩⟩⟩⟩⟩⟩⟩, ⟨(eqR (by rw [List.take_zero]; rfl)), trivial⟩, rfl⟩ (by exact Nat.zero_le _) ?_
          rintro j hI ih1
          try dsimp only at hI ih1
          have j1 := hI; have rl : ((es.take j).foldl (stepE n) (rnd n es ((List.replicate (n).toNat (false)).set (a).toNat (true)) m)).length = n.toNat := (by rw [foldE_len, ql])
          refine t_seq ?_
          refine t_region ?_
          refine r_op (o_bin rfl rfl rfl rfl) ?_
          refine r_end ?_
          refine t_seq ?_
          refine t_cond rfl (fun h8 => ?_) (fun h8 => ?_)
          ·
            have h8' := of_decide_eq_true h8
            refine t_skip ?_
            refine t_seq ?_
            refine t_block ?_
            refine t_seq ?_
            refine t_region ?_
            obtain ⟨z9, hz10, b11⟩ := at_get (xs := es) (n := (j : Int)) (by first | omega | decide | (simp only [IntKind.wrap_i64] at *; omega) | (simp only [List.length_replicate, List.length_set, IntKind.wrap_i64] at *; omega) | (simp; omega)) (by first | omega | decide | (simp only [IntKind.wrap_i64] at *; omega) | (simp only [List.length_replicate, List.length_set, IntKind.wrap_i64] at *; omega) | (simp; omega))
            refine r_op (o_index rfl (by kernel_rfl) rfl rfl b11 hz10) ?_
            refine r_op (o_loadA rfl (n := 3) (by kernel_rfl) (by kernel_rfl) rfl rfl) ?_
            refine r_op (o_alloc 1 (zs := [.int .i64 (0), .int .i64 (0), .bool (false)]) rfl rfl (by kernel_rfl) rfl) ?_
            refine r_op (o_storeb (n := 3) (by kernel_rfl) rfl rfl rfl rfl rfl rfl) ?_
            refine r_end ?_
            refine t_seq ?_
            refine t_region ?_
            refine r_op (o_fieldb rfl (off := 0) (by kernel_rfl) rfl) ?_
            refine r_op (o_load1b rfl (by kernel_rfl) rfl rfl rfl) ?_
            refine r_op (o_move rfl rfl) ?_
            refine r_op (o_bin rfl rfl rfl rfl) ?_
            refine r_op (o_call 2 2 false (Go.Proofs.enters_of Tryd.func19 (by kernel_rfl) rfl) (c_impl_within (z9.1) (0) (IntKind.i64.wrap (n - 1))) rfl (.cons rfl (.c .t0) (.cons rfl (.c .t0) (.cons rfl (.c .t0) .nil))) rfl rfl rfl) ?_
            refine r_op (o_move rfl rfl) ?_
            refine r_guard rfl rfl rfl (fun g12 => ?_) (fun g12 => ?_)
            ·
              have g12' := of_decide_eq_true g12
              refine r_op (o_fieldb rfl (off := 1) (by kernel_rfl) rfl) ?_
              refine r_guard rfl rfl rfl (fun _ => ?_) (nc g12)
              refine r_op (o_load1b rfl (by kernel_rfl) rfl rfl rfl) ?_
              refine r_guard rfl rfl rfl (fun _ => ?_) (nc g12)
              refine r_op (o_move rfl rfl) ?_
              refine r_guard rfl rfl rfl (fun _ => ?_) (nc g12)
              refine r_op (o_bin rfl rfl rfl rfl) ?_
              refine r_guard rfl rfl rfl (fun _ => ?_) (nc g12)
              refine r_op (o_call 2 2 false (Go.Proofs.enters_of Tryd.func19 (by kernel_rfl) rfl) (c_impl_within (z9.2.1) (0) (IntKind.i64.wrap (n - 1))) rfl (.cons rfl (.c .t0) (.cons rfl (.c .t0) (.cons rfl (.c .t0) .nil))) rfl rfl rfl) ?_
              refine r_op (o_pickT rfl rfl g12 rfl) ?_
              refine r_op (o_move rfl rfl) ?_
              refine r_guard rfl rfl rfl (fun g13 => ?_) (fun g13 => ?_)
              ·
                have g13' := of_decide_eq_true g13
                refine r_op (o_move rfl rfl) ?_
                refine r_guard rfl rfl rfl (fun _ => ?_) (nc g13)
                refine r_op (o_fieldb rfl (off := 0) (by kernel_rfl) rfl) ?_
                refine r_guard rfl rfl rfl (fun _ => ?_) (nc g13)
                refine r_op (o_load1b rfl (by kernel_rfl) rfl rfl rfl) ?_
                refine r_guard rfl rfl rfl (fun _ => ?_) (nc g13)
                obtain ⟨z14, hz15, b16⟩ := at_get (xs := (es.take j).foldl (stepE n) (rnd n es ((List.replicate (n).toNat (false)).set (a).toNat (true)) m)) (n := z9.1) (by first | omega | decide | (simp only [IntKind.wrap_i64] at *; omega) | (simp only [List.length_replicate, List.length_set, IntKind.wrap_i64] at *; omega) | (simp; omega)) (by first | omega | decide | (simp only [IntKind.wrap_i64] at *; omega) | (simp only [List.length_replicate, List.length_set, IntKind.wrap_i64] at *; omega) | (simp; omega))
                refine r_op (o_indexo rfl (by kernel_rfl) rfl rfl rfl b16 (at_lt b16 hz15)) ?_
                refine r_guard rfl rfl rfl (fun _ => ?_) (nc g13)
                refine r_op (o_load1o rfl (by kernel_rfl) rfl rfl rfl hz15) ?_
                refine r_op (o_pickT rfl rfl g13 rfl) ?_
                refine r_end ?_
                refine t_cond rfl (fun h17 => ?_) (fun h17 => ?_)
                ·
                  have h17' := h17
                  refine t_region ?_
                  refine r_op (o_move rfl rfl) ?_
                  refine r_op (o_fieldb rfl (off := 1) (by kernel_rfl) rfl) ?_
                  refine r_op (o_load1b rfl (by kernel_rfl) rfl rfl rfl) ?_
                  obtain ⟨z18, hz19, b20⟩ := at_get (xs := (es.take j).foldl (stepE n) (rnd n es ((List.replicate (n).toNat (false)).set (a).toNat (true)) m)) (n := z9.2.1) (by first | omega | decide | (simp only [IntKind.wrap_i64] at *; omega) | (simp only [List.length_replicate, List.length_set, IntKind.wrap_i64] at *; omega) | (simp; omega)) (by first | omega | decide | (simp only [IntKind.wrap_i64] at *; omega) | (simp only [List.length_replicate, List.length_set, IntKind.wrap_i64] at *; omega) | (simp; omega))
                  refine r_op (o_indexo rfl (by kernel_rfl) rfl rfl rfl b20 (at_lt b20 hz19)) ?_
                  refine r_op (o_storeo (true) (n := 1) (by kernel_rfl) rfl rfl hz19 rfl rfl rfl rfl (.cons .sc .nil) rfl (fun j h1 h2 => by simp at h1 h2; omega)) ?_
                  refine r_end ?_
                  refine t_endblock ?_
                  refine t_region ?_
                  refine r_op (o_bin rfl rfl rfl rfl) ?_
                  refine r_op (o_move rfl rfl) ?_
                  refine r_end ?_
                  refine t_le ?_ (ih1 (j + 1) (by (try dsimp only); omega) (by (try dsimp only); omega))
                  exact ⟨⟨rfl, ⟨rfl, ⟨rfl, ⟨rfl, ⟨rfl, ⟨rfl, ⟨rfl, ⟨rfl, ⟨rfl, ⟨(eqI (wr64 (by omega) (by omega))), trivial⟩⟩⟩⟩⟩⟩⟩⟩⟩⟩, ⟨(eqR (by first | exact stp_hit hz10 (by omega) (by omega) hz15 (by assumption) | exact stp_no3 hz10 hz15 (by assumption) | exact stp_no1 hz10 (by omega) | exact stp_no2 hz10 (by omega))), trivial⟩, rfl⟩
                ·
                  have h17' := h17
                  refine t_skip ?_
                  refine t_endblock ?_
                  refine t_region ?_
                  refine r_op (o_bin rfl rfl rfl rfl) ?_
                  refine r_op (o_move rfl rfl) ?_
                  refine r_end ?_
                  refine t_le ?_ (ih1 (j + 1) (by (try dsimp only); omega) (by (try dsimp only); omega))
                  exact ⟨⟨rfl, ⟨rfl, ⟨rfl, ⟨rfl, ⟨rfl, ⟨rfl, ⟨rfl, ⟨rfl, ⟨rfl, ⟨(eqI (wr64 (by omega) (by omega))), trivial⟩⟩⟩⟩⟩⟩⟩⟩⟩⟩, ⟨(eqR (by first | exact stp_hit hz10 (by omega) (by omega) hz15 (by assumption) | exact stp_no3 hz10 hz15 (by assumption) | exact stp_no1 hz10 (by omega) | exact stp_no2 hz10 (by omega))), trivial⟩, rfl⟩
              ·
                have g13' := of_decide_eq_false g13
                refine r_guard rfl rfl rfl (ncf g13) (fun _ => ?_)
                refine r_guard rfl rfl rfl (ncf g13) (fun _ => ?_)
                refine r_guard rfl rfl rfl (ncf g13) (fun _ => ?_)
                refine r_guard rfl rfl rfl (ncf g13) (fun _ => ?_)
                refine r_op (o_pickF rfl rfl g13 rfl) ?_
                refine r_end ?_
                refine t_cond rfl (ncf rfl) (fun _ => ?_)
                refine t_skip ?_
                refine t_endblock ?_
                refine t_region ?_
                refine r_op (o_bin rfl rfl rfl rfl) ?_
                refine r_op (o_move rfl rfl) ?_
                refine r_end ?_
                refine t_le ?_ (ih1 (j + 1) (by (try dsimp only); omega) (by (try dsimp only); omega))
                exact ⟨⟨rfl, ⟨rfl, ⟨rfl, ⟨rfl, ⟨rfl, ⟨rfl, ⟨rfl, ⟨rfl, ⟨rfl, ⟨(eqI (wr64 (by omega) (by omega))), trivial⟩⟩⟩⟩⟩⟩⟩⟩⟩⟩, ⟨(eqR (by first | exact stp_hit hz10 (by omega) (by omega) (by assumption) (by assumption) | exact stp_no3 hz10 (by assumption) (by assumption) | exact stp_no1 hz10 (by omega) | exact stp_no2 hz10 (by omega))), trivial⟩, rfl⟩
            ·
              have g12' := of_decide_eq_false g12
              refine r_guard rfl rfl rfl (ncf g12) (fun _ => ?_)
              refine r_guard rfl rfl rfl (ncf g12) (fun _ => ?_)
              refine r_guard rfl rfl rfl (ncf g12) (fun _ => ?_)
              refine r_guard rfl rfl rfl (ncf g12) (fun _ => ?_)
              refine r_op (o_pickF rfl rfl g12 rfl) ?_
              refine r_op (o_move rfl rfl) ?_
              refine r_guard rfl rfl rfl (ncf rfl) (fun _ => ?_)
              refine r_guard rfl rfl rfl (ncf rfl) (fun _ => ?_)
              refine r_guard rfl rfl rfl (ncf rfl) (fun _ => ?_)
              refine r_guard rfl rfl rfl (ncf rfl) (fun _ => ?_)
              refine r_guard rfl rfl rfl (ncf rfl) (fun _ => ?_)
              refine r_op (o_pickF rfl rfl rfl rfl) ?_
              refine r_end ?_
              refine t_cond rfl (ncf rfl) (fun _ => ?_)
              refine t_skip ?_
              refine t_endblock ?_
              refine t_region ?_
              refine r_op (o_bin rfl rfl rfl rfl) ?_
              refine r_op (o_move rfl rfl) ?_
              refine r_end ?_
              refine t_le ?_ (ih1 (j + 1) (by (try dsimp only); omega) (by (try dsimp only); omega))
              exact ⟨⟨rfl, ⟨rfl, ⟨rfl, ⟨rfl, ⟨rfl, ⟨rfl, ⟨rfl, ⟨rfl, ⟨rfl, ⟨(eqI (wr64 (by omega) (by omega))), trivial⟩⟩⟩⟩⟩⟩⟩⟩⟩⟩, ⟨(eqR (by first | exact stp_hit hz10 (by omega) (by omega) (by assumption) (by assumption) | exact stp_no3 hz10 (by assumption) (by assumption) | exact stp_no1 hz10 (by omega) | exact stp_no2 hz10 (by omega))), trivial⟩, rfl⟩
          ·
            have h8' := of_decide_eq_false h8
            refine t_exit rfl ?_
            refine t_endblock ?_
            refine t_region ?_
            refine r_op (o_bin rfl rfl rfl rfl) ?_
            refine r_op (o_move rfl rfl) ?_
            refine r_end ?_
            refine t_le ?_ (ih0 (m + 1) (by (try dsimp only); omega) (by (try dsimp only); omega))
            exact ⟨⟨rfl, ⟨rfl, ⟨rfl, ⟨rfl, ⟨rfl, ⟨rfl, ⟨(eqI (wr64 (by omega) (by omega))), trivial⟩⟩⟩⟩⟩⟩⟩, ⟨(eqR (by rw [List.take_of_length_le (l := es) (i := j) (by omega)]; rfl)), trivial⟩, rfl⟩
        ·
          have h7' := of_decide_eq_false h7
          refine t_exit rfl ?_
          refine t_seq ?_
          refine t_region ?_
          refine r_op (o_move rfl rfl) ?_
          refine r_op (o_move rfl rfl) ?_
          obtain ⟨z21, hz22, b23⟩ := at_get (xs := rnd n es ((List.replicate (n).toNat (false)).set (a).toNat (true)) m) (n := b) (by first | omega | decide | (simp only [IntKind.wrap_i64] at *; omega) | (simp only [List.length_replicate, List.length_set, IntKind.wrap_i64] at *; omega) | (simp; omega)) (by first | omega | decide | (simp only [IntKind.wrap_i64] at *; omega) | (simp only [List.length_replicate, List.length_set, IntKind.wrap_i64] at *; omega) | (simp; omega))
          refine r_op (o_indexo rfl (by kernel_rfl) rfl rfl rfl b23 (at_lt b23 hz22)) ?_
          refine r_op (o_load1o rfl (by kernel_rfl) rfl rfl rfl hz22) ?_
          refine r_op (o_assign rfl rfl) ?_
          refine r_end ?_
          refine t_ret Tryd.func8 (.tmp rfl .nil) rfl fun E S w u hI hd => ?_
          refine post_mk hI hd ?_ trivial rfl rfl rfl <;> clear hI hd <;> (try clear ih0) <;> (try clear ih1)
          all_goals first | rfl | (refine scB ?_; first | exact reach_no (by (simp only [IntKind.wrap_i64] at *; omega)) | exact reach_no (by omega) | exact reach_yes gd.1 gd.2.1 gd.2.2 (by omega) hz5 | exact reach_yes gd.1 gd.2.1 gd.2.2 (by omega) hz22 | exact reach_yes gd.1 gd.2.1 gd.2.2 (by omega) (by assumption))
    ·
      have g2' := of_decide_eq_false (bnt g2)
      refine r_guard rfl rfl rfl (nc g2) (fun _ => ?_)
      refine r_guard rfl rfl rfl (nc g2) (fun _ => ?_)
      refine r_guard rfl rfl rfl (nc g2) (fun _ => ?_)
      refine r_guard rfl rfl rfl (nc g2) (fun _ => ?_)
      refine r_op (o_pickT rfl rfl g2 rfl) ?_
      refine r_end ?_
      refine t_cond rfl (fun _ => ?_) (nc rfl)
      refine t_seq ?_
      refine t_region ?_
      refine r_op (o_assign rfl rfl) ?_
      refine r_end ?_
      refine t_ret Tryd.func8 (.tmp rfl .nil) rfl fun E S w u hI hd => ?_
      refine post_mk hI hd ?_ trivial rfl rfl rfl <;> clear hI hd <;> (try clear ih0) <;> (try clear ih1)
      all_goals first | rfl | (refine scB ?_; first | exact reach_no (by (simp only [IntKind.wrap_i64] at *; omega)) | exact reach_no (by omega) | exact reach_yes gd.1 gd.2.1 gd.2.2 (by omega) (by assumption) | exact reach_yes gd.1 gd.2.1 gd.2.2 (by omega) (by assumption) | exact reach_yes gd.1 gd.2.1 gd.2.2 (by omega) (by assumption))
  ·
    have g1' := of_decide_eq_false (bnt g1)
    refine r_guard rfl rfl rfl (nc g1) (fun _ => ?_)
    refine r_guard rfl rfl rfl (nc g1) (fun _ => ?_)
    refine r_guard rfl rfl rfl (nc g1) (fun _ => ?_)
    refine r_guard rfl rfl rfl (nc g1) (fun _ => ?_)
    refine r_op (o_pickT rfl rfl g1 rfl) ?_
    refine r_op (o_move rfl rfl) ?_
    refine r_guard rfl rfl rfl (nc rfl) (fun _ => ?_)
    refine r_guard rfl rfl rfl (nc rfl) (fun _ => ?_)
    refine r_guard rfl rfl rfl (nc rfl) (fun _ => ?_)
    refine r_guard rfl rfl rfl (nc rfl) (fun _ => ?_)
    refine r_guard rfl rfl rfl (nc rfl) (fun _ => ?_)
    refine r_op (o_pickT rfl rfl rfl rfl) ?_
    refine r_end ?_
    refine t_cond rfl (fun _ => ?_) (nc rfl)
    refine t_seq ?_
    refine t_region ?_
    refine r_op (o_assign rfl rfl) ?_
    refine r_end ?_
    refine t_ret Tryd.func8 (.tmp rfl .nil) rfl fun E S w u hI hd => ?_
    refine post_mk hI hd ?_ trivial rfl rfl rfl <;> clear hI hd <;> (try clear ih0) <;> (try clear ih1)
    all_goals first | rfl | (refine scB ?_; first | exact reach_no (by (simp only [IntKind.wrap_i64] at *; omega)) | exact reach_no (by omega) | exact reach_yes gd.1 gd.2.1 gd.2.2 (by omega) (by assumption) | exact reach_yes gd.1 gd.2.1 gd.2.2 (by omega) (by assumption) | exact reach_yes gd.1 gd.2.1 gd.2.2 (by omega) (by assumption))
set_option maxHeartbeats 1000000 in
set_option maxRecDepth 10000 in
theorem c_impl_PositionCount (rs : Rels) (hrs : rs.length ≤ 4611686018427387904) : Pu Tryd.prog 10 [.c (.t none (.sl 3 (enS3 encS encI encB) (rs)))] [] 0 (.c (.t none (.v (.int .i64 (cntP rs))))) := by
  refine pu_enter Tryd.func10 rfl (Nat.le_of_ble_eq_true rfl) fun w S => ?_
  refine t_seq ?_
  refine t_region ?_
  refine r_op (o_assign rfl rfl) ?_
  refine r_end ?_
  refine t_seq ?_
  refine t_region ?_
  refine r_op (o_assign rfl rfl) ?_
  refine r_end ?_
  refine t_seq ?_
  refine t_seq ?_
  refine t_region ?_
  refine r_op (o_move rfl rfl) ?_
  refine r_op (o_call 0 0 false (Go.Proofs.enters_of Tryd.func18 (by kernel_rfl) rfl) (c_impl_AreValidRelations (rs) (by first | omega | assumption)) rfl (.cons rfl (.c .t0) .nil) rfl rfl rfl) ?_
  refine r_op (o_not rfl rfl) ?_
  refine r_end ?_
  refine t_cond rfl (fun h1 => ?_) (fun h1 => ?_)
  ·
    have h1' := (bnt h1)
    refine t_seq ?_
    refine t_region ?_
    refine r_op (o_move rfl rfl) ?_
    refine r_op (o_assign rfl rfl) ?_
    refine r_end ?_
    refine t_ret Tryd.func10 (.tmp rfl .nil) rfl fun E S w u hI hd => ?_
    refine post_mk hI hd ?_ trivial rfl rfl rfl <;> clear hI hd <;> (try clear ih0)
    all_goals first | rfl | (refine scI ?_; first | exact cnt_no (by assumption) | exact cnt_yes (by assumption) (by omega))
  ·
    have h1' := (bnf h1)
    refine t_skip ?_
    refine t_seq ?_
    refine t_seq ?_
    refine t_region ?_
    refine r_op (o_move rfl rfl) ?_
    refine r_op (o_len rfl rfl rfl) ?_
    refine r_op (o_move rfl rfl) ?_
    refine r_end ?_
    refine t_block ?_
    refine t_loopL (fun m => ⟨[(2, some (.c (.t none (.v (.int .i64 (0)))))), (3, some (.c (.t none (.v (.int .i64 (sumA (rs.take m))))))), (10, some (.c (.t none (.sl 3 (enS3 encS encI encB) (rs))))), (11, some (.c (.t none (.v (.int .i64 (((rs).length : Int))))))), (12, some (.c (.t none (.v (.int .i64 ((m : Int)))))))], [], 0⟩ : Nat → St) (fun m => m ≤ rs.length) (fun m => rs.length - m) 0 ⟨⟨rfl, ⟨(eqI rfl), ⟨rfl, ⟨rfl, ⟨rfl, trivial⟩⟩⟩⟩⟩, trivial, rfl⟩ (by exact Nat.zero_le _) ?_
    rintro m hI ih0
    try dsimp only at hI ih0
    have i1 := hI
    refine t_seq ?_
    refine t_region ?_
    refine r_op (o_bin rfl rfl rfl rfl) ?_
    refine r_end ?_
    refine t_seq ?_
    refine t_cond rfl (fun h2 => ?_) (fun h2 => ?_)
    ·
      have h2' := of_decide_eq_true h2
      refine t_skip ?_
      refine t_seq ?_
      refine t_block ?_
      refine t_seq ?_
      refine t_region ?_
      obtain ⟨z3, hz4, b5⟩ := at_get (xs := rs) (n := (m : Int)) (by first | omega | assumption) (by first | omega | assumption)
      refine r_op (o_index rfl (by kernel_rfl) rfl rfl b5 hz4) ?_
      refine r_op (o_loadA rfl (n := 3) (by kernel_rfl) (by kernel_rfl) rfl rfl) ?_
      refine r_op (o_alloc 0 (zs := [.string (mkS ([])), .int .i64 (0), .bool (false)]) rfl rfl (by kernel_rfl) rfl) ?_
      refine r_op (o_storeb (n := 3) (by kernel_rfl) rfl rfl rfl rfl rfl rfl) ?_
      refine r_end ?_
      refine t_region ?_
      refine r_op (o_move rfl rfl) ?_
      refine r_op (o_fieldb rfl (off := 1) (by kernel_rfl) rfl) ?_
      refine r_op (o_load1b rfl (by kernel_rfl) rfl rfl rfl) ?_
      refine r_op (o_bin rfl rfl rfl rfl) ?_
      refine r_op (o_assign rfl rfl) ?_
      refine r_end ?_
      refine t_endblock ?_
      refine t_region ?_
      refine r_op (o_bin rfl rfl rfl rfl) ?_
      refine r_op (o_move rfl rfl) ?_
      refine r_end ?_
      have ra2 := (rels_ok (l := rs) (by assumption)).2 _ (List.mem_of_getElem? hz4); have sb := sumA_bnd (l := rs) (by assumption) m
      refine t_le ?_ (ih0 (m + 1) (by (try dsimp only); omega) (by (try dsimp only); omega))
      exact ⟨⟨rfl, ⟨(eqI (by rw [sumA_step (m := m) hz4, wr64 (by omega) (by omega)])), ⟨rfl, ⟨rfl, ⟨(eqI (wr64 (by omega) (by omega))), trivial⟩⟩⟩⟩⟩, trivial, rfl⟩
    ·
      have h2' := of_decide_eq_false h2
      refine t_exit rfl ?_
      refine t_seq ?_
      refine t_region ?_
      refine r_op (o_move rfl rfl) ?_
      refine r_op (o_assign rfl rfl) ?_
      refine r_end ?_
      refine t_ret Tryd.func10 (.tmp rfl .nil) rfl fun E S w u hI hd => ?_
      refine post_mk hI hd ?_ trivial rfl rfl rfl <;> clear hI hd <;> (try clear ih0)
      all_goals first | rfl | (refine scI ?_; first | exact cnt_no (by assumption) | exact cnt_yes (by assumption) (by omega))
set_option maxHeartbeats 1000000 in
set_option maxRecDepth 10000 in
theorem c_spec_PositionCount (rs : Rels) (hrs : rs.length ≤ 4611686018427387904) : Pu Tryd.prog 11 [.c (.t none (.sl 3 (enS3 encS encI encB) (rs)))] [] 0 (.c (.t none (.v (.int .i64 (cntP rs))))) := by
  refine pu_enter Tryd.func11 rfl (Nat.le_of_ble_eq_true rfl) fun w S => ?_
  refine t_seq ?_
  refine t_region ?_
  refine r_op (o_assign rfl rfl) ?_
  refine r_end ?_
  refine t_seq ?_
  refine t_region ?_
  refine r_op (o_assign rfl rfl) ?_
  refine r_end ?_
  refine t_seq ?_
  refine t_seq ?_
  refine t_region ?_
  refine r_op (o_assign rfl rfl) ?_
  refine r_end ?_
  refine t_block ?_
  refine t_loopL (fun m => ⟨[(0, some (.c (.t none (.sl 3 (enS3 encS encI encB) (rs))))), (2, some (.c (.t none (.v (.int .i64 (0)))))), (3, some (.c (.t none (.v (.int .i64 (sumA (rs.take m))))))), (4, some (.c (.t none (.v (.int .i64 ((m : Int)))))))], [], 0⟩ : Nat → St) (fun m => m ≤ rs.length ∧ (relsOk rs = true ∨ m = 0)) (fun m => rs.length - m) 0 ⟨⟨rfl, ⟨rfl, ⟨(eqI rfl), ⟨rfl, trivial⟩⟩⟩⟩, trivial, rfl⟩ (by exact ⟨Nat.zero_le _, .inr rfl⟩) ?_
  rintro m hI ih0
  try dsimp only at hI ih0
  obtain ⟨i1, i2⟩ := hI
  refine t_seq ?_
  refine t_seq ?_
  refine t_region ?_
  refine r_op (o_move rfl rfl) ?_
  refine r_op (o_move rfl rfl) ?_
  refine r_op (o_len rfl rfl rfl) ?_
  refine r_op (o_bin rfl rfl rfl rfl) ?_
  refine r_op (o_move rfl rfl) ?_
  refine r_guard rfl rfl rfl (fun g1 => ?_) (fun g1 => ?_)
  ·
    have g1' := of_decide_eq_true g1
    refine r_op (o_move rfl rfl) ?_
    refine r_guard rfl rfl rfl (fun _ => ?_) (nc g1)
    refine r_op (o_call 0 0 false (Go.Proofs.enters_of Tryd.func24 (by kernel_rfl) rfl) (c_spec_AreValidRelations (rs) (by first | omega | assumption)) rfl (.cons rfl (.c .t0) .nil) rfl rfl rfl) ?_
    refine r_op (o_pickT rfl rfl g1 rfl) ?_
    refine r_end ?_
    refine t_cond rfl (fun h2 => ?_) (fun h2 => ?_)
    ·
      have h2' := h2
      refine t_skip ?_
      refine t_seq ?_
      refine t_block ?_
      refine t_region ?_
      refine r_op (o_move rfl rfl) ?_
      refine r_op (o_move rfl rfl) ?_
      refine r_op (o_move rfl rfl) ?_
      obtain ⟨z3, hz4, b5⟩ := at_get (xs := rs) (n := (m : Int)) (by first | omega | assumption) (by first | omega | assumption)
      refine r_op (o_index rfl (by kernel_rfl) rfl rfl b5 hz4) ?_
      refine r_op (o_field rfl (off := 1) (by kernel_rfl) rfl) ?_
      refine r_op (o_load1 rfl (by kernel_rfl) rfl rfl) ?_
      refine r_op (o_bin rfl rfl rfl rfl) ?_
      refine r_op (o_assign rfl rfl) ?_
      refine r_end ?_
      refine t_endblock ?_
      refine t_region ?_
      refine r_op (o_move rfl rfl) ?_
      refine r_op (o_bin rfl rfl rfl rfl) ?_
      refine r_op (o_assign rfl rfl) ?_
      refine r_end ?_
      have ra2 := (rels_ok (l := rs) (by assumption)).2 _ (List.mem_of_getElem? hz4); have sb := sumA_bnd (l := rs) (by assumption) m
      refine t_le ?_ (ih0 (m + 1) (by (try dsimp only); omega) (by (try dsimp only); exact ⟨by omega, .inl (by assumption)⟩))
      exact ⟨⟨rfl, ⟨rfl, ⟨(eqI (by rw [sumA_step (m := m) hz4, wr64 (by omega) (by omega)])), ⟨(eqI (wr64 (by omega) (by omega))), trivial⟩⟩⟩⟩, trivial, rfl⟩
    ·
      have h2' := h2
      refine t_exit rfl ?_
      refine t_seq ?_
      refine t_region ?_
      refine r_op (o_move rfl rfl) ?_
      refine r_op (o_assign rfl rfl) ?_
      refine r_end ?_
      refine t_ret Tryd.func11 (.tmp rfl .nil) rfl fun E S w u hI hd => ?_
      refine post_mk hI hd ?_ trivial rfl rfl rfl <;> clear hI hd <;> (try clear ih0)
      all_goals first | rfl | (refine scI ?_; rcases i2 with e | e <;> first | exact cnt_yes e (by omega) | exact cnt_zero e (.inl (by omega)) | exact cnt_zero e (.inr (by assumption)) | (exfalso; simp_all; done))
  ·
    have g1' := of_decide_eq_false g1
    refine r_guard rfl rfl rfl (ncf g1) (fun _ => ?_)
    refine r_op (o_pickF rfl rfl g1 rfl) ?_
    refine r_end ?_
    refine t_cond rfl (ncf rfl) (fun _ => ?_)
    refine t_exit rfl ?_
    refine t_seq ?_
    refine t_region ?_
    refine r_op (o_move rfl rfl) ?_
    refine r_op (o_assign rfl rfl) ?_
    refine r_end ?_
    refine t_ret Tryd.func11 (.tmp rfl .nil) rfl fun E S w u hI hd => ?_
    refine post_mk hI hd ?_ trivial rfl rfl rfl <;> clear hI hd <;> (try clear ih0)
    all_goals first | rfl | (refine scI ?_; rcases i2 with e | e <;> first | exact cnt_yes e (by omega) | exact cnt_zero e (.inl (by omega)) | exact cnt_zero e (.inr (by assumption)) | (exfalso; simp_all; done))
set_option maxHeartbeats 1000000 in
set_option maxRecDepth 10000 in
theorem c_spec_IsReachable (n : Int) (es : List Edg) (a b : Int) (hes : es.length ≤ 4611686018427387904) : Pu Tryd.prog 12 [.c (.t none (.v (.int .i64 (n)))), .c (.t none (.sl 3 (enS3 encI encI encB) (es))), .c (.t none (.v (.int .i64 (a)))), .c (.t none (.v (.int .i64 (b))))] [] 0 (.c (.t none (.v (.bool (reachB n es a b))))) := by
  refine pu_enter Tryd.func12 rfl (Nat.le_of_ble_eq_true rfl) fun w S => ?_
  refine t_seq ?_
  refine t_region ?_
  refine r_op (o_assign rfl rfl) ?_
  refine r_end ?_
  refine t_seq ?_
  refine t_seq ?_
  refine t_region ?_
  refine r_op (o_move rfl rfl) ?_
  refine r_op (o_call 0 0 false (Go.Proofs.enters_of Tryd.func25 (by kernel_rfl) rfl) (c_spec_l1In (n) (0) (30)) rfl (.cons rfl (.c .t0) (.cons rfl (.c .t0) (.cons rfl (.c .t0) .nil))) rfl rfl rfl) ?_
  refine r_op (o_not rfl rfl) ?_
  refine r_op (o_move rfl rfl) ?_
  refine r_guard rfl rfl rfl (fun g1 => ?_) (fun g1 => ?_)
  ·
    have g1' := of_decide_eq_true (bnf g1)
    refine r_op (o_move rfl rfl) ?_
    refine r_guard rfl rfl rfl (fun _ => ?_) (ncf g1)
    refine r_op (o_move rfl rfl) ?_
    refine r_guard rfl rfl rfl (fun _ => ?_) (ncf g1)
    refine r_op (o_bin rfl rfl rfl rfl) ?_
    refine r_guard rfl rfl rfl (fun _ => ?_) (ncf g1)
    refine r_op (o_call 0 0 false (Go.Proofs.enters_of Tryd.func25 (by kernel_rfl) rfl) (c_spec_l1In (a) (0) (IntKind.i64.wrap (n - 1))) rfl (.cons rfl (.c .t0) (.cons rfl (.c .t0) (.cons rfl (.c .t0) .nil))) rfl rfl rfl) ?_
    refine r_guard rfl rfl rfl (fun _ => ?_) (ncf g1)
    refine r_op (o_not rfl rfl) ?_
    refine r_op (o_pickF rfl rfl g1 rfl) ?_
    refine r_op (o_move rfl rfl) ?_
    refine r_guard rfl rfl rfl (fun g2 => ?_) (fun g2 => ?_)
    ·
      have g2' := of_decide_eq_true (bnf g2)
      refine r_op (o_move rfl rfl) ?_
      refine r_guard rfl rfl rfl (fun _ => ?_) (ncf g2)
      refine r_op (o_move rfl rfl) ?_
      refine r_guard rfl rfl rfl (fun _ => ?_) (ncf g2)
      refine r_op (o_bin rfl rfl rfl rfl) ?_
      refine r_guard rfl rfl rfl (fun _ => ?_) (ncf g2)
      refine r_op (o_call 0 0 false (Go.Proofs.enters_of Tryd.func25 (by kernel_rfl) rfl) (c_spec_l1In (b) (0) (IntKind.i64.wrap (n - 1))) rfl (.cons rfl (.c .t0) (.cons rfl (.c .t0) (.cons rfl (.c .t0) .nil))) rfl rfl rfl) ?_
      refine r_guard rfl rfl rfl (fun _ => ?_) (ncf g2)
      refine r_op (o_not rfl rfl) ?_
      refine r_op (o_pickF rfl rfl g2 rfl) ?_
      refine r_end ?_
      refine t_cond rfl (fun h3 => ?_) (fun h3 => ?_)
      ·
        have h3' := of_decide_eq_false (bnt h3)
        refine t_seq ?_
        refine t_region ?_
        refine r_op (o_assign rfl rfl) ?_
        refine r_end ?_
        refine t_ret Tryd.func12 (.tmp rfl .nil) rfl fun E S w u hI hd => ?_
        refine post_mk hI hd ?_ trivial rfl rfl rfl <;> clear hI hd <;> (try clear ih0) <;> (try clear ih1)
        all_goals first | rfl | (refine scB ?_; first | exact reach_no (by (simp only [IntKind.wrap_i64] at *; omega)) | exact reach_no (by omega) | exact reach_yes gd.1 gd.2.1 gd.2.2 (by omega) (by assumption) | exact reach_yes gd.1 gd.2.1 gd.2.2 (by omega) (by assumption) | exact reach_yes gd.1 gd.2.1 gd.2.2 (by omega) (by assumption))
      ·
        have h3' := of_decide_eq_true (bnf h3)
        refine t_skip ?_
        refine t_seq ?_
        refine t_region ?_
        refine r_op (o_move rfl rfl) ?_
        refine r_op (o_make 0 true (et := 4) (sz := 1) (by' := 1) encB (false) (zs := [.bool (false)]) rfl rfl (by kernel_rfl) (by kernel_rfl) rfl rfl (.cons (.v rfl) .nil) rfl rfl (by first | omega | decide | (simp only [IntKind.wrap_i64] at *; omega) | (simp only [List.length_replicate, List.length_set, IntKind.wrap_i64] at *; omega) | (simp; omega)) (by first | omega | decide | (simp only [IntKind.wrap_i64] at *; omega) | (simp only [List.length_replicate, List.length_set, IntKind.wrap_i64] at *; omega) | (simp; omega)) (by first | omega | decide | (simp only [IntKind.wrap_i64] at *; omega) | (simp only [List.length_replicate, List.length_set, IntKind.wrap_i64] at *; omega) | (simp; omega))) ?_
        refine r_op (o_assign rfl rfl) ?_
        refine r_end ?_
        refine t_seq ?_
        refine t_region ?_
        refine r_op (o_move rfl rfl) ?_
        refine r_op (o_move rfl rfl) ?_
        obtain ⟨z4, hz5, b6⟩ := at_get (xs := List.replicate (n).toNat (false)) (n := a) (by first | omega | decide | (simp only [IntKind.wrap_i64] at *; omega) | (simp only [List.length_replicate, List.length_set, IntKind.wrap_i64] at *; omega) | (simp; omega)) (by first | omega | decide | (simp only [IntKind.wrap_i64] at *; omega) | (simp only [List.length_replicate, List.length_set, IntKind.wrap_i64] at *; omega) | (simp; omega))
        refine r_op (o_indexo rfl (by kernel_rfl) rfl rfl rfl b6 (at_lt b6 hz5)) ?_
        refine r_op (o_storeo (true) (n := 1) (by kernel_rfl) rfl rfl hz5 rfl rfl rfl rfl (.cons .sc .nil) rfl (fun j h1 h2 => by simp at h1 h2; omega)) ?_
        refine r_end ?_
        refine t_seq ?_
        refine t_seq ?_
        refine t_region ?_
        refine r_op (o_assign rfl rfl) ?_
        refine r_end ?_
        refine t_block ?_
        refine t_loopL (fun m => ⟨[(0, some (.c (.t none (.v (.int .i64 (n)))))), (1, some (.c (.t none (.sl 3 (enS3 encI encI encB) (es))))), (3, some (.c (.t none (.v (.int .i64 (b)))))), (8, some (.c (.t none (.v (.bool (false)))))), (9, some (.c (.own 0))), (10, some (.c (.t none (.v (.int .i64 ((m : Int)))))))], [(0, some (.row none 4 true 1 encB (rnd n es ((List.replicate (n).toNat (false)).set (a).toNat (true)) m)))], 1⟩ : Nat → St) (fun m => m ≤ n.toNat) (fun m => n.toNat - m) 0 ⟨⟨rfl, ⟨rfl, ⟨rfl, ⟨rfl, ⟨rfl, ⟨rfl, trivial⟩⟩⟩⟩⟩⟩, ⟨(eqR rfl), trivial⟩, rfl⟩ (by exact Nat.zero_le _) ?_
        rintro m hI ih0
        try dsimp only at hI ih0
        have i1 := hI; have gd : (0 ≤ n ∧ n ≤ 30) ∧ (0 ≤ a ∧ a ≤ n - 1) ∧ (0 ≤ b ∧ b ≤ n - 1) := (by (simp only [IntKind.wrap_i64] at *; omega)); have wn : IntKind.i64.wrap (n - 1) = n - 1 := wr64 (by omega) (by omega); have ql : (rnd n es ((List.replicate (n).toNat (false)).set (a).toNat (true)) m).length = n.toNat := (by rw [rnd_len]; simp)
        refine t_seq ?_
        refine t_seq ?_
        refine t_region ?_
        refine r_op (o_move rfl rfl) ?_
        refine r_op (o_move rfl rfl) ?_
        refine r_op (o_bin rfl rfl rfl rfl) ?_
        refine r_end ?_
        refine t_cond rfl (fun h7 => ?_) (fun h7 => ?_)
        ·
          have h7' := of_decide_eq_true h7
          refine t_skip ?_
          refine t_seq ?_
          refine t_block ?_
          refine t_seq ?_
          refine t_region ?_
          refine r_op (o_assign rfl rfl) ?_
          refine r_end ?_
          refine t_block ?_
          refine t_loopL (fun j => ⟨[(0, some (.c (.t none (.v (.int .i64 (n)))))), (1, some (.c (.t none (.sl 3 (enS3 encI encI encB) (es))))), (3, some (.c (.t none (.v (.int .i64 (b)))))), (8, some (.c (.t none (.v (.bool (false)))))), (9, some (.c (.own 0))), (10, some (.c (.t none (.v (.int .i64 ((m : Int))))))), (11, some (.c (.t none (.v (.int .i64 ((j : Int)))))))], [(0, some (.row none 4 true 1 encB ((es.take j).foldl (stepE n) (rnd n es ((List.replicate (n).toNat (false)).set (a).toNat (true)) m))))], 1⟩ : Nat → St) (fun j => j ≤ es.length) (fun j => es.length - j) 0 ⟨⟨rfl, ⟨rfl, ⟨rfl, ⟨rfl, ⟨rfl, ⟨rfl, ⟨rfl, trivial⟩⟩⟩⟩⟩⟩⟩, ⟨(eqR (by rw [List.take_zero]; rfl)), trivial⟩, rfl⟩ (by exact Nat.zero_le _) ?_
          rintro j hI ih1
          try dsimp only at hI ih1
          have j1 := hI; have rl : ((es.take j).foldl (stepE n) (rnd n es ((List.replicate (n).toNat (false)).set (a).toNat (true)) m)).length = n.toNat := (by rw [foldE_len, ql])
          refine t_seq ?_
          refine t_seq ?_
          refine t_region ?_
          refine r_op (o_move rfl rfl) ?_
          refine r_op (o_move rfl rfl) ?_
          refine r_op (o_len rfl rfl rfl) ?_
          refine r_op (o_bin rfl rfl rfl rfl) ?_
          refine r_end ?_
          refine t_cond rfl (fun h8 => ?_) (fun h8 => ?_)
          ·
            have h8' := of_decide_eq_true h8
            refine t_skip ?_
            refine t_seq ?_
            refine t_block ?_
            refine t_seq ?_
            refine t_region ?_
            refine r_op (o_move rfl rfl) ?_
            refine r_op (o_move rfl rfl) ?_
            obtain ⟨z9, hz10, b11⟩ := at_get (xs := es) (n := (j : Int)) (by first | omega | decide | (simp only [IntKind.wrap_i64] at *; omega) | (simp only [List.length_replicate, List.length_set, IntKind.wrap_i64] at *; omega) | (simp; omega)) (by first | omega | decide | (simp only [IntKind.wrap_i64] at *; omega) | (simp only [List.length_replicate, List.length_set, IntKind.wrap_i64] at *; omega) | (simp; omega))
            refine r_op (o_index rfl (by kernel_rfl) rfl rfl b11 hz10) ?_
            refine r_op (o_field rfl (off := 0) (by kernel_rfl) rfl) ?_
            refine r_op (o_load1 rfl (by kernel_rfl) rfl rfl) ?_
            refine r_op (o_move rfl rfl) ?_
            refine r_op (o_bin rfl rfl rfl rfl) ?_
            refine r_op (o_call 1 1 false (Go.Proofs.enters_of Tryd.func25 (by kernel_rfl) rfl) (c_spec_l1In (z9.1) (0) (IntKind.i64.wrap (n - 1))) rfl (.cons rfl (.c .t0) (.cons rfl (.c .t0) (.cons rfl (.c .t0) .nil))) rfl rfl rfl) ?_
            refine r_op (o_move rfl rfl) ?_
            refine r_guard rfl rfl rfl (fun g12 => ?_) (fun g12 => ?_)
            ·
              have g12' := of_decide_eq_true g12
              refine r_op (o_move rfl rfl) ?_
              refine r_guard rfl rfl rfl (fun _ => ?_) (nc g12)
              refine r_op (o_move rfl rfl) ?_
              refine r_guard rfl rfl rfl (fun _ => ?_) (nc g12)
              refine r_op (o_index rfl (by kernel_rfl) rfl rfl b11 hz10) ?_
              refine r_guard rfl rfl rfl (fun _ => ?_) (nc g12)
              refine r_op (o_field rfl (off := 1) (by kernel_rfl) rfl) ?_
              refine r_guard rfl rfl rfl (fun _ => ?_) (nc g12)
              refine r_op (o_load1 rfl (by kernel_rfl) rfl rfl) ?_
              refine r_guard rfl rfl rfl (fun _ => ?_) (nc g12)
              refine r_op (o_move rfl rfl) ?_
              refine r_guard rfl rfl rfl (fun _ => ?_) (nc g12)
              refine r_op (o_bin rfl rfl rfl rfl) ?_
              refine r_guard rfl rfl rfl (fun _ => ?_) (nc g12)
              refine r_op (o_call 1 1 false (Go.Proofs.enters_of Tryd.func25 (by kernel_rfl) rfl) (c_spec_l1In (z9.2.1) (0) (IntKind.i64.wrap (n - 1))) rfl (.cons rfl (.c .t0) (.cons rfl (.c .t0) (.cons rfl (.c .t0) .nil))) rfl rfl rfl) ?_
              refine r_op (o_pickT rfl rfl g12 rfl) ?_
              refine r_op (o_move rfl rfl) ?_
              refine r_guard rfl rfl rfl (fun g13 => ?_) (fun g13 => ?_)
              ·
                have g13' := of_decide_eq_true g13
                refine r_op (o_move rfl rfl) ?_
                refine r_guard rfl rfl rfl (fun _ => ?_) (nc g13)
                refine r_op (o_move rfl rfl) ?_
                refine r_guard rfl rfl rfl (fun _ => ?_) (nc g13)
                refine r_op (o_move rfl rfl) ?_
                refine r_guard rfl rfl rfl (fun _ => ?_) (nc g13)
                refine r_op (o_index rfl (by kernel_rfl) rfl rfl b11 hz10) ?_
                refine r_guard rfl rfl rfl (fun _ => ?_) (nc g13)
                refine r_op (o_field rfl (off := 0) (by kernel_rfl) rfl) ?_
                refine r_guard rfl rfl rfl (fun _ => ?_) (nc g13)
                refine r_op (o_load1 rfl (by kernel_rfl) rfl rfl) ?_
                refine r_guard rfl rfl rfl (fun _ => ?_) (nc g13)
                obtain ⟨z14, hz15, b16⟩ := at_get (xs := (es.take j).foldl (stepE n) (rnd n es ((List.replicate (n).toNat (false)).set (a).toNat (true)) m)) (n := z9.1) (by first | omega | decide | (simp only [IntKind.wrap_i64] at *; omega) | (simp only [List.length_replicate, List.length_set, IntKind.wrap_i64] at *; omega) | (simp; omega)) (by first | omega | decide | (simp only [IntKind.wrap_i64] at *; omega) | (simp only [List.length_replicate, List.length_set, IntKind.wrap_i64] at *; omega) | (simp; omega))
                refine r_op (o_indexo rfl (by kernel_rfl) rfl rfl rfl b16 (at_lt b16 hz15)) ?_
                refine r_guard rfl rfl rfl (fun _ => ?_) (nc g13)
                refine r_op (o_load1o rfl (by kernel_rfl) rfl rfl rfl hz15) ?_
                refine r_op (o_pickT rfl rfl g13 rfl) ?_
                refine r_end ?_
                refine t_cond rfl (fun h17 => ?_) (fun h17 => ?_)
                ·
                  have h17' := h17
                  refine t_region ?_
                  refine r_op (o_move rfl rfl) ?_
                  refine r_op (o_move rfl rfl) ?_
                  refine r_op (o_move rfl rfl) ?_
                  refine r_op (o_index rfl (by kernel_rfl) rfl rfl b11 hz10) ?_
                  refine r_op (o_field rfl (off := 1) (by kernel_rfl) rfl) ?_
                  refine r_op (o_load1 rfl (by kernel_rfl) rfl rfl) ?_
                  obtain ⟨z18, hz19, b20⟩ := at_get (xs := (es.take j).foldl (stepE n) (rnd n es ((List.replicate (n).toNat (false)).set (a).toNat (true)) m)) (n := z9.2.1) (by first | omega | decide | (simp only [IntKind.wrap_i64] at *; omega) | (simp only [List.length_replicate, List.length_set, IntKind.wrap_i64] at *; omega) | (simp; omega)) (by first | omega | decide | (simp only [IntKind.wrap_i64] at *; omega) | (simp only [List.length_replicate, List.length_set, IntKind.wrap_i64] at *; omega) | (simp; omega))
                  refine r_op (o_indexo rfl (by kernel_rfl) rfl rfl rfl b20 (at_lt b20 hz19)) ?_
                  refine r_op (o_storeo (true) (n := 1) (by kernel_rfl) rfl rfl hz19 rfl rfl rfl rfl (.cons .sc .nil) rfl (fun j h1 h2 => by simp at h1 h2; omega)) ?_
                  refine r_end ?_
                  refine t_endblock ?_
                  refine t_region ?_
                  refine r_op (o_move rfl rfl) ?_
                  refine r_op (o_bin rfl rfl rfl rfl) ?_
                  refine r_op (o_assign rfl rfl) ?_
                  refine r_end ?_
                  refine t_le ?_ (ih1 (j + 1) (by (try dsimp only); omega) (by (try dsimp only); omega))
                  exact ⟨⟨rfl, ⟨rfl, ⟨rfl, ⟨rfl, ⟨rfl, ⟨rfl, ⟨(eqI (wr64 (by omega) (by omega))), trivial⟩⟩⟩⟩⟩⟩⟩, ⟨(eqR (by first | exact stp_hit hz10 (by omega) (by omega) hz15 (by assumption) | exact stp_no3 hz10 hz15 (by assumption) | exact stp_no1 hz10 (by omega) | exact stp_no2 hz10 (by omega))), trivial⟩, rfl⟩
                ·
                  have h17' := h17
                  refine t_skip ?_
                  refine t_endblock ?_
                  refine t_region ?_
                  refine r_op (o_move rfl rfl) ?_
                  refine r_op (o_bin rfl rfl rfl rfl) ?_
                  refine r_op (o_assign rfl rfl) ?_
                  refine r_end ?_
                  refine t_le ?_ (ih1 (j + 1) (by (try dsimp only); omega) (by (try dsimp only); omega))
                  exact ⟨⟨rfl, ⟨rfl, ⟨rfl, ⟨rfl, ⟨rfl, ⟨rfl, ⟨(eqI (wr64 (by omega) (by omega))), trivial⟩⟩⟩⟩⟩⟩⟩, ⟨(eqR (by first | exact stp_hit hz10 (by omega) (by omega) hz15 (by assumption) | exact stp_no3 hz10 hz15 (by assumption) | exact stp_no1 hz10 (by omega) | exact stp_no2 hz10 (by omega))), trivial⟩, rfl⟩
              ·
                have g13' := of_decide_eq_false g13
                refine r_guard rfl rfl rfl (ncf g13) (fun _ => ?_)
                refine r_guard rfl rfl rfl (ncf g13) (fun _ => ?_)
                refine r_guard rfl rfl rfl (ncf g13) (fun _ => ?_)
                refine r_guard rfl rfl rfl (ncf g13) (fun _ => ?_)
                refine r_guard rfl rfl rfl (ncf g13) (fun _ => ?_)
                refine r_guard rfl rfl rfl (ncf g13) (fun _ => ?_)
                refine r_guard rfl rfl rfl (ncf g13) (fun _ => ?_)
                refine r_op (o_pickF rfl rfl g13 rfl) ?_
                refine r_end ?_
                refine t_cond rfl (ncf rfl) (fun _ => ?_)
                refine t_skip ?_
                refine t_endblock ?_
                refine t_region ?_
                refine r_op (o_move rfl rfl) ?_
                refine r_op (o_bin rfl rfl rfl rfl) ?_
                refine r_op (o_assign rfl rfl) ?_
                refine r_end ?_
                refine t_le ?_ (ih1 (j + 1) (by (try dsimp only); omega) (by (try dsimp only); omega))
                exact ⟨⟨rfl, ⟨rfl, ⟨rfl, ⟨rfl, ⟨rfl, ⟨rfl, ⟨(eqI (wr64 (by omega) (by omega))), trivial⟩⟩⟩⟩⟩⟩⟩, ⟨(eqR (by first | exact stp_hit hz10 (by omega) (by omega) (by assumption) (by assumption) | exact stp_no3 hz10 (by assumption) (by assumption) | exact stp_no1 hz10 (by omega) | exact stp_no2 hz10 (by omega))), trivial⟩, rfl⟩
            ·
              have g12' := of_decide_eq_false g12
              refine r_guard rfl rfl rfl (ncf g12) (fun _ => ?_)
              refine r_guard rfl rfl rfl (ncf g12) (fun _ => ?_)
              refine r_guard rfl rfl rfl (ncf g12) (fun _ => ?_)
              refine r_guard rfl rfl rfl (ncf g12) (fun _ => ?_)
              refine r_guard rfl rfl rfl (ncf g12) (fun _ => ?_)
              refine r_guard rfl rfl rfl (ncf g12) (fun _ => ?_)
              refine r_guard rfl rfl rfl (ncf g12) (fun _ => ?_)
              refine r_op (o_pickF rfl rfl g12 rfl) ?_
              refine r_op (o_move rfl rfl) ?_
              refine r_guard rfl rfl rfl (ncf rfl) (fun _ => ?_)
              refine r_guard rfl rfl rfl (ncf rfl) (fun _ => ?_)
              refine r_guard rfl rfl rfl (ncf rfl) (fun _ => ?_)
              refine r_guard rfl rfl rfl (ncf rfl) (fun _ => ?_)
              refine r_guard rfl rfl rfl (ncf rfl) (fun _ => ?_)
              refine r_guard rfl rfl rfl (ncf rfl) (fun _ => ?_)
              refine r_guard rfl rfl rfl (ncf rfl) (fun _ => ?_)
              refine r_guard rfl rfl rfl (ncf rfl) (fun _ => ?_)
              refine r_op (o_pickF rfl rfl rfl rfl) ?_
              refine r_end ?_
              refine t_cond rfl (ncf rfl) (fun _ => ?_)
              refine t_skip ?_
              refine t_endblock ?_
              refine t_region ?_
              refine r_op (o_move rfl rfl) ?_
              refine r_op (o_bin rfl rfl rfl rfl) ?_
              refine r_op (o_assign rfl rfl) ?_
              refine r_end ?_
              refine t_le ?_ (ih1 (j + 1) (by (try dsimp only); omega) (by (try dsimp only); omega))
              exact ⟨⟨rfl, ⟨rfl, ⟨rfl, ⟨rfl, ⟨rfl, ⟨rfl, ⟨(eqI (wr64 (by omega) (by omega))), trivial⟩⟩⟩⟩⟩⟩⟩, ⟨(eqR (by first | exact stp_hit hz10 (by omega) (by omega) (by assumption) (by assumption) | exact stp_no3 hz10 (by assumption) (by assumption) | exact stp_no1 hz10 (by omega) | exact stp_no2 hz10 (by omega))), trivial⟩, rfl⟩
          ·
            have h8' := of_decide_eq_false h8
            refine t_exit rfl ?_
            refine t_endblock ?_
            refine t_region ?_
            refine r_op (o_move rfl rfl) ?_
            refine r_op (o_bin rfl rfl rfl rfl) ?_
            refine r_op (o_assign rfl rfl) ?_
            refine r_end ?_
            refine t_le ?_ (ih0 (m + 1) (by (try dsimp only); omega) (by (try dsimp only); omega))
            exact ⟨⟨rfl, ⟨rfl, ⟨rfl, ⟨rfl, ⟨rfl, ⟨(eqI (wr64 (by omega) (by omega))), trivial⟩⟩⟩⟩⟩⟩, ⟨(eqR (by rw [List.take_of_length_le (l := es) (i := j) (by omega)]; rfl)), trivial⟩, rfl⟩
        ·
          have h7' := of_decide_eq_false h7
          refine t_exit rfl ?_
          refine t_seq ?_
          refine t_region ?_
          refine r_op (o_move rfl rfl) ?_
          refine r_op (o_move rfl rfl) ?_
          obtain ⟨z21, hz22, b23⟩ := at_get (xs := rnd n es ((List.replicate (n).toNat (false)).set (a).toNat (true)) m) (n := b) (by first | omega | decide | (simp only [IntKind.wrap_i64] at *; omega) | (simp only [List.length_replicate, List.length_set, IntKind.wrap_i64] at *; omega) | (simp; omega)) (by first | omega | decide | (simp only [IntKind.wrap_i64] at *; omega) | (simp only [List.length_replicate, List.length_set, IntKind.wrap_i64] at *; omega) | (simp; omega))
          refine r_op (o_indexo rfl (by kernel_rfl) rfl rfl rfl b23 (at_lt b23 hz22)) ?_
          refine r_op (o_load1o rfl (by kernel_rfl) rfl rfl rfl hz22) ?_
          refine r_op (o_assign rfl rfl) ?_
          refine r_end ?_
          refine t_ret Tryd.func12 (.tmp rfl .nil) rfl fun E S w u hI hd => ?_
          refine post_mk hI hd ?_ trivial rfl rfl rfl <;> clear hI hd <;> (try clear ih0) <;> (try clear ih1)
          all_goals first | rfl | (refine scB ?_; first | exact reach_no (by (simp only [IntKind.wrap_i64] at *; omega)) | exact reach_no (by omega) | exact reach_yes gd.1 gd.2.1 gd.2.2 (by omega) hz5 | exact reach_yes gd.1 gd.2.1 gd.2.2 (by omega) hz22 | exact reach_yes gd.1 gd.2.1 gd.2.2 (by omega) (by assumption))
    ·
      have g2' := of_decide_eq_false (bnt g2)
      refine r_guard rfl rfl rfl (nc g2) (fun _ => ?_)
      refine r_guard rfl rfl rfl (nc g2) (fun _ => ?_)
      refine r_guard rfl rfl rfl (nc g2) (fun _ => ?_)
      refine r_guard rfl rfl rfl (nc g2) (fun _ => ?_)
      refine r_op (o_pickT rfl rfl g2 rfl) ?_
      refine r_end ?_
      refine t_cond rfl (fun _ => ?_) (nc rfl)
      refine t_seq ?_
      refine t_region ?_
      refine r_op (o_assign rfl rfl) ?_
      refine r_end ?_
      refine t_ret Tryd.func12 (.tmp rfl .nil) rfl fun E S w u hI hd => ?_
      refine post_mk hI hd ?_ trivial rfl rfl rfl <;> clear hI hd <;> (try clear ih0) <;> (try clear ih1)
      all_goals first | rfl | (refine scB ?_; first | exact reach_no (by (simp only [IntKind.wrap_i64] at *; omega)) | exact reach_no (by omega) | exact reach_yes gd.1 gd.2.1 gd.2.2 (by omega) (by assumption) | exact reach_yes gd.1 gd.2.1 gd.2.2 (by omega) (by assumption) | exact reach_yes gd.1 gd.2.1 gd.2.2 (by omega) (by assumption))
  ·
    have g1' := of_decide_eq_false (bnt g1)
    refine r_guard rfl rfl rfl (nc g1) (fun _ => ?_)
    refine r_guard rfl rfl rfl (nc g1) (fun _ => ?_)
    refine r_guard rfl rfl rfl (nc g1) (fun _ => ?_)
    refine r_guard rfl rfl rfl (nc g1) (fun _ => ?_)
    refine r_op (o_pickT rfl rfl g1 rfl) ?_
    refine r_op (o_move rfl rfl) ?_
    refine r_guard rfl rfl rfl (nc rfl) (fun _ => ?_)
    refine r_guard rfl rfl rfl (nc rfl) (fun _ => ?_)
    refine r_guard rfl rfl rfl (nc rfl) (fun _ => ?_)
    refine r_guard rfl rfl rfl (nc rfl) (fun _ => ?_)
    refine r_guard rfl rfl rfl (nc rfl) (fun _ => ?_)
    refine r_op (o_pickT rfl rfl rfl rfl) ?_
    refine r_end ?_
    refine t_cond rfl (fun _ => ?_) (nc rfl)
    refine t_seq ?_
    refine t_region ?_
    refine r_op (o_assign rfl rfl) ?_
    refine r_end ?_
    refine t_ret Tryd.func12 (.tmp rfl .nil) rfl fun E S w u hI hd => ?_
    refine post_mk hI hd ?_ trivial rfl rfl rfl <;> clear hI hd <;> (try clear ih0) <;> (try clear ih1)
    all_goals first | rfl | (refine scB ?_; first | exact reach_no (by (simp only [IntKind.wrap_i64] at *; omega)) | exact reach_no (by omega) | exact reach_yes gd.1 gd.2.1 gd.2.2 (by omega) (by assumption) | exact reach_yes gd.1 gd.2.1 gd.2.2 (by omega) (by assumption) | exact reach_yes gd.1 gd.2.1 gd.2.2 (by omega) (by assumption))
def Tryd.laysI_ren : Go.Shelf.Ren := ⟨fun | 171 => 39 | 243 => 46 | 246 => 50 | 283 => 51 | 284 => 52 | 285 => 53 | 286 => 54 | 129 => 56 | 317 => 55 | 318 => 57 | 319 => 58 | 320 => 59 | 337 => 60 | 338 => 61 | n => n, fun | 3 => 3 | 9 => 9 | 2 => 2 | 4 => 4 | 171 => 80 | 0 => 0 | 53 => 81 | 37 => 22 | 5 => 5 | 173 => 84 | 212 => 88 | 51 => 89 | 20 => 20 | 213 => 90 | 46 => 70 | 232 => 94 | 233 => 95 | n => n, fun | 17 => 0 | 18 => 1 | 19 => 2 | n => n⟩
theorem Tryd.laysI : Go.Proofs.Lays.n171 Tryd.prog Tryd.laysI_ren := {
 mixed := by kernel_rfl
 f129 := Tryd.func56.trans (congrArg some (by kernel_rfl))
 f171 := Tryd.func39.trans (congrArg some (by kernel_rfl))
 f243 := Tryd.func46.trans (congrArg some (by kernel_rfl))
 f246 := Tryd.func50.trans (congrArg some (by kernel_rfl))
 f283 := Tryd.func51.trans (congrArg some (by kernel_rfl))
 f284 := Tryd.func52.trans (congrArg some (by kernel_rfl))
 f285 := Tryd.func53.trans (congrArg some (by kernel_rfl))
 f286 := Tryd.func54.trans (congrArg some (by kernel_rfl))
 f317 := Tryd.func55.trans (congrArg some (by kernel_rfl))
 f318 := Tryd.func57.trans (congrArg some (by kernel_rfl))
 f319 := Tryd.func58.trans (congrArg some (by kernel_rfl))
 f320 := Tryd.func59.trans (congrArg some (by kernel_rfl))
 f337 := Tryd.func60.trans (congrArg some (by kernel_rfl))
 f338 := Tryd.func61.trans (congrArg some (by kernel_rfl))
 t0 := Tryd.underlying0
 a0 := Tryd.isAgg0
 z0 := Tryd.sizeOf0
 v0 := Tryd.zeroValue0
 t2 := Tryd.underlying2
 a2 := Tryd.isAgg2
 z2 := Tryd.sizeOf2
 v2 := Tryd.zeroValue2
 t3 := Tryd.underlying3
 a3 := Tryd.isAgg3
 z3 := Tryd.sizeOf3
 v3 := Tryd.zeroValue3
 t4 := Tryd.underlying4
 a4 := Tryd.isAgg4
 z4 := Tryd.sizeOf4
 v4 := Tryd.zeroValue4
 t5 := Tryd.underlying5
 a5 := Tryd.isAgg5
 z5 := Tryd.sizeOf5
 v5 := Tryd.zeroValue5
 t9 := Tryd.underlying9
 a9 := Tryd.isAgg9
 z9 := Tryd.sizeOf9
 v9 := Tryd.zeroValue9
 t20 := Tryd.underlying20
 a20 := Tryd.isAgg20
 z20 := Tryd.sizeOf20
 v20 := Tryd.zeroValue20
 t37 := Tryd.underlying22
 a37 := Tryd.isAgg22
 z37 := Tryd.sizeOf22
 v37 := Tryd.zeroValue22
 t46 := Tryd.underlying70
 a46 := Tryd.isAgg70
 z46 := Tryd.sizeOf70
 v46 := Tryd.zeroValue70
 t51 := Tryd.underlying89
 a51 := Tryd.isAgg89
 z51 := Tryd.sizeOf89
 v51 := Tryd.zeroValue89
 t53 := Tryd.underlying81
 a53 := Tryd.isAgg81
 z53 := Tryd.sizeOf81
 v53 := Tryd.zeroValue81
 t171 := Tryd.underlying80
 a171 := Tryd.isAgg80
 z171 := Tryd.sizeOf80
 v171 := Tryd.zeroValue80
 t173 := Tryd.underlying84
 a173 := Tryd.isAgg84
 z173 := Tryd.sizeOf84
 v173 := Tryd.zeroValue84
 t212 := Tryd.underlying88
 a212 := Tryd.isAgg88
 z212 := Tryd.sizeOf88
 v212 := Tryd.zeroValue88
 t213 := Tryd.underlying90
 a213 := Tryd.isAgg90
 z213 := Tryd.sizeOf90
 t232 := Tryd.underlying94
 a232 := Tryd.isAgg94
 z232 := Tryd.sizeOf94
 v232 := Tryd.zeroValue94
 t233 := Tryd.underlying95
 a233 := Tryd.isAgg95
 z233 := Tryd.sizeOf95
 v233 := Tryd.zeroValue95
 g17 := by kernel_rfl
 g18 := by kernel_rfl
 g19 := by kernel_rfl }
set_option maxHeartbeats 1000000 in
set_option maxRecDepth 10000 in
theorem c_strconv_Itoa (i : Int) (hi : 0 ≤ i ∧ i < 100) : Pu Tryd.prog 39 [.c (.t none (.v (.int .i64 (i))))] [] 0 (.c (.t none (.v (.string (mkS (fmtN i)))))) := by
  exact (fmtN_dec (n := i) hi.1) ▸ itoa_pu Tryd.laysI i hi
set_option maxHeartbeats 1000000 in
set_option maxRecDepth 10000 in
theorem c_impl_FormatInt (i : Int) (hi : 0 ≤ i ∧ i < 100) : Pu Tryd.prog 26 [.c (.t none (.v (.int .i64 (i))))] [] 0 (.c (.t none (.v (.string (mkS (fmtN i)))))) := by
  refine pu_enter Tryd.func26 rfl (Nat.le_of_ble_eq_true rfl) fun w S => ?_
  refine t_seq ?_
  refine t_region ?_
  refine r_op (o_assign rfl rfl) ?_
  refine r_end ?_
  refine t_seq ?_
  refine t_region ?_
  refine r_op (o_move rfl rfl) ?_
  refine r_op (o_call 0 0 false (Go.Proofs.enters_of Tryd.func39 (by kernel_rfl) rfl) (c_strconv_Itoa (i) (by first | omega | assumption)) rfl (.cons rfl (.c .t0) .nil) rfl rfl rfl) ?_
  refine r_op (o_assign rfl rfl) ?_
  refine r_end ?_
  refine t_ret Tryd.func26 (.tmp rfl .nil) rfl fun E S w u hI hd => ?_
  refine post_mk hI hd ?_ trivial rfl rfl rfl <;> clear hI hd
  all_goals first | rfl | (simp_all <;> omega)
set_option maxHeartbeats 1000000 in
set_option maxRecDepth 10000 in
theorem c_impl_FormatPosition (rs : Rels) (p : Int) (hrs : rs.length ≤ 4611686018427387904) (hp : okI p) : Pu Tryd.prog 13 [.c (.t none (.sl 3 (enS3 encS encI encB) (rs))), .c (.t none (.v (.int .i64 (p))))] [] 0 (.c (.t none (.v (.string (mkS (posT rs p)))))) := by
  refine pu_enter Tryd.func13 rfl (Nat.le_of_ble_eq_true rfl) fun w S => ?_
  have hp1 := hp.1; have hp2 := hp.2; have cb := cnt_bnd rs; have wc : IntKind.i64.wrap (cntP rs - 1) = cntP rs - 1 := wr64 (by omega) (by omega)
  refine t_seq ?_
  refine t_region ?_
  refine r_op (o_assign rfl rfl) ?_
  refine r_end ?_
  refine t_seq ?_
  refine t_seq ?_
  refine t_region ?_
  refine r_op (o_move rfl rfl) ?_
  refine r_op (o_move rfl rfl) ?_
  refine r_op (o_call 0 0 false (Go.Proofs.enters_of Tryd.func10 (by kernel_rfl) rfl) (c_impl_PositionCount (rs) (by first | omega | assumption | (have n1 := name_len pl.1 (by assumption); have n2 := fmtN_len (n := q) (by omega); omega) | (have n1 := name_len (pos_ok (by assumption) (by omega)) (by assumption); have n2 := fmtN_len (n := (j : Int)) (by omega); omega))) rfl (.cons rfl (.c .t0) .nil) rfl rfl rfl) ?_
  refine r_op (o_bin rfl rfl rfl rfl) ?_
  refine r_op (o_call 0 0 false (Go.Proofs.enters_of Tryd.func19 (by kernel_rfl) rfl) (c_impl_within (p) (0) (IntKind.i64.wrap ((cntP (rs)) - 1))) rfl (.cons rfl (.c .t0) (.cons rfl (.c .t0) (.cons rfl (.c .t0) .nil))) rfl rfl rfl) ?_
  refine r_op (o_not rfl rfl) ?_
  refine r_end ?_
  refine t_cond rfl (fun h1 => ?_) (fun h1 => ?_)
  ·
    have h1' := of_decide_eq_false (bnt h1)
    refine t_seq ?_
    refine t_region ?_
    refine r_op (o_assign rfl rfl) ?_
    refine r_end ?_
    refine t_ret Tryd.func13 (.tmp rfl .nil) rfl fun E S w u hI hd => ?_
    refine post_mk hI hd ?_ trivial rfl rfl rfl <;> clear hI hd <;> (try clear ih0)
    all_goals first | rfl | (refine scS ?_; first | exact posT_no (by omega) | exact posT_go (by omega) i3 i2 (by assumption) (by omega))
  ·
    have h1' := of_decide_eq_true (bnf h1)
    refine t_skip ?_
    refine t_seq ?_
    refine t_region ?_
    refine r_op (o_assign rfl rfl) ?_
    refine r_end ?_
    refine t_seq ?_
    refine t_block ?_
    refine t_loopL (fun (m, q) => ⟨[(0, some (.c (.t none (.sl 3 (enS3 encS encI encB) (rs))))), (1, some (.c (.t none (.v (.int .i64 (q)))))), (4, some (.c (.t none (.v (.string (mkS (([] : List UInt8)))))))), (5, some (.c (.t none (.v (.int .i64 ((m : Int)))))))], [], 0⟩ : Nat × Int → St) (fun (m, q) => m ≤ rs.length ∧ 0 ≤ q ∧ p = sumA (rs.take m) + q) (fun (m, q) => rs.length - m) (0, p) ⟨⟨rfl, ⟨rfl, ⟨rfl, ⟨rfl, trivial⟩⟩⟩⟩, trivial, rfl⟩ (by exact ⟨Nat.zero_le _, by omega, by unfold sumA; simp⟩) ?_
    rintro ⟨m, q⟩ hI ih0
    try dsimp only at hI ih0
    obtain ⟨i1, i2, i3⟩ := hI; have pl := pos_lt (rs := rs) (m := m) (by omega) i3 i2; have pr := rels_ok pl.1; have sb := sumA_bnd pl.1 m
    refine t_seq ?_
    refine t_seq ?_
    refine t_region ?_
    refine r_op (o_move rfl rfl) ?_
    refine r_op (o_move rfl rfl) ?_
    refine r_op (o_move rfl rfl) ?_
    obtain ⟨z2, hz3, b4⟩ := at_get (xs := rs) (n := (m : Int)) (by first | omega | assumption | (have n1 := name_len pl.1 (by assumption); have n2 := fmtN_len (n := q) (by omega); omega) | (have n1 := name_len (pos_ok (by assumption) (by omega)) (by assumption); have n2 := fmtN_len (n := (j : Int)) (by omega); omega)) (by first | omega | assumption | (have n1 := name_len pl.1 (by assumption); have n2 := fmtN_len (n := q) (by omega); omega) | (have n1 := name_len (pos_ok (by assumption) (by omega)) (by assumption); have n2 := fmtN_len (n := (j : Int)) (by omega); omega))
    refine r_op (o_index rfl (by kernel_rfl) rfl rfl b4 hz3) ?_
    refine r_op (o_field rfl (off := 1) (by kernel_rfl) rfl) ?_
    refine r_op (o_load1 rfl (by kernel_rfl) rfl rfl) ?_
    refine r_op (o_bin rfl rfl rfl rfl) ?_
    refine r_end ?_
    refine t_cond rfl (fun h5 => ?_) (fun h5 => ?_)
    ·
      have h5' := of_decide_eq_true h5
      refine t_skip ?_
      refine t_block ?_
      refine t_seq ?_
      refine t_region ?_
      refine r_op (o_move rfl rfl) ?_
      refine r_op (o_move rfl rfl) ?_
      refine r_op (o_move rfl rfl) ?_
      refine r_op (o_index rfl (by kernel_rfl) rfl rfl b4 hz3) ?_
      refine r_op (o_field rfl (off := 1) (by kernel_rfl) rfl) ?_
      refine r_op (o_load1 rfl (by kernel_rfl) rfl rfl) ?_
      refine r_op (o_bin rfl rfl rfl rfl) ?_
      refine r_op (o_assign rfl rfl) ?_
      refine r_end ?_
      refine t_region ?_
      refine r_op (o_move rfl rfl) ?_
      refine r_op (o_bin rfl rfl rfl rfl) ?_
      refine r_op (o_assign rfl rfl) ?_
      refine r_end ?_
      refine t_endblock ?_
      have ra := pr.2 _ (List.mem_of_getElem? hz3); have wq : IntKind.i64.wrap (q - z2.2.1) = q - z2.2.1 := wr64 (by omega) (by omega)
      refine t_le ?_ (ih0 (m + 1, q - z2.2.1) (by (try dsimp only); omega) (by (try dsimp only); exact ⟨by omega, by omega, by have e := sumA_step hz3; rw [Int.toNat_natCast] at e; omega⟩))
      exact ⟨⟨rfl, ⟨(eqI (by omega)), ⟨rfl, ⟨(eqI (wr64 (by omega) (by omega))), trivial⟩⟩⟩⟩, trivial, rfl⟩
    ·
      have h5' := of_decide_eq_false h5
      refine t_exit rfl ?_
      refine t_seq ?_
      refine t_draw (fun _ => true) (by kernel_rfl) ?_
      refine d_take 0 rfl rfl (by kernel_rfl) (by kernel_rfl) (by kernel_rfl) (p_move rfl) ?_
      refine d_take 1 rfl rfl (by kernel_rfl) (by kernel_rfl) (by kernel_rfl) (p_move rfl) ?_
      refine d_take 2 rfl rfl (by kernel_rfl) (by kernel_rfl) (by kernel_rfl) (p_index (by kernel_rfl) rfl rfl b4 hz3) ?_
      refine d_take 3 rfl rfl (by kernel_rfl) (by kernel_rfl) (by kernel_rfl) (p_field (off := 0) (by kernel_rfl) rfl) ?_
      refine d_take 4 rfl rfl (by kernel_rfl) (by kernel_rfl) (by kernel_rfl) (p_load1 (by kernel_rfl) rfl rfl) ?_
      refine d_take 5 rfl rfl (by kernel_rfl) (by kernel_rfl) (by kernel_rfl) (p_move rfl) ?_
      refine d_only 6 rfl (by kernel_rfl) rfl (o_call 0 0 false (Go.Proofs.enters_of Tryd.func26 (by kernel_rfl) rfl) (c_impl_FormatInt (q) (by first | omega | assumption | (have n1 := name_len pl.1 (by assumption); have n2 := fmtN_len (n := q) (by omega); omega) | (have n1 := name_len (pos_ok (by assumption) (by omega)) (by assumption); have n2 := fmtN_len (n := (j : Int)) (by omega); omega))) rfl (.cons rfl (.c .t0) .nil) rfl rfl rfl) ?_
      refine d_take 7 rfl rfl (by kernel_rfl) (by kernel_rfl) (by kernel_rfl) (p_cat rfl rfl (by first | omega | assumption | (have n1 := name_len pl.1 (by assumption); have n2 := fmtN_len (n := q) (by omega); omega) | (have n1 := name_len (pos_ok (by assumption) (by omega)) (by assumption); have n2 := fmtN_len (n := (j : Int)) (by omega); omega))) ?_
      refine d_take 8 rfl rfl (by kernel_rfl) (by kernel_rfl) (by kernel_rfl) (p_assign rfl) ?_
      refine d_end (by kernel_rfl) ?_
      refine t_ret Tryd.func13 (.tmp rfl .nil) rfl fun E S w u hI hd => ?_
      refine post_mk hI hd ?_ trivial rfl rfl rfl <;> clear hI hd <;> (try clear ih0)
      all_goals first | rfl | (refine scS ?_; first | exact posT_no (by omega) | exact posT_go (by omega) i3 i2 (by assumption) (by omega))
set_option maxHeartbeats 1000000 in
set_option maxRecDepth 10000 in
theorem c_spec_FormatInt (k : Int) (hk : 0 ≤ k) (hk2 : k < 4611686018427387904) : Pu Tryd.prog 14 [.c (.t none (.v (.int .i64 (k))))] [] 0 (.c (.t none (.v (.string (mkS (fmtN k)))))) := by
  refine pu_enter Tryd.func14 rfl (Nat.le_of_ble_eq_true rfl) fun w S => ?_
  refine t_seq ?_
  refine t_region ?_
  refine r_op (o_assign rfl rfl) ?_
  refine r_end ?_
  refine t_seq ?_
  refine t_seq ?_
  refine t_region ?_
  refine r_op (o_move rfl rfl) ?_
  refine r_op (o_bin rfl rfl rfl rfl) ?_
  refine r_end ?_
  refine t_cond rfl (fun h1 => ?_) (fun h1 => ?_)
  ·
    have h1' := of_decide_eq_true h1
    refine t_seq ?_
    refine t_region ?_
    refine r_op (o_assign rfl rfl) ?_
    refine r_end ?_
    refine t_ret Tryd.func14 (.tmp rfl .nil) rfl fun E S w u hI hd => ?_
    refine post_mk hI hd ?_ trivial rfl rfl rfl <;> clear hI hd <;> (try clear ih0)
    all_goals first | rfl | (refine scS ?_; unfold fmtN; first | (rw [if_pos (by assumption)]; done) | ((obtain rfl : q = 0 := by omega); (have e := i1; simp only [digs, List.nil_append] at e; rw [if_neg (by omega), e])))
  ·
    have h1' := of_decide_eq_false h1
    refine t_skip ?_
    refine t_seq ?_
    refine t_region ?_
    refine r_op (o_assign rfl rfl) ?_
    refine r_end ?_
    refine t_seq ?_
    refine t_region ?_
    refine r_op (o_move rfl rfl) ?_
    refine r_op (o_bin rfl rfl rfl rfl) ?_
    refine r_op (o_assign rfl rfl) ?_
    refine r_end ?_
    refine t_seq ?_
    refine t_block ?_
    refine t_loopL (fun (q, out) => ⟨[(0, some (.c (.t none (.v (.int .i64 ((q : Int))))))), (2, some (.c (.t none (.v (.string (mkS (([] : List UInt8)))))))), (3, some (.c (.t none (.v (.string (mkS (out))))))), (4, some (.c (.t none (.v (.bool (decide (k < 0)))))))], [], 0⟩ : Nat × List UInt8 → St) (fun (q, out) => digs q ++ out = digs k.toNat ∧ (q : Int) ≤ k ∧ out.length + q ≤ k.toNat) (fun (q, out) => q) (k.toNat, []) ⟨⟨(eqI (by omega)), ⟨rfl, ⟨rfl, ⟨rfl, trivial⟩⟩⟩⟩, trivial, rfl⟩ (by exact ⟨List.append_nil _, by omega, by simp⟩) ?_
    rintro ⟨q, out⟩ hI ih0
    try dsimp only at hI ih0
    obtain ⟨i1, i2, i3⟩ := hI
    refine t_seq ?_
    refine t_seq ?_
    refine t_region ?_
    refine r_op (o_move rfl rfl) ?_
    refine r_op (o_bin rfl rfl rfl rfl) ?_
    refine r_end ?_
    refine t_cond rfl (fun h2 => ?_) (fun h2 => ?_)
    ·
      have h2' := of_decide_eq_true h2
      refine t_skip ?_
      refine t_block ?_
      refine t_seq ?_
      refine t_region ?_
      refine r_op (o_move rfl rfl) ?_
      refine r_op (o_binD rfl rfl rfl (rem_lit 10 rfl (by decide))) ?_
      refine r_op (o_assign rfl rfl) ?_
      refine r_end ?_
      refine t_seq ?_
      refine t_seq ?_
      refine t_region ?_
      refine r_op (o_move rfl rfl) ?_
      refine r_op (o_bin rfl rfl rfl rfl) ?_
      refine r_end ?_
      refine t_cond rfl (fun h3 => ?_) (fun h3 => ?_)
      ·
        have h3' := of_decide_eq_true h3
        exfalso; omega
      ·
        have h3' := of_decide_eq_false h3
        refine t_skip ?_
        refine t_seq ?_
        refine t_region ?_
        refine r_op (o_move rfl rfl) ?_
        refine r_op (o_bin rfl rfl rfl rfl) ?_
        refine r_op (o_conv rfl Tryd.underlying3 Tryd.underlying5 rfl) ?_
        refine r_op (o_lit1 0 (e := 5) (sz := 1) (zs := [.int .u8 0]) (enc := encU) (IntKind.u8.wrap (IntKind.i64.wrap (48 + ((q % 10 : Nat) : Int)))) rfl rfl (by kernel_rfl) rfl rfl rfl rfl rfl rfl (.cons .sc .nil)) ?_
        refine r_op (o_convBSo rfl Tryd.underlying22 Tryd.underlying5 Tryd.underlying9 rfl rfl) ?_
        refine r_op (o_move rfl rfl) ?_
        refine r_op (o_cat rfl rfl rfl (by first | omega | (simp [bytesOf]; omega))) ?_
        refine r_op (o_assign rfl rfl) ?_
        refine r_end ?_
        refine t_region ?_
        refine r_op (o_move rfl rfl) ?_
        refine r_op (o_binD rfl rfl rfl (quo_lit 10 rfl (by decide) (by omega))) ?_
        refine r_op (o_assign rfl rfl) ?_
        refine r_end ?_
        refine t_endblock ?_
        refine t_le ?_ (ih0 (q / 10, (bytesOf ([IntKind.u8.wrap (IntKind.i64.wrap (48 + ((q % 10 : Nat) : Int)))])) ++ out) (by (try dsimp only); omega) (by (try dsimp only); exact ⟨by rw [digit_byte, ← i1, digs_step (q := q) (by omega), List.append_assoc], by omega, by rw [digit_byte]; simp only [List.length_append, List.length_cons, List.length_nil]; omega⟩))
        exact ⟨⟨rfl, ⟨rfl, ⟨rfl, ⟨rfl, trivial⟩⟩⟩⟩, trivial, rfl⟩
    ·
      have h2' := of_decide_eq_false h2
      refine t_exit rfl ?_
      refine t_seq ?_
      refine t_seq ?_
      refine t_region ?_
      refine r_op (o_move rfl rfl) ?_
      refine r_end ?_
      refine t_cond rfl (fun h4 => ?_) (fun h4 => ?_)
      ·
        have h4' := of_decide_eq_true h4
        exfalso; omega
      ·
        have h4' := of_decide_eq_false h4
        refine t_skip ?_
        refine t_seq ?_
        refine t_region ?_
        refine r_op (o_move rfl rfl) ?_
        refine r_op (o_assign rfl rfl) ?_
        refine r_end ?_
        refine t_ret Tryd.func14 (.tmp rfl .nil) rfl fun E S w u hI hd => ?_
        refine post_mk hI hd ?_ trivial rfl rfl rfl <;> clear hI hd <;> (try clear ih0)
        all_goals first | rfl | (refine scS ?_; unfold fmtN; first | (rw [if_pos (by assumption)]; done) | ((obtain rfl : q = 0 := by omega); (have e := i1; simp only [digs, List.nil_append] at e; rw [if_neg (by omega), e])))
end Go.Eng
