/- What the functions that FnMatches reaches answer. -/
import Derived.Test.YtjjoopbebildfaaGreatFnsFnMatchesp1
import Derived.Test.YtjjoopbebildfaaGreatEngZA
import Derived.Test.YtjjoopbebildfaaGreatChecked
set_option linter.unusedVariables false
set_option linter.unusedSimpArgs false
namespace Go.Eng
open Go Go.RowKit Go.Proofs
set_option maxHeartbeats 1000000 in
set_option maxRecDepth 10000 in
theorem c_cmp_Compare_int_ (x y : Int) : Pu Tryz.prog 155 [.c (.t none (.v (.int .i64 (x)))), .c (.t none (.v (.int .i64 (y))))] [] 0 (.c (.t none (.v (.int .i64 (cmpI x y))))) := by
  refine pu_enter Tryz.func155 rfl (Nat.le_of_ble_eq_true rfl) fun w S => ?_
  refine t_seq ?_
  refine t_region ?_
  refine r_op (o_assign rfl rfl) ?_
  refine r_end ?_
  refine t_seq ?_
  refine t_region ?_
  refine r_op (o_move rfl rfl) ?_
  refine r_op (o_call 0 0 false (Go.Proofs.enters_of Tryz.func181 (by kernel_rfl) rfl) (c_cmp_isNaN_int_ (x)) rfl (.cons rfl (.c .t0) .nil) rfl rfl rfl) ?_
  refine r_op (o_assign rfl rfl) ?_
  refine r_end ?_
  refine t_seq ?_
  refine t_region ?_
  refine r_op (o_move rfl rfl) ?_
  refine r_op (o_call 0 0 false (Go.Proofs.enters_of Tryz.func181 (by kernel_rfl) rfl) (c_cmp_isNaN_int_ (y)) rfl (.cons rfl (.c .t0) .nil) rfl rfl rfl) ?_
  refine r_op (o_assign rfl rfl) ?_
  refine r_end ?_
  refine t_seq ?_
  refine t_seq ?_
  refine t_region ?_
  refine r_op (o_move rfl rfl) ?_
  refine r_end ?_
  refine t_cond rfl (ncf rfl) (fun _ => ?_)
  refine t_skip ?_
  refine t_seq ?_
  refine t_seq ?_
  refine t_region ?_
  refine r_op (o_move rfl rfl) ?_
  refine r_end ?_
  refine t_cond rfl (ncf rfl) (fun _ => ?_)
  refine t_skip ?_
  refine t_seq ?_
  refine t_seq ?_
  refine t_region ?_
  refine r_op (o_move rfl rfl) ?_
  refine r_op (o_move rfl rfl) ?_
  refine r_op (o_bin rfl rfl rfl rfl) ?_
  refine r_end ?_
  refine t_cond rfl (fun h1 => ?_) (fun h1 => ?_)
  ·
    have h1' := of_decide_eq_true h1
    refine t_seq ?_
    refine t_region ?_
    refine r_op (o_assign rfl rfl) ?_
    refine r_end ?_
    refine t_ret Tryz.func155 (.tmp rfl .nil) rfl fun E S w u hI hd => ?_
    refine post_mk hI hd ?_ trivial rfl rfl rfl <;> clear hI hd
    all_goals (refine scI ?_; unfold cmpI; (rw [if_pos (by assumption)]; done))
  ·
    have h1' := of_decide_eq_false h1
    refine t_skip ?_
    refine t_seq ?_
    refine t_seq ?_
    refine t_region ?_
    refine r_op (o_move rfl rfl) ?_
    refine r_op (o_move rfl rfl) ?_
    refine r_op (o_bin rfl rfl rfl rfl) ?_
    refine r_end ?_
    refine t_cond rfl (fun h2 => ?_) (fun h2 => ?_)
    ·
      have h2' := of_decide_eq_true h2
      refine t_seq ?_
      refine t_region ?_
      refine r_op (o_assign rfl rfl) ?_
      refine r_end ?_
      refine t_ret Tryz.func155 (.tmp rfl .nil) rfl fun E S w u hI hd => ?_
      refine post_mk hI hd ?_ trivial rfl rfl rfl <;> clear hI hd
      all_goals (refine scI ?_; unfold cmpI; (rw [if_neg (by assumption), if_pos (by omega)]; done))
    ·
      have h2' := of_decide_eq_false h2
      refine t_skip ?_
      refine t_seq ?_
      refine t_region ?_
      refine r_op (o_assign rfl rfl) ?_
      refine r_end ?_
      refine t_ret Tryz.func155 (.tmp rfl .nil) rfl fun E S w u hI hd => ?_
      refine post_mk hI hd ?_ trivial rfl rfl rfl <;> clear hI hd
      all_goals (refine scI ?_; unfold cmpI; (rw [if_neg (by assumption), if_neg (by omega)]; done))
set_option maxHeartbeats 1000000 in
set_option maxRecDepth 10000 in
theorem c_slices_Compare___int_int_ (a b : List Int) (ha : a.length ≤ 4611686018427387904) (hb : b.length ≤ 4611686018427387904) : Pu Tryz.prog 156 [.c (.t none (.sl 1 encI (a))), .c (.t none (.sl 1 encI (b)))] [] 0 (.c (.t none (.v (.int .i64 (cmpL a b))))) := by
  refine pu_enter Tryz.func156 rfl (Nat.le_of_ble_eq_true rfl) fun w S => ?_
  refine t_seq ?_
  refine t_region ?_
  refine r_op (o_assign rfl rfl) ?_
  refine r_end ?_
  refine t_seq ?_
  refine t_seq ?_
  refine t_region ?_
  refine r_op (o_move rfl rfl) ?_
  refine r_op (o_len rfl rfl rfl) ?_
  refine r_op (o_move rfl rfl) ?_
  refine r_end ?_
  refine t_block ?_
  refine t_loopL (fun m => ⟨[(0, some (.c (.t none (.sl 1 encI (a))))), (1, some (.c (.t none (.sl 1 encI (b))))), (9, some (.c (.t none (.sl 1 encI (a))))), (10, some (.c (.t none (.v (.int .i64 (((a).length : Int))))))), (11, some (.c (.t none (.v (.int .i64 ((m : Int)))))))], [], 0⟩ : Nat → St) (fun m => m ≤ a.length ∧ m ≤ b.length ∧ a.take m = b.take m) (fun m => a.length - m) 0 ⟨⟨rfl, ⟨rfl, ⟨rfl, ⟨rfl, ⟨rfl, trivial⟩⟩⟩⟩⟩, trivial, rfl⟩ (by exact ⟨Nat.zero_le _, Nat.zero_le _, rfl⟩) ?_
  rintro m hI ih0
  try dsimp only at hI ih0
  obtain ⟨i1, i2, i3⟩ := hI
  refine t_seq ?_
  refine t_region ?_
  refine r_op (o_bin rfl rfl rfl rfl) ?_
  refine r_end ?_
  refine t_seq ?_
  refine t_cond rfl (fun h1 => ?_) (fun h1 => ?_)
  ·
    have h1' := of_decide_eq_true h1
    refine t_skip ?_
    refine t_seq ?_
    refine t_block ?_
    refine t_seq ?_
    refine t_region ?_
    refine r_op (o_move rfl rfl) ?_
    obtain ⟨z2, hz3, b4⟩ := at_get (xs := a) (n := (m : Int)) (by omega) (by omega)
    refine r_op (o_index rfl (by kernel_rfl) rfl rfl b4 hz3) ?_
    refine r_op (o_load1 rfl (by kernel_rfl) rfl rfl) ?_
    refine r_op (o_assign rfl rfl) ?_
    refine r_op (o_assign rfl rfl) ?_
    refine r_end ?_
    refine t_seq ?_
    refine t_seq ?_
    refine t_region ?_
    refine r_op (o_move rfl rfl) ?_
    refine r_op (o_move rfl rfl) ?_
    refine r_op (o_len rfl rfl rfl) ?_
    refine r_op (o_bin rfl rfl rfl rfl) ?_
    refine r_end ?_
    refine t_cond rfl (fun h5 => ?_) (fun h5 => ?_)
    ·
      have h5' := of_decide_eq_true h5
      refine t_seq ?_
      refine t_region ?_
      refine r_op (o_assign rfl rfl) ?_
      refine r_end ?_
      refine t_ret Tryz.func156 (.tmp rfl .nil) rfl fun E S w u hI hd => ?_
      refine post_mk hI hd ?_ trivial rfl rfl rfl <;> clear hI hd <;> (try clear ih0)
      all_goals (refine scI ?_; (rw [(cmpL_end i3 i1 i2).2.1 (by omega) (by omega)]; done))
    ·
      have h5' := of_decide_eq_false h5
      refine t_skip ?_
      refine t_seq ?_
      refine t_region ?_
      refine r_op (o_move rfl rfl) ?_
      refine r_op (o_move rfl rfl) ?_
      obtain ⟨z6, hz7, b8⟩ := at_get (xs := b) (n := (m : Int)) (by omega) (by omega)
      refine r_op (o_index rfl (by kernel_rfl) rfl rfl b8 hz7) ?_
      refine r_op (o_load1 rfl (by kernel_rfl) rfl rfl) ?_
      refine r_op (o_assign rfl rfl) ?_
      refine r_end ?_
      refine t_seq ?_
      refine t_region ?_
      refine r_op (o_move rfl rfl) ?_
      refine r_op (o_move rfl rfl) ?_
      refine r_op (o_call 0 0 false (Go.Proofs.enters_of Tryz.func155 (by kernel_rfl) rfl) (c_cmp_Compare_int_ (z2) (z6)) rfl (.cons rfl (.c .t0) (.cons rfl (.c .t0) .nil)) rfl rfl rfl) ?_
      refine r_op (o_assign rfl rfl) ?_
      refine r_end ?_
      refine t_seq ?_
      refine t_region ?_
      refine r_op (o_move rfl rfl) ?_
      refine r_op (o_bin rfl rfl rfl rfl) ?_
      refine r_end ?_
      refine t_cond rfl (fun h9 => ?_) (fun h9 => ?_)
      ·
        have h9' := of_decide_eq_true h9
        refine t_seq ?_
        refine t_region ?_
        refine r_op (o_move rfl rfl) ?_
        refine r_op (o_assign rfl rfl) ?_
        refine r_end ?_
        refine t_ret Tryz.func156 (.tmp rfl .nil) rfl fun E S w u hI hd => ?_
        refine post_mk hI hd ?_ trivial rfl rfl rfl <;> clear hI hd <;> (try clear ih0)
        all_goals (refine scI ?_; (exact cmpL_cmpI i3 (by assumption) (by assumption) (by omega)))
      ·
        have h9' := of_decide_eq_false h9
        refine t_skip ?_
        refine t_endblock ?_
        refine t_region ?_
        refine r_op (o_bin rfl rfl rfl rfl) ?_
        refine r_op (o_move rfl rfl) ?_
        refine r_end ?_
        refine t_le ?_ (ih0 (m + 1) (by (try dsimp only); omega) (by (try dsimp only); exact ⟨by omega, by omega, take_same i3 (same_at (by assumption) (by assumption) (cmpI_eq (by omega)))⟩))
        exact ⟨⟨rfl, ⟨rfl, ⟨rfl, ⟨rfl, ⟨(eqI (wr64 (by omega) (by omega))), trivial⟩⟩⟩⟩⟩, trivial, rfl⟩
  ·
    have h1' := of_decide_eq_false h1
    refine t_exit rfl ?_
    refine t_seq ?_
    refine t_seq ?_
    refine t_region ?_
    refine r_op (o_move rfl rfl) ?_
    refine r_op (o_len rfl rfl rfl) ?_
    refine r_op (o_move rfl rfl) ?_
    refine r_op (o_len rfl rfl rfl) ?_
    refine r_op (o_bin rfl rfl rfl rfl) ?_
    refine r_end ?_
    refine t_cond rfl (fun h10 => ?_) (fun h10 => ?_)
    ·
      have h10' := of_decide_eq_true h10
      refine t_seq ?_
      refine t_region ?_
      refine r_op (o_assign rfl rfl) ?_
      refine r_end ?_
      refine t_ret Tryz.func156 (.tmp rfl .nil) rfl fun E S w u hI hd => ?_
      refine post_mk hI hd ?_ trivial rfl rfl rfl <;> clear hI hd <;> (try clear ih0)
      all_goals (refine scI ?_; (rw [(cmpL_end i3 i1 i2).1 (by omega) (by omega)]; done))
    ·
      have h10' := of_decide_eq_false h10
      refine t_skip ?_
      refine t_seq ?_
      refine t_region ?_
      refine r_op (o_assign rfl rfl) ?_
      refine r_end ?_
      refine t_ret Tryz.func156 (.tmp rfl .nil) rfl fun E S w u hI hd => ?_
      refine post_mk hI hd ?_ trivial rfl rfl rfl <;> clear hI hd <;> (try clear ih0)
      all_goals (refine scI ?_; (rw [(cmpL_end i3 i1 i2).2.2 (by omega) (by omega)]; done))
set_option maxHeartbeats 1000000 in
set_option maxRecDepth 10000 in
theorem c_cmp_Or_int_ (l : List Int) (hl : l.length ≤ 4611686018427387904) : Pu Tryz.prog 154 [.c (.t none (.sl 1 encI (l)))] [] 0 (.c (.t none (.v (.int .i64 (orI l))))) := by
  refine pu_enter Tryz.func154 rfl (Nat.le_of_ble_eq_true rfl) fun w S => ?_
  refine t_seq ?_
  refine t_region ?_
  refine r_op (o_assign rfl rfl) ?_
  refine r_end ?_
  refine t_seq ?_
  refine t_region ?_
  refine r_op (o_assign rfl rfl) ?_
  refine r_end ?_
  refine t_seq ?_
  refine t_seq ?_
  refine t_region ?_
  refine r_op (o_move rfl rfl) ?_
  refine r_op (o_len rfl rfl rfl) ?_
  refine r_op (o_move rfl rfl) ?_
  refine r_end ?_
  refine t_block ?_
  refine t_loopL (fun m => ⟨[(3, some (.c (.t none (.v (.int .i64 (0)))))), (6, some (.c (.t none (.sl 1 encI (l))))), (7, some (.c (.t none (.v (.int .i64 (((l).length : Int))))))), (8, some (.c (.t none (.v (.int .i64 ((m : Int)))))))], [], 0⟩ : Nat → St) (fun m => m ≤ l.length ∧ ∀ j y, j < m → l[j]? = some y → y = 0) (fun m => l.length - m) 0 ⟨⟨rfl, ⟨rfl, ⟨rfl, ⟨rfl, trivial⟩⟩⟩⟩, trivial, rfl⟩ (by exact ⟨Nat.zero_le _, fun j z h => by omega⟩) ?_
  rintro m hI ih0
  try dsimp only at hI ih0
  obtain ⟨i1, i2⟩ := hI
  refine t_seq ?_
  refine t_region ?_
  refine r_op (o_bin rfl rfl rfl rfl) ?_
  refine r_end ?_
  refine t_seq ?_
  refine t_cond rfl (fun h1 => ?_) (fun h1 => ?_)
  ·
    have h1' := of_decide_eq_true h1
    refine t_skip ?_
    refine t_seq ?_
    refine t_block ?_
    refine t_seq ?_
    refine t_region ?_
    obtain ⟨z2, hz3, b4⟩ := at_get (xs := l) (n := (m : Int)) (by omega) (by omega)
    refine r_op (o_index rfl (by kernel_rfl) rfl rfl b4 hz3) ?_
    refine r_op (o_load1 rfl (by kernel_rfl) rfl rfl) ?_
    refine r_op (o_assign rfl rfl) ?_
    refine r_end ?_
    refine t_seq ?_
    refine t_region ?_
    refine r_op (o_move rfl rfl) ?_
    refine r_op (o_move rfl rfl) ?_
    refine r_op (o_bin rfl rfl rfl rfl) ?_
    refine r_end ?_
    refine t_cond rfl (fun h5 => ?_) (fun h5 => ?_)
    ·
      have h5' := of_decide_eq_true h5
      refine t_seq ?_
      refine t_region ?_
      refine r_op (o_move rfl rfl) ?_
      refine r_op (o_assign rfl rfl) ?_
      refine r_end ?_
      refine t_ret Tryz.func154 (.tmp rfl .nil) rfl fun E S w u hI hd => ?_
      refine post_mk hI hd ?_ trivial rfl rfl rfl <;> clear hI hd <;> (try clear ih0)
      all_goals (refine scI ?_; (rw [orI_at i2 (by assumption) (by omega)]; done))
    ·
      have h5' := of_decide_eq_false h5
      refine t_skip ?_
      refine t_endblock ?_
      refine t_region ?_
      refine r_op (o_bin rfl rfl rfl rfl) ?_
      refine r_op (o_move rfl rfl) ?_
      refine r_end ?_
      refine t_le ?_ (ih0 (m + 1) (by (try dsimp only); omega) (by (try dsimp only); exact ⟨by omega, zero_step i2 (by assumption) rfl (by omega)⟩))
      exact ⟨⟨rfl, ⟨rfl, ⟨rfl, ⟨(eqI (wr64 (by omega) (by omega))), trivial⟩⟩⟩⟩, trivial, rfl⟩
  ·
    have h1' := of_decide_eq_false h1
    refine t_exit rfl ?_
    refine t_seq ?_
    refine t_region ?_
    refine r_op (o_move rfl rfl) ?_
    refine r_op (o_assign rfl rfl) ?_
    refine r_end ?_
    refine t_ret Tryz.func154 (.tmp rfl .nil) rfl fun E S w u hI hd => ?_
    refine post_mk hI hd ?_ trivial rfl rfl rfl <;> clear hI hd <;> (try clear ih0)
    all_goals (refine scI ?_; (rw [orI_none fun j y hj hy => i2 j y (by omega) hy]; done))
set_option maxHeartbeats 1000000 in
set_option maxRecDepth 10000 in
theorem c_impl_CompareFacts (r : Int) (l : List Int) (r2 : Int) (l2 : List Int) (hl : l.length ≤ 1048576) (hl2 : l2.length ≤ 1048576) : Pu Tryz.prog 99 [.agg [.t none (.v (.int .i64 (r))), .t none (.sl 1 encI (l))], .agg [.t none (.v (.int .i64 (r2))), .t none (.sl 1 encI (l2))]] [] 0 (.c (.t none (.v (.int .i64 (cmpF (r, l) (r2, l2)))))) := by
  refine pu_enter Tryz.func99 rfl (Nat.le_of_ble_eq_true rfl) fun w S => ?_
  refine t_seq ?_
  refine t_region ?_
  refine r_op (o_box 0 rfl rfl rfl rfl) ?_
  refine r_op (o_box 1 rfl rfl rfl rfl) ?_
  refine r_op (o_assign rfl rfl) ?_
  refine r_end ?_
  refine t_seq ?_
  refine t_draw (fun _ => true) (by kernel_rfl) ?_
  refine d_take 0 rfl rfl (by kernel_rfl) (by kernel_rfl) (by kernel_rfl) (p_fieldb (off := 0) (by kernel_rfl) rfl) ?_
  refine d_take 1 rfl rfl (by kernel_rfl) (by kernel_rfl) (by kernel_rfl) (p_load1b (by kernel_rfl) rfl rfl rfl) ?_
  refine d_take 2 rfl rfl (by kernel_rfl) (by kernel_rfl) (by kernel_rfl) (p_fieldb (off := 0) (by kernel_rfl) rfl) ?_
  refine d_take 3 rfl rfl (by kernel_rfl) (by kernel_rfl) (by kernel_rfl) (p_load1b (by kernel_rfl) rfl rfl rfl) ?_
  refine d_take 5 rfl rfl (by kernel_rfl) (by kernel_rfl) (by kernel_rfl) (p_fieldb (off := 1) (by kernel_rfl) rfl) ?_
  refine d_take 6 rfl rfl (by kernel_rfl) (by kernel_rfl) (by kernel_rfl) (p_load1b (by kernel_rfl) rfl rfl rfl) ?_
  refine d_take 7 rfl rfl (by kernel_rfl) (by kernel_rfl) (by kernel_rfl) (p_fieldb (off := 1) (by kernel_rfl) rfl) ?_
  refine d_take 8 rfl rfl (by kernel_rfl) (by kernel_rfl) (by kernel_rfl) (p_load1b (by kernel_rfl) rfl rfl rfl) ?_
  refine d_only 4 rfl (by kernel_rfl) rfl (o_call 2 2 false (Go.Proofs.enters_of Tryz.func155 (by kernel_rfl) rfl) (c_cmp_Compare_int_ (r) (r2)) rfl (.cons rfl (.c .t0) (.cons rfl (.c .t0) .nil)) rfl rfl rfl) ?_
  refine d_only 9 rfl (by kernel_rfl) rfl (o_call 2 2 false (Go.Proofs.enters_of Tryz.func156 (by kernel_rfl) rfl) (c_slices_Compare___int_int_ (l) (l2) (by omega) (by omega)) rfl (.cons rfl (.c .t0) (.cons rfl (.c .t0) .nil)) rfl rfl rfl) ?_
  refine d_only 10 rfl (by kernel_rfl) rfl (o_litS 2 (e := 3) (sz := 1) (zs := [.int .i64 (0)]) rfl rfl (by kernel_rfl) rfl rfl rfl rfl rfl) ?_
  refine d_only 11 rfl (by kernel_rfl) rfl (o_call 3 3 false (Go.Proofs.enters_of Tryz.func154 (by kernel_rfl) rfl) (c_cmp_Or_int_ ([cmpI (r) (r2), cmpL (l) (l2)]) (by (simp; done))) rfl (.cons rfl (.c (.bsl rfl rfl (.cons .t (.cons .t .nil)))) .nil) rfl rfl rfl) ?_
  refine d_take 12 rfl rfl (by kernel_rfl) (by kernel_rfl) (by kernel_rfl) (p_assign rfl) ?_
  refine d_end (by kernel_rfl) ?_
  refine t_ret Tryz.func99 (.tmp rfl .nil) rfl fun E S w u hI hd => ?_
  refine post_mk hI hd ?_ trivial rfl rfl rfl <;> clear hI hd
  all_goals (refine scI ?_; exact cmpF_or (r, l) (r2, l2))
set_option maxHeartbeats 1000000 in
set_option maxRecDepth 10000 in
theorem c_impl_NullNumber (v : Int) (hv : -9223372036854775808 ≤ v) (hv2 : v ≤ 9223372036854775807) : Pu Tryz.prog 143 [.c (.t none (.v (.int .i64 (v))))] [] 0 (.tup [(false, [.t none (.v (.int .i64 (if -40 ≤ v ∧ v ≤ -1 then -1 - v else 0)))]), (false, [.t none (.v (.bool (decide (-40 ≤ v ∧ v ≤ -1))))])]) := by
  refine pu_enter Tryz.func143 rfl (Nat.le_of_ble_eq_true rfl) fun w S => ?_
  refine t_seq ?_
  refine t_region ?_
  refine r_op (o_assign rfl rfl) ?_
  refine r_op (o_assign rfl rfl) ?_
  refine r_end ?_
  refine t_seq ?_
  refine t_seq ?_
  refine t_region ?_
  refine r_op (o_move rfl rfl) ?_
  refine r_op (o_bin rfl rfl rfl rfl) ?_
  refine r_op (o_call 0 0 false (Go.Proofs.enters_of Tryz.func117 (by kernel_rfl) rfl) (c_impl_within (IntKind.i64.wrap ((-1) - v)) (0) (39)) rfl (.cons rfl (.c .t0) (.cons rfl (.c .t0) (.cons rfl (.c .t0) .nil))) rfl rfl rfl) ?_
  refine r_op (o_not rfl rfl) ?_
  refine r_end ?_
  refine t_cond rfl (fun h1 => ?_) (fun h1 => ?_)
  ·
    have h1' := of_decide_eq_false (bnt h1)
    refine t_seq ?_
    refine t_region ?_
    refine r_op (o_assign rfl rfl) ?_
    refine r_op (o_assign rfl rfl) ?_
    refine r_end ?_
    refine t_ret Tryz.func143 (.tmp rfl (.tmp rfl .nil)) rfl fun E S w u hI hd => ?_
    refine post_mk hI hd ?_ trivial rfl rfl rfl <;> clear hI hd
    all_goals (((have hn : ¬(-40 ≤ v ∧ v ≤ -1) := by (simp only [IntKind.wrap_i64] at *; omega)); (simp [hn]; done)))
  ·
    have h1' := of_decide_eq_true (bnf h1)
    refine t_skip ?_
    refine t_seq ?_
    refine t_region ?_
    refine r_op (o_move rfl rfl) ?_
    refine r_op (o_bin rfl rfl rfl rfl) ?_
    refine r_op (o_assign rfl rfl) ?_
    refine r_op (o_assign rfl rfl) ?_
    refine r_end ?_
    refine t_ret Tryz.func143 (.tmp rfl (.tmp rfl .nil)) rfl fun E S w u hI hd => ?_
    refine post_mk hI hd ?_ trivial rfl rfl rfl <;> clear hI hd
    all_goals (((have hn : (-40 ≤ v ∧ v ≤ -1) := by (simp only [IntKind.wrap_i64] at *; omega)); (have e : IntKind.i64.wrap (-1 - v) = -1 - v := wr64 (by omega) (by omega)); (simp [hn, e]; done)))
def Tryz.sortL_ren : Go.Shelf.Ren := ⟨fun | 5 => 124 | 8 => 169 | 7 => 168 | 19 => 195 | 20 => 196 | 10 => 186 | 11 => 187 | 12 => 188 | 13 => 189 | 14 => 190 | 15 => 191 | 16 => 192 | 17 => 193 | 18 => 194 | 30 => 209 | 31 => 210 | 32 => 211 | 33 => 212 | 34 => 213 | 35 => 181 | 40 => 220 | n => n, fun | 23 => 34 | 25 => 3 | 3 => 3 | 32 => 163 | 22 => 34 | 0 => 0 | 44 => 178 | 46 => 181 | 4 => 4 | 36 => 186 | 35 => 185 | 41 => 105 | 5 => 5 | 9 => 9 | 53 => 205 | 57 => 209 | 63 => 214 | 64 => 215 | n => n, fun | n => n⟩
theorem Tryz.sortL : Go.Proofs.SlLaysM.n5 Tryz.prog Tryz.sortL_ren := {
 mixed := by kernel_rfl
 f5 := ⟨Tryz.f124.name, by decide, Tryz.func124.trans (congrArg some (by kernel_rfl))⟩
 f7 := ⟨Tryz.f168.name, by decide, Tryz.func168.trans (congrArg some (by kernel_rfl))⟩
 f8 := Tryz.func169.trans (congrArg some (by kernel_rfl))
 f10 := ⟨Tryz.f186.name, by decide, Tryz.func186.trans (congrArg some (by kernel_rfl))⟩
 f11 := ⟨Tryz.f187.name, by decide, Tryz.func187.trans (congrArg some (by kernel_rfl))⟩
 f12 := ⟨Tryz.f188.name, by decide, Tryz.func188.trans (congrArg some (by kernel_rfl))⟩
 f13 := ⟨Tryz.f189.name, by decide, Tryz.func189.trans (congrArg some (by kernel_rfl))⟩
 f14 := ⟨Tryz.f190.name, by decide, Tryz.func190.trans (congrArg some (by kernel_rfl))⟩
 f15 := ⟨Tryz.f191.name, by decide, Tryz.func191.trans (congrArg some (by kernel_rfl))⟩
 f16 := ⟨Tryz.f192.name, by decide, Tryz.func192.trans (congrArg some (by kernel_rfl))⟩
 f17 := ⟨Tryz.f193.name, by decide, Tryz.func193.trans (congrArg some (by kernel_rfl))⟩
 f18 := ⟨Tryz.f194.name, by decide, Tryz.func194.trans (congrArg some (by kernel_rfl))⟩
 f19 := Tryz.func195.trans (congrArg some (by kernel_rfl))
 f20 := Tryz.func196.trans (congrArg some (by kernel_rfl))
 f30 := ⟨Tryz.f209.name, by decide, Tryz.func209.trans (congrArg some (by kernel_rfl))⟩
 f31 := Tryz.func210.trans (congrArg some (by kernel_rfl))
 f32 := Tryz.func211.trans (congrArg some (by kernel_rfl))
 f33 := ⟨Tryz.f212.name, by decide, Tryz.func212.trans (congrArg some (by kernel_rfl))⟩
 f34 := ⟨Tryz.f213.name, by decide, Tryz.func213.trans (congrArg some (by kernel_rfl))⟩
 f35 := ⟨Tryz.f181.name, by decide, Tryz.func181.trans (congrArg some (by kernel_rfl))⟩
 f40 := ⟨Tryz.f220.name, by decide, Tryz.func220.trans (congrArg some (by kernel_rfl))⟩
 t0 := Tryz.underlying0
 a0 := Tryz.isAgg0
 z0 := Tryz.sizeOf0
 v0 := Tryz.zeroValue0
 t3 := Tryz.underlying3
 a3 := Tryz.isAgg3
 z3 := Tryz.sizeOf3
 v3 := Tryz.zeroValue3
 t4 := Tryz.underlying4
 a4 := Tryz.isAgg4
 z4 := Tryz.sizeOf4
 v4 := Tryz.zeroValue4
 t5 := Tryz.underlying5
 a5 := Tryz.isAgg5
 z5 := Tryz.sizeOf5
 v5 := Tryz.zeroValue5
 t9 := Tryz.underlying9
 a9 := Tryz.isAgg9
 z9 := Tryz.sizeOf9
 v9 := Tryz.zeroValue9
 t22 := Tryz.underlying34
 a22 := Tryz.isAgg34
 z22 := Tryz.sizeOf34
 v22 := Tryz.zeroValue34
 t23 := Tryz.underlying34
 a23 := Tryz.isAgg34
 z23 := Tryz.sizeOf34
 v23 := Tryz.zeroValue34
 t25 := Tryz.underlying3
 a25 := Tryz.isAgg3
 z25 := Tryz.sizeOf3
 v25 := Tryz.zeroValue3
 t32 := Tryz.underlying163
 a32 := Tryz.isAgg163
 z32 := Tryz.sizeOf163
 v32 := Tryz.zeroValue163
 t35 := Tryz.underlying185
 a35 := Tryz.isAgg185
 z35 := Tryz.sizeOf185
 v35 := Tryz.zeroValue185
 t36 := Tryz.underlying186
 a36 := Tryz.isAgg186
 z36 := Tryz.sizeOf186
 v36 := Tryz.zeroValue186
 t41 := Tryz.underlying105
 a41 := Tryz.isAgg105
 z41 := Tryz.sizeOf105
 v41 := Tryz.zeroValue105
 t44 := Tryz.underlying178
 a44 := Tryz.isAgg178
 z44 := Tryz.sizeOf178
 v44 := Tryz.zeroValue178
 t46 := Tryz.underlying181
 a46 := Tryz.isAgg181
 z46 := Tryz.sizeOf181
 v46 := Tryz.zeroValue181
 t53 := Tryz.underlying205
 a53 := Tryz.isAgg205
 z53 := Tryz.sizeOf205
 v53 := Tryz.zeroValue205
 t57 := Tryz.underlying209
 a57 := Tryz.isAgg209
 z57 := Tryz.sizeOf209
 v57 := Tryz.zeroValue209
 t63 := Tryz.underlying214
 a63 := Tryz.isAgg214
 z63 := Tryz.sizeOf214
 v63 := Tryz.zeroValue214
 t64 := Tryz.underlying215
 a64 := Tryz.isAgg215
 z64 := Tryz.sizeOf215
 v64 := Tryz.zeroValue215 }
set_option maxHeartbeats 1000000 in
set_option maxRecDepth 10000 in
theorem c_slices_Sort___int_int_ (U : Nat → Value) (e0 : Nat) (l : List Int) (hl : l.length ≤ 1099511627776) : Mu Tryz.prog 124 [.c (.own 0)] [(0, some (.row (some (U 0)) e0 true 1 encI (l)))] 1 [(0, some (.row (some (U 0)) e0 true 1 encI (sortI l)))] 1 (.tup []) := by
  exact sort_mu Tryz.sortL U e0 l (by omega)
set_option maxHeartbeats 1000000 in
set_option maxRecDepth 10000 in
theorem c_slices_Compact___int_int_ (U : Nat → Value) (e0 : Nat) (l : List Int) (hl : l.length ≤ 4611686018427387904) : Mu Tryz.prog 125 [.c (.own 0)] [(0, some (.row (some (U 0)) e0 true 1 encI (l)))] 1 [(0, some (.row none e0 true 1 encI (compactI l)))] 1 (.c (.own 0)) := by
  refine mu_enter Tryz.func125 rfl (Nat.le_of_ble_eq_true rfl) fun w S M => ?_
  refine t_seq ?_
  refine t_region ?_
  refine r_op (o_assign rfl rfl) ?_
  refine r_end ?_
  refine t_seq ?_
  refine t_seq ?_
  refine t_region ?_
  refine r_op (o_move rfl rfl) ?_
  refine r_op (o_leno rfl rfl rfl rfl) ?_
  refine r_op (o_bin rfl rfl rfl rfl) ?_
  refine r_end ?_
  refine t_cond rfl (fun h1 => ?_) (fun h1 => ?_)
  ·
    have h1' := of_decide_eq_true h1
    refine t_seq ?_
    refine t_region ?_
    refine r_op (o_move rfl rfl) ?_
    refine r_op (o_assign rfl rfl) ?_
    refine r_end ?_
    refine gt_unpin 0 rfl ?_
    refine t_ret Tryz.func125 (.tmp rfl .nil) rfl fun E S w u hI hd => ?_
    refine postM_mk hI hd ?_ ⟨eqR ?_, trivial⟩ rfl rfl <;> clear hI hd <;> (try clear ih0) <;> (try clear ih1)
    all_goals first | rfl | ((match l with | [] => rfl | [_] => rfl | _ :: _ :: _ => (exfalso; simp at *; omega)))
  ·
    have h1' := of_decide_eq_false h1
    refine t_skip ?_
    refine t_seq ?_
    refine t_seq ?_
    refine t_region ?_
    refine r_op (o_assign rfl rfl) ?_
    refine r_end ?_
    refine t_block ?_
    refine t_loopL (fun m => ⟨[(0, some (.c (.own 0))), (3, some (.c (.t none (.v (.int .i64 ((m : Int)))))))], [(0, some (.row (some (U 0)) e0 true 1 encI (l)))], 1⟩ : Nat → St) (fun m => 1 ≤ m ∧ m ≤ l.length ∧ compactI (l.take m) = l.take m) (fun m => l.length - m) 1 ⟨⟨rfl, ⟨(eqI rfl), trivial⟩⟩, ⟨rfl, trivial⟩, rfl⟩ (by exact ⟨Nat.le_refl _, by omega, by (rcases l with _ | ⟨x, l⟩ <;> simp [compactI])⟩) ?_
    rintro m hI ih0
    try dsimp only at hI ih0
    obtain ⟨i1, i2, i3⟩ := hI
    refine t_seq ?_
    refine t_seq ?_
    refine t_region ?_
    refine r_op (o_move rfl rfl) ?_
    refine r_op (o_move rfl rfl) ?_
    refine r_op (o_leno rfl rfl rfl rfl) ?_
    refine r_op (o_bin rfl rfl rfl rfl) ?_
    refine r_end ?_
    refine t_cond rfl (fun h2 => ?_) (fun h2 => ?_)
    ·
      have h2' := of_decide_eq_true h2
      refine t_skip ?_
      refine t_seq ?_
      refine t_block ?_
      refine t_seq ?_
      refine t_draw (fun _ => true) (by kernel_rfl) ?_
      refine d_take 0 rfl rfl (by kernel_rfl) (by kernel_rfl) (by kernel_rfl) (p_move rfl) ?_
      refine d_take 1 rfl rfl (by kernel_rfl) (by kernel_rfl) (by kernel_rfl) (p_move rfl) ?_
      obtain ⟨z3, hz4, b5⟩ := at_get (xs := l) (n := (m : Int)) (by omega) (by omega)
      refine d_take 2 rfl rfl (by kernel_rfl) (by kernel_rfl) (by kernel_rfl) (p_indexo (by kernel_rfl) rfl rfl rfl b5 (at_lt b5 hz4)) ?_
      refine d_take 3 rfl rfl (by kernel_rfl) (by kernel_rfl) (by kernel_rfl) (p_load1o (by kernel_rfl) rfl rfl rfl hz4) ?_
      refine d_take 4 rfl rfl (by kernel_rfl) (by kernel_rfl) (by kernel_rfl) (p_move rfl) ?_
      refine d_take 5 rfl rfl (by kernel_rfl) (by kernel_rfl) (by kernel_rfl) (p_move rfl) ?_
      refine d_take 6 rfl rfl (by kernel_rfl) (by kernel_rfl) (by kernel_rfl) (p_bin rfl rfl rfl) ?_
      obtain ⟨z6, hz7, b8⟩ := at_get (xs := l) (n := IntKind.i64.wrap ((m : Int) - 1)) (by (simp only [IntKind.wrap_i64]; omega)) (by (simp only [IntKind.wrap_i64]; omega))
      refine d_take 7 rfl rfl (by kernel_rfl) (by kernel_rfl) (by kernel_rfl) (p_indexo (by kernel_rfl) rfl rfl rfl b8 (at_lt b8 hz7)) ?_
      refine d_take 8 rfl rfl (by kernel_rfl) (by kernel_rfl) (by kernel_rfl) (p_load1o (by kernel_rfl) rfl rfl rfl hz7) ?_
      refine d_take 9 rfl rfl (by kernel_rfl) (by kernel_rfl) (by kernel_rfl) (p_bin rfl rfl rfl) ?_
      refine d_end (by kernel_rfl) ?_
      refine t_cond rfl (fun h9 => ?_) (fun h9 => ?_)
      ·
        have h9' := of_decide_eq_true h9
        refine t_seq ?_
        refine t_region ?_
        refine r_op (o_move rfl rfl) ?_
        refine r_op (o_move rfl rfl) ?_
        refine r_op (o_subvl rfl (by kernel_rfl) rfl rfl rfl (by omega) (by omega)) ?_
        refine r_op (o_assign rfl rfl) ?_
        refine r_end ?_
        refine t_seq ?_
        refine t_seq ?_
        refine t_region ?_
        refine r_op (o_assign rfl rfl) ?_
        refine r_end ?_
        refine t_block ?_
        refine t_loopL (fun (j, k, q) => ⟨[(0, some (.c (.own 0))), (3, some (.c (.t none (.v (.int .i64 ((k : Int))))))), (4, some (.c (.vw 0 (((m : Int)).toNat) (((l).length - ((m : Int)).toNat)) 1))), (5, some (.c (.t none (.v (.int .i64 ((j : Int)))))))], [(0, some (.row (some (U 0)) e0 true 1 encI (q)))], 1⟩ : Nat × Nat × List Int → St) (fun (j, k, q) => 1 ≤ j ∧ cmpK l q k (m + j)) (fun (j, k, q) => l.length - j) (1, m, l) ⟨⟨rfl, ⟨rfl, ⟨rfl, ⟨(eqI rfl), trivial⟩⟩⟩⟩, ⟨rfl, trivial⟩, rfl⟩ (by exact ⟨Nat.le_refl _, cmpK_start i3 (by assumption) (by assumption) (by simp only [IntKind.wrap_i64]; omega) i1 (by omega)⟩) ?_
        rintro ⟨j, k, q⟩ hI ih1
        try dsimp only at hI ih1
        obtain ⟨j0, j1⟩ := hI; have j2 := j1.1; have j3 := j1.2.1; have j4 := j1.2.2.1
        refine t_seq ?_
        refine t_seq ?_
        refine t_region ?_
        refine r_op (o_move rfl rfl) ?_
        refine r_op (o_move rfl rfl) ?_
        refine r_op (o_lenv rfl rfl rfl) ?_
        refine r_op (o_bin rfl rfl rfl rfl) ?_
        refine r_end ?_
        refine t_cond rfl (fun h10 => ?_) (fun h10 => ?_)
        ·
          have h10' := of_decide_eq_true h10
          refine t_skip ?_
          refine t_seq ?_
          refine t_block ?_
          refine t_seq ?_
          refine t_draw (fun _ => true) (by kernel_rfl) ?_
          refine d_take 0 rfl rfl (by kernel_rfl) (by kernel_rfl) (by kernel_rfl) (p_move rfl) ?_
          refine d_take 1 rfl rfl (by kernel_rfl) (by kernel_rfl) (by kernel_rfl) (p_move rfl) ?_
          obtain ⟨z11, hz12⟩ := vw_get (xs := q) (n := (((m : Int)).toNat + ((j : Int)).toNat)) (by omega)
          refine d_take 2 rfl rfl (by kernel_rfl) (by kernel_rfl) (by kernel_rfl) (p_indexv (by kernel_rfl) rfl rfl (by omega) (by omega)) ?_
          refine d_take 3 rfl rfl (by kernel_rfl) (by kernel_rfl) (by kernel_rfl) (p_load1o (by kernel_rfl) rfl rfl rfl hz12) ?_
          refine d_take 4 rfl rfl (by kernel_rfl) (by kernel_rfl) (by kernel_rfl) (p_move rfl) ?_
          refine d_take 5 rfl rfl (by kernel_rfl) (by kernel_rfl) (by kernel_rfl) (p_move rfl) ?_
          refine d_take 6 rfl rfl (by kernel_rfl) (by kernel_rfl) (by kernel_rfl) (p_bin rfl rfl rfl) ?_
          obtain ⟨z14, hz15⟩ := vw_get (xs := q) (n := (((m : Int)).toNat + (IntKind.i64.wrap ((j : Int) - 1)).toNat)) (by (simp only [IntKind.wrap_i64]; omega))
          refine d_take 7 rfl rfl (by kernel_rfl) (by kernel_rfl) (by kernel_rfl) (p_indexv (by kernel_rfl) rfl rfl (by (simp only [IntKind.wrap_i64]; omega)) (by (simp only [IntKind.wrap_i64]; omega))) ?_
          refine d_take 8 rfl rfl (by kernel_rfl) (by kernel_rfl) (by kernel_rfl) (p_load1o (by kernel_rfl) rfl rfl rfl hz15) ?_
          refine d_take 9 rfl rfl (by kernel_rfl) (by kernel_rfl) (by kernel_rfl) (p_bin rfl rfl rfl) ?_
          refine d_end (by kernel_rfl) ?_
          refine t_cond rfl (fun h17 => ?_) (fun h17 => ?_)
          ·
            have h17' := of_decide_eq_true h17
            refine t_seq ?_
            refine t_region ?_
            refine r_op (o_move rfl rfl) ?_
            refine r_op (o_move rfl rfl) ?_
            refine r_op (o_move rfl rfl) ?_
            refine r_op (o_move rfl rfl) ?_
            refine r_op (o_indexv rfl (by kernel_rfl) rfl rfl (by omega) (by omega)) ?_
            refine r_op (o_load1o rfl (by kernel_rfl) rfl rfl rfl hz12) ?_
            obtain ⟨z18, hz19, b20⟩ := at_get (xs := q) (n := (k : Int)) (by omega) (by omega)
            refine r_op (o_indexo rfl (by kernel_rfl) rfl rfl rfl b20 (at_lt b20 hz19)) ?_
            refine r_op (o_storeo (z11) (n := 1) (by kernel_rfl) rfl rfl hz19 rfl rfl rfl rfl (.cons .sc .nil) rfl (fun j h1 h2 => by simp at h1 h2; omega)) ?_
            refine r_end ?_
            refine t_region ?_
            refine r_op (o_move rfl rfl) ?_
            refine r_op (o_bin rfl rfl rfl rfl) ?_
            refine r_op (o_assign rfl rfl) ?_
            refine r_end ?_
            refine t_endblock ?_
            refine t_region ?_
            refine r_op (o_move rfl rfl) ?_
            refine r_op (o_bin rfl rfl rfl rfl) ?_
            refine r_op (o_assign rfl rfl) ?_
            refine r_end ?_
            refine t_le ?_ (ih1 (j + 1, k + 1, (q).set ((k : Int)).toNat (z11)) (by (try dsimp only); omega) (by (try dsimp only); exact ⟨by omega, cmpK_more (j := m + j) (n := ((m : Int)).toNat + (IntKind.i64.wrap ((j : Int) - 1)).toNat) j1 (by assumption) (by assumption) (by simp only [IntKind.wrap_i64]; omega) (by omega)⟩))
            exact ⟨⟨rfl, ⟨(eqI (wr64 (by omega) (by omega))), ⟨rfl, ⟨(eqI (wr64 (by omega) (by omega))), trivial⟩⟩⟩⟩, ⟨rfl, trivial⟩, rfl⟩
          ·
            have h17' := of_decide_eq_false h17
            refine t_skip ?_
            refine t_endblock ?_
            refine t_region ?_
            refine r_op (o_move rfl rfl) ?_
            refine r_op (o_bin rfl rfl rfl rfl) ?_
            refine r_op (o_assign rfl rfl) ?_
            refine r_end ?_
            refine t_le ?_ (ih1 (j + 1, k, q) (by (try dsimp only); omega) (by (try dsimp only); exact ⟨by omega, cmpK_same (j := m + j) (n := ((m : Int)).toNat + (IntKind.i64.wrap ((j : Int) - 1)).toNat) j1 (by assumption) (by assumption) (by simp only [IntKind.wrap_i64]; omega) (by omega)⟩))
            exact ⟨⟨rfl, ⟨rfl, ⟨rfl, ⟨(eqI (wr64 (by omega) (by omega))), trivial⟩⟩⟩⟩, ⟨rfl, trivial⟩, rfl⟩
        ·
          have h10' := of_decide_eq_false h10
          refine t_exit rfl ?_
          refine t_seq ?_
          refine t_region ?_
          refine r_op (o_move rfl rfl) ?_
          refine r_op (o_move rfl rfl) ?_
          refine r_op (o_subvl rfl (by kernel_rfl) rfl rfl rfl (by omega) (by omega)) ?_
          refine r_op (o_clearv (0) rfl rfl Tryz.underlying34 (by kernel_rfl) rfl (.v rfl) (by omega) (by omega)) ?_
          refine r_end ?_
          refine t_seq ?_
          refine t_region ?_
          refine r_op (o_move rfl rfl) ?_
          refine r_op (o_move rfl rfl) ?_
          refine r_op (o_subvh rfl (by kernel_rfl) rfl rfl rfl (by omega) (by (simp only [List.length_append, List.length_take, List.length_replicate, List.length_drop]; omega)) (by (simp only [List.length_append, List.length_take, List.length_replicate, List.length_drop]; omega))) ?_
          refine r_op (o_assign rfl rfl) ?_
          refine r_end ?_
          refine gt_shrink 2 0 rfl rfl (by (simp only [List.length_append, List.length_take, List.length_replicate, List.length_drop]; omega)) (by (simp only [List.length_append, List.length_take, List.length_replicate, List.length_drop]; omega)) ?_
          refine t_ret Tryz.func125 (.tmp rfl .nil) rfl fun E S w u hI hd => ?_
          refine postM_mk hI hd ?_ ⟨eqR ?_, trivial⟩ rfl rfl <;> clear hI hd <;> (try clear ih0) <;> (try clear ih1)
          all_goals first | rfl | (rw [List.append_assoc]; exact cmpK_fin j1 (by omega))
      ·
        have h9' := of_decide_eq_false h9
        refine t_skip ?_
        refine t_endblock ?_
        refine t_region ?_
        refine r_op (o_move rfl rfl) ?_
        refine r_op (o_bin rfl rfl rfl rfl) ?_
        refine r_op (o_assign rfl rfl) ?_
        refine r_end ?_
        refine t_le ?_ (ih0 (m + 1) (by (try dsimp only); omega) (by (try dsimp only); exact ⟨by omega, by omega, cmp_first i3 (by assumption) (by assumption) (by simp only [IntKind.wrap_i64]; omega) i1 (by omega)⟩))
        exact ⟨⟨rfl, ⟨(eqI (wr64 (by omega) (by omega))), trivial⟩⟩, ⟨rfl, trivial⟩, rfl⟩
    ·
      have h2' := of_decide_eq_false h2
      refine t_exit rfl ?_
      refine t_seq ?_
      refine t_region ?_
      refine r_op (o_move rfl rfl) ?_
      refine r_op (o_assign rfl rfl) ?_
      refine r_end ?_
      refine gt_unpin 0 rfl ?_
      refine t_ret Tryz.func125 (.tmp rfl .nil) rfl fun E S w u hI hd => ?_
      refine postM_mk hI hd ?_ ⟨eqR ?_, trivial⟩ rfl rfl <;> clear hI hd <;> (try clear ih0) <;> (try clear ih1)
      all_goals first | rfl | (rw [List.take_of_length_le (by omega)] at i3; exact i3.symm)
set_option maxHeartbeats 1000000 in
set_option maxRecDepth 10000 in
theorem c_impl_nullsOf (l : List Int) (hl : l.length ≤ 1048576) (ho : ∀ x ∈ l, okI x) : Pu Tryz.prog 95 [.c (.t none (.sl 1 encI (l)))] [(0, some (.row none 3 true 1 encI (setI (nulV l))))] 1 (.c (.own 0)) := by
  refine pu_enter Tryz.func95 rfl (Nat.le_of_ble_eq_true rfl) fun w S => ?_
  refine t_seq ?_
  refine t_region ?_
  refine r_op (o_assign rfl rfl) ?_
  refine r_end ?_
  refine t_seq ?_
  refine t_region ?_
  refine r_op (o_lit0 0 (e := 3) (sz := 1) (zs := [.int .i64 (0)]) encI rfl rfl (by kernel_rfl) rfl) ?_
  refine r_op (o_assign rfl rfl) ?_
  refine r_end ?_
  refine t_seq ?_
  refine t_seq ?_
  refine t_region ?_
  refine r_op (o_move rfl rfl) ?_
  refine r_op (o_len rfl rfl rfl) ?_
  refine r_op (o_move rfl rfl) ?_
  refine r_end ?_
  refine t_block ?_
  refine t_loopL (fun m => ⟨[(2, some (.c (.t none (.v (.slice none 0 0))))), (3, some (.c (.own 0))), (9, some (.c (.t none (.sl 1 encI (l))))), (10, some (.c (.t none (.v (.int .i64 (((l).length : Int))))))), (11, some (.c (.t none (.v (.int .i64 ((m : Int)))))))], [(0, some (.row none 3 true 1 encI (nulV (l.take m))))], 1⟩ : Nat → St) (fun m => m ≤ l.length) (fun m => l.length - m) 0 ⟨⟨rfl, ⟨rfl, ⟨rfl, ⟨rfl, ⟨rfl, trivial⟩⟩⟩⟩⟩, ⟨rfl, trivial⟩, rfl⟩ (by exact Nat.zero_le _) ?_
  rintro m hI ih0
  try dsimp only at hI ih0
  have i1 := hI; have q2 := nulV_part l m
  refine t_seq ?_
  refine t_region ?_
  refine r_op (o_bin rfl rfl rfl rfl) ?_
  refine r_end ?_
  refine t_seq ?_
  refine t_cond rfl (fun h1 => ?_) (fun h1 => ?_)
  ·
    have h1' := of_decide_eq_true h1
    refine t_skip ?_
    refine t_seq ?_
    refine t_block ?_
    refine t_seq ?_
    refine t_region ?_
    obtain ⟨z2, hz3, b4⟩ := at_get (xs := l) (n := (m : Int)) (by omega) (by omega)
    refine r_op (o_index rfl (by kernel_rfl) rfl rfl b4 hz3) ?_
    refine r_op (o_load1 rfl (by kernel_rfl) rfl rfl) ?_
    refine r_op (o_assign rfl rfl) ?_
    refine r_end ?_
    refine t_seq ?_
    refine t_region ?_
    refine r_op (o_move rfl rfl) ?_
    refine r_op (o_call 1 1 false (Go.Proofs.enters_of Tryz.func143 (by kernel_rfl) rfl) (c_impl_NullNumber (z2) (by exact (ho _ (List.mem_of_getElem? (by assumption))).1) (by exact (ho _ (List.mem_of_getElem? (by assumption))).2)) rfl (.cons rfl (.c .t0) .nil) rfl rfl rfl) ?_
    refine r_op (o_move rfl rfl) ?_
    refine r_op (o_extract rfl rfl rfl rfl) ?_
    refine r_op (o_extract rfl rfl rfl rfl) ?_
    refine r_op (o_assign rfl rfl) ?_
    refine r_op (o_assign rfl rfl) ?_
    refine r_end ?_
    refine t_seq ?_
    refine t_region ?_
    refine r_op (o_move rfl rfl) ?_
    refine r_end ?_
    refine t_cond rfl (fun h5 => ?_) (fun h5 => ?_)
    ·
      have h5' := of_decide_eq_true h5
      refine t_region ?_
      refine r_op (o_move rfl rfl) ?_
      refine r_op (o_move rfl rfl) ?_
      refine r_op (o_litS 1 (e := 3) (sz := 1) (zs := [.int .i64 (0)]) rfl rfl (by kernel_rfl) rfl rfl rfl rfl rfl) ?_
      refine r_op (o_append 0 (e := 3) (sz := 1) (by' := 8) (if -40 ≤ (z2) ∧ (z2) ≤ -1 then -1 - (z2) else 0) rfl (by kernel_rfl) rfl rfl rfl rfl rfl rfl (.cons .sc .nil) rfl (by omega) (by omega)) ?_
      refine r_op (o_assign rfl rfl) ?_
      refine r_end ?_
      refine t_endblock ?_
      refine t_region ?_
      refine r_op (o_bin rfl rfl rfl rfl) ?_
      refine r_op (o_move rfl rfl) ?_
      refine r_end ?_
      refine t_le ?_ (ih0 (m + 1) (by (try dsimp only); omega) (by (try dsimp only); omega))
      exact ⟨⟨rfl, ⟨rfl, ⟨rfl, ⟨rfl, ⟨(eqI (wr64 (by omega) (by omega))), trivial⟩⟩⟩⟩⟩, ⟨(eqR (by (rw [nulV_more (by assumption) (by assumption)]; done))), trivial⟩, rfl⟩
    ·
      have h5' := of_decide_eq_false h5
      refine t_skip ?_
      refine t_endblock ?_
      refine t_region ?_
      refine r_op (o_bin rfl rfl rfl rfl) ?_
      refine r_op (o_move rfl rfl) ?_
      refine r_end ?_
      refine t_le ?_ (ih0 (m + 1) (by (try dsimp only); omega) (by (try dsimp only); omega))
      exact ⟨⟨rfl, ⟨rfl, ⟨rfl, ⟨rfl, ⟨(eqI (wr64 (by omega) (by omega))), trivial⟩⟩⟩⟩⟩, ⟨(eqR (by (rw [nulV_same (by assumption) (by assumption)]; done))), trivial⟩, rfl⟩
  ·
    have h1' := of_decide_eq_false h1
    refine t_exit rfl ?_
    refine t_seq ?_
    refine t_region ?_
    refine r_op (o_move rfl rfl) ?_
    refine r_op (o_callH [⟨0, none, 3, 1, _, encI, nulV (l.take m), sortI (nulV (l.take m))⟩] (Go.Proofs.enters_of Tryz.func124 (by kernel_rfl) rfl) (fun U => c_slices_Sort___int_int_ U 3 (nulV (l.take m)) (by omega)) rfl ⟨rfl, trivial⟩ rfl rfl (.cons rfl (.own rfl) .nil) rfl) ?_
    refine r_end ?_
    refine t_seq ?_
    refine t_region ?_
    refine r_op (o_move rfl rfl) ?_
    refine r_op (o_callC 0 (l' := compactI (sortI (nulV (l.take m)))) (Go.Proofs.enters_of Tryz.func125 (by kernel_rfl) rfl) (fun U => c_slices_Compact___int_int_ U 3 (sortI (nulV (l.take m))) (by (rw [sortI_len]; omega))) rfl rfl (.cons rfl (.own rfl) .nil)) ?_
    refine r_op (o_assign rfl rfl) ?_
    refine r_end ?_
    refine t_ret Tryz.func95 (.tmp rfl .nil) rfl fun E S w u hI hd => ?_
    refine post_mk hI hd ?_ ⟨eqR ?_, trivial⟩ rfl rfl rfl <;> clear hI hd <;> (try clear ih0)
    all_goals first | rfl | ((rw [nulV_end (by omega), compact_sort]))
set_option maxHeartbeats 1000000 in
set_option maxRecDepth 10000 in
theorem c_impl_NullsOfFact (r : Int) (l : List Int) (hl : l.length ≤ 1048576) (ho : ∀ x ∈ l, okI x) : Pu Tryz.prog 100 [.agg [.t none (.v (.int .i64 (r))), .t none (.sl 1 encI (l))]] [(1, some (.row none 3 true 1 encI (setI (nulV l))))] 2 (.c (.own 1)) := by
  refine pu_enter Tryz.func100 rfl (Nat.le_of_ble_eq_true rfl) fun w S => ?_
  refine t_seq ?_
  refine t_region ?_
  refine r_op (o_box 0 rfl rfl rfl rfl) ?_
  refine r_op (o_assign rfl rfl) ?_
  refine r_end ?_
  refine t_seq ?_
  refine t_region ?_
  refine r_op (o_fieldb rfl (off := 1) (by kernel_rfl) rfl) ?_
  refine r_op (o_load1b rfl (by kernel_rfl) rfl rfl rfl) ?_
  refine r_op (o_call 1 2 false (Go.Proofs.enters_of Tryz.func95 (by kernel_rfl) rfl) (c_impl_nullsOf (l) (by omega) (by omega)) rfl (.cons rfl (.c .t0) .nil) rfl rfl rfl) ?_
  refine r_op (o_assign rfl rfl) ?_
  refine r_end ?_
  refine t_ret Tryz.func100 (.tmp rfl .nil) rfl fun E S w u hI hd => ?_
  refine post_mk hI hd ?_ ⟨eqR ?_, trivial⟩ rfl rfl rfl <;> clear hI hd
  all_goals (rfl)
set_option maxHeartbeats 1000000 in
set_option maxRecDepth 10000 in
theorem c_impl_IsValidInstance (rs : Rels) (l : Atoms) (hrs : rs.length ≤ 4611686018427387904) (hl : szS (fun (x : Int × (List (Int))) => (x.2).length) l ≤ 1048576) (ho : ∀ z ∈ l, ∀ x ∈ z.2, okI x) : Pu Tryz.prog 45 [.agg [.t none (.sl 3 (enS3 encS encI encB) (rs)), .t none (.sl 2 (enS2 encI (enSl 1 encI)) (l))]] [] 0 (.c (.t none (.v (.bool (instOk rs l))))) := by
  refine pu_enter Tryz.func45 rfl (Nat.le_of_ble_eq_true rfl) fun w S => ?_
  have gl := sz_len (f := (fun (x : Int × (List (Int))) => (x.2).length)) (l := l)
  refine t_seq ?_
  refine t_region ?_
  refine r_op (o_box 0 rfl rfl rfl rfl) ?_
  refine r_op (o_assign rfl rfl) ?_
  refine r_end ?_
  refine t_seq ?_
  refine t_seq ?_
  refine t_region ?_
  refine r_op (o_fieldb rfl (off := 0) (by kernel_rfl) rfl) ?_
  refine r_op (o_load1b rfl (by kernel_rfl) rfl rfl rfl) ?_
  refine r_op (o_call 1 1 false (Go.Proofs.enters_of Tryz.func97 (by kernel_rfl) rfl) (c_impl_AreValidRelations (rs) (by omega)) rfl (.cons rfl (.c .t0) .nil) rfl rfl rfl) ?_
  refine r_op (o_not rfl rfl) ?_
  refine r_op (o_move rfl rfl) ?_
  refine r_guard rfl rfl rfl (fun g1 => ?_) (fun g1 => ?_)
  ·
    have g1' := (bnf g1)
    refine r_op (o_fieldb rfl (off := 1) (by kernel_rfl) rfl) ?_
    refine r_guard rfl rfl rfl (fun _ => ?_) (ncf g1)
    refine r_op (o_load1b rfl (by kernel_rfl) rfl rfl rfl) ?_
    refine r_guard rfl rfl rfl (fun _ => ?_) (ncf g1)
    refine r_op (o_len rfl rfl rfl) ?_
    refine r_guard rfl rfl rfl (fun _ => ?_) (ncf g1)
    refine r_op (o_bin rfl rfl rfl rfl) ?_
    refine r_op (o_pickF rfl rfl g1 rfl) ?_
    refine r_end ?_
    refine t_cond rfl (fun h2 => ?_) (fun h2 => ?_)
    ·
      have h2' := of_decide_eq_true h2
      refine t_seq ?_
      refine t_region ?_
      refine r_op (o_assign rfl rfl) ?_
      refine r_end ?_
      refine t_ret Tryz.func45 (.tmp rfl .nil) rfl fun E S w u hI hd => ?_
      refine post_mk hI hd ?_ trivial rfl rfl rfl <;> clear hI hd <;> (try clear ih0)
      all_goals (refine scB ?_; (rw [instOk_no (by clear hl gl ho hrs; grind)]; done))
    ·
      have h2' := of_decide_eq_false h2
      refine t_skip ?_
      refine t_seq ?_
      refine t_seq ?_
      refine t_region ?_
      refine r_op (o_fieldb rfl (off := 1) (by kernel_rfl) rfl) ?_
      refine r_op (o_load1b rfl (by kernel_rfl) rfl rfl rfl) ?_
      refine r_op (o_len rfl rfl rfl) ?_
      refine r_op (o_move rfl rfl) ?_
      refine r_end ?_
      refine t_block ?_
      refine t_loopL (fun m => ⟨[(1, some (.c (.ptr 0 0))), (16, some (.c (.t none (.sl 2 (enS2 encI (enSl 1 encI)) (l))))), (17, some (.c (.t none (.v (.int .i64 (((l).length : Int))))))), (18, some (.c (.t none (.v (.int .i64 ((m : Int)))))))], [(0, some (.box [.t none (.sl 3 (enS3 encS encI encB) (rs)), .t none (.sl 2 (enS2 encI (enSl 1 encI)) (l))]))], 1⟩ : Nat → St) (fun m => m ≤ l.length ∧ ∀ j, j < m → instStep rs l j = true) (fun m => l.length - m) 0 ⟨⟨rfl, ⟨rfl, ⟨rfl, ⟨rfl, trivial⟩⟩⟩⟩, ⟨rfl, trivial⟩, rfl⟩ (by exact ⟨Nat.zero_le _, fun j h => by omega⟩) ?_
      rintro m hI ih0
      try dsimp only at hI ih0
      obtain ⟨i1, i2⟩ := hI
      refine t_seq ?_
      refine t_region ?_
      refine r_op (o_bin rfl rfl rfl rfl) ?_
      refine r_end ?_
      refine t_seq ?_
      refine t_cond rfl (fun h3 => ?_) (fun h3 => ?_)
      ·
        have h3' := of_decide_eq_true h3
        refine t_skip ?_
        refine t_seq ?_
        refine t_block ?_
        refine t_seq ?_
        refine t_region ?_
        refine r_op (o_move rfl rfl) ?_
        obtain ⟨z4, hz5, b6⟩ := at_get (xs := l) (n := (m : Int)) (by omega) (by omega)
        refine r_op (o_index rfl (by kernel_rfl) rfl rfl b6 hz5) ?_
        refine r_op (o_loadA rfl (n := 2) (by kernel_rfl) (by kernel_rfl) rfl rfl) ?_
        refine r_op (o_alloc 1 (zs := [.int .i64 (0), .slice none 0 0]) rfl rfl (by kernel_rfl) rfl) ?_
        refine r_op (o_assign rfl rfl) ?_
        refine r_op (o_storeb (n := 2) (by kernel_rfl) rfl rfl rfl rfl rfl rfl) ?_
        refine r_end ?_
        refine t_seq ?_
        refine t_seq ?_
        refine t_draw (fun _ => true) (by kernel_rfl) ?_
        refine d_take 0 rfl rfl (by kernel_rfl) (by kernel_rfl) (by kernel_rfl) (p_fieldb (off := 0) (by kernel_rfl) rfl) ?_
        refine d_take 1 rfl rfl (by kernel_rfl) (by kernel_rfl) (by kernel_rfl) (p_load1b (by kernel_rfl) rfl rfl rfl) ?_
        refine d_take 2 rfl rfl (by kernel_rfl) (by kernel_rfl) (by kernel_rfl) (p_loadAb (n := 2) (by kernel_rfl) (by kernel_rfl) rfl rfl rfl) ?_
        refine d_only 3 rfl (by kernel_rfl) rfl (o_call 2 2 false (Go.Proofs.enters_of Tryz.func98 (by kernel_rfl) rfl) (c_impl_IsValidFact (rs) (z4.1) (z4.2) (by omega) (by (have e1 := sz_at (f := (fun (x : Int × (List (Int))) => (x.2).length)) (l := l) (m := m) (by assumption); (try dsimp only at e1); omega)) (by exact ho _ (List.mem_of_getElem? (by assumption)))) rfl (.cons rfl (.c .t0) (.cons rfl (.agg (.cons .t0 (.cons .t0 .nil))) .nil)) rfl rfl rfl) ?_
        refine d_take 4 rfl rfl (by kernel_rfl) (by kernel_rfl) (by kernel_rfl) (p_not rfl) ?_
        refine d_take 5 rfl rfl (by kernel_rfl) (by kernel_rfl) (by kernel_rfl) (p_move rfl) ?_
        refine d_guard 6 rfl rfl (by kernel_rfl) (by kernel_rfl) (by kernel_rfl) rfl rfl (fun _ => p_move rfl) (fun g7 => ?_) (fun g7 => ?_)
        ·
          have g7' := (bnf g7)
          refine d_guard 7 rfl rfl (by kernel_rfl) (by kernel_rfl) (by kernel_rfl) rfl rfl (fun _ => p_bin rfl rfl rfl) (fun _ => ?_) (ncf g7)
          refine d_guard 8 rfl rfl (by kernel_rfl) (by kernel_rfl) (by kernel_rfl) rfl rfl (fun _ => p_move rfl) (fun _ => ?_) (ncf g7)
          refine d_guard 9 rfl rfl (by kernel_rfl) (by kernel_rfl) (by kernel_rfl) rfl rfl (fun _ => p_fieldb (off := 1) (by kernel_rfl) rfl) (fun g8 => ?_) (fun g8 => ?_)
          ·
            have g8' := of_decide_eq_true g8
            refine d_guard 10 rfl rfl (by kernel_rfl) (by kernel_rfl) (by kernel_rfl) rfl rfl (fun _ => p_load1b (by kernel_rfl) rfl rfl rfl) (fun _ => ?_) (nc g8)
            refine d_guard 11 rfl rfl (by kernel_rfl) (by kernel_rfl) (by kernel_rfl) rfl rfl (fun _ => p_move rfl) (fun _ => ?_) (nc g8)
            refine d_guard 12 rfl rfl (by kernel_rfl) (by kernel_rfl) (by kernel_rfl) rfl rfl (fun _ => p_bin rfl rfl rfl) (fun _ => ?_) (nc g8)
            obtain ⟨z9, hz10, b11⟩ := at_get (xs := l) (n := IntKind.i64.wrap ((m : Int) - 1)) (by (simp only [IntKind.wrap_i64] at *; omega)) (by (simp only [IntKind.wrap_i64] at *; omega))
            refine d_guard 13 rfl rfl (by kernel_rfl) (by kernel_rfl) (by kernel_rfl) rfl rfl (fun _ => p_index (by kernel_rfl) rfl rfl b11 hz10) (fun _ => ?_) (nc g8)
            refine d_guard 14 rfl rfl (by kernel_rfl) (by kernel_rfl) (by kernel_rfl) rfl rfl (fun _ => p_loadA (n := 2) (by kernel_rfl) (by kernel_rfl) rfl rfl) (fun _ => ?_) (nc g8)
            refine d_guard 15 rfl rfl (by kernel_rfl) (by kernel_rfl) (by kernel_rfl) rfl rfl (fun _ => p_loadAb (n := 2) (by kernel_rfl) (by kernel_rfl) rfl rfl rfl) (fun _ => ?_) (nc g8)
            refine d_onlyG 16 rfl rfl (by kernel_rfl) rfl rfl rfl (fun _ => (o_call 2 2 false (Go.Proofs.enters_of Tryz.func99 (by kernel_rfl) rfl) (c_impl_CompareFacts (z9.1) (z9.2) (z4.1) (z4.2) (by (have e1 := sz_at (f := (fun (x : Int × (List (Int))) => (x.2).length)) (l := l) (m := (IntKind.i64.wrap ((m : Int) - 1)).toNat) (by assumption); (try dsimp only at e1); omega)) (by (have e1 := sz_at (f := (fun (x : Int × (List (Int))) => (x.2).length)) (l := l) (m := m) (by assumption); (try dsimp only at e1); omega))) rfl (.cons rfl (.agg (.cons .t0 (.cons .t0 .nil))) (.cons rfl (.agg (.cons .t0 (.cons .t0 .nil))) .nil)) rfl rfl rfl)) (fun _ => ?_) (nc g8)
            refine d_guard 17 rfl rfl (by kernel_rfl) (by kernel_rfl) (by kernel_rfl) rfl rfl (fun _ => p_bin rfl rfl rfl) (fun _ => ?_) (nc g8)
            refine d_guard 18 rfl rfl (by kernel_rfl) (by kernel_rfl) (by kernel_rfl) rfl rfl (fun _ => p_pickT rfl g8 rfl) (fun _ => ?_) (ncf g7)
            refine d_take 19 rfl rfl (by kernel_rfl) (by kernel_rfl) (by kernel_rfl) (p_pickF rfl g7 rfl) ?_
            refine d_end (by kernel_rfl) ?_
            refine t_cond rfl (fun h12 => ?_) (fun h12 => ?_)
            ·
              have h12' := of_decide_eq_true h12
              refine t_seq ?_
              refine t_region ?_
              refine r_op (o_assign rfl rfl) ?_
              refine r_end ?_
              refine t_ret Tryz.func45 (.tmp rfl .nil) rfl fun E S w u hI hd => ?_
              refine post_mk hI hd ?_ trivial rfl rfl rfl <;> clear hI hd <;> (try clear ih0)
              all_goals (refine scB ?_; (rw [instOk_not (rs := rs) (l := l) (m := m) (by omega) (by (try (have qb := instStep_bad (rs := rs) (l := l) (m := m) hz5 (by assumption))); (try (have qz := instStep_zero (rs := rs) (l := l) (m := m) hz5 (by omega))); (try (have qp := instStep_pos (rs := rs) (l := l) (m := m) hz5 (by omega) hz10 (by simp only [IntKind.wrap_i64]; omega))); (try (have qS := srcA_at (rs := rs) (r := z4.1) (ts := z4.2) hz10)); (try (have qT := srcA_at (rs := rs) (r := z4.1) (ts := z4.2) (by assumption))); clear hl gl ho hrs; grind)]; done))
            ·
              have h12' := of_decide_eq_false h12
              refine t_skip ?_
              refine t_seq ?_
              refine t_region ?_
              refine r_op (o_fieldb rfl (off := 0) (by kernel_rfl) rfl) ?_
              refine r_op (o_load1b rfl (by kernel_rfl) rfl rfl rfl) ?_
              refine r_op (o_fieldb rfl (off := 0) (by kernel_rfl) rfl) ?_
              refine r_op (o_load1b rfl (by kernel_rfl) rfl rfl rfl) ?_
              obtain ⟨z13, hz14, b15⟩ := at_get (xs := rs) (n := z4.1) (by exact (fact_idx (by assumption)).1) (by exact (fact_idx (by assumption)).2)
              refine r_op (o_index rfl (by kernel_rfl) rfl rfl b15 hz14) ?_
              refine r_op (o_field rfl (off := 2) (by kernel_rfl) rfl) ?_
              refine r_op (o_load1 rfl (by kernel_rfl) rfl rfl) ?_
              refine r_op (o_move rfl rfl) ?_
              refine r_guard rfl rfl rfl (fun g16 => ?_) (fun g16 => ?_)
              ·
                have g16' := g16
                refine r_op (o_loadAb rfl (n := 2) (by kernel_rfl) (by kernel_rfl) rfl rfl rfl) ?_
                refine r_guard rfl rfl rfl (fun _ => ?_) (nc g16)
                refine r_op (o_call 2 4 false (Go.Proofs.enters_of Tryz.func100 (by kernel_rfl) rfl) (c_impl_NullsOfFact (z4.1) (z4.2) (by (have e1 := sz_at (f := (fun (x : Int × (List (Int))) => (x.2).length)) (l := l) (m := m) (by assumption); (try dsimp only at e1); omega)) (by exact ho _ (List.mem_of_getElem? (by assumption)))) rfl (.cons rfl (.agg (.cons .t0 (.cons .t0 .nil))) .nil) rfl rfl rfl) ?_
                refine r_guard rfl rfl rfl (fun _ => ?_) (nc g16)
                refine r_op (o_leno rfl rfl rfl rfl) ?_
                refine r_guard rfl rfl rfl (fun _ => ?_) (nc g16)
                refine r_op (o_bin rfl rfl rfl rfl) ?_
                refine r_op (o_pickT rfl rfl g16 rfl) ?_
                refine r_end ?_
                refine t_cond rfl (fun h17 => ?_) (fun h17 => ?_)
                ·
                  have h17' := of_decide_eq_true h17
                  refine t_seq ?_
                  refine t_region ?_
                  refine r_op (o_assign rfl rfl) ?_
                  refine r_end ?_
                  refine t_ret Tryz.func45 (.tmp rfl .nil) rfl fun E S w u hI hd => ?_
                  refine post_mk hI hd ?_ trivial rfl rfl rfl <;> clear hI hd <;> (try clear ih0)
                  all_goals (refine scB ?_; (rw [instOk_not (rs := rs) (l := l) (m := m) (by omega) (by (try (have qb := instStep_bad (rs := rs) (l := l) (m := m) hz5 (by assumption))); (try (have qz := instStep_zero (rs := rs) (l := l) (m := m) hz5 (by omega))); (try (have qp := instStep_pos (rs := rs) (l := l) (m := m) hz5 (by omega) hz10 (by simp only [IntKind.wrap_i64]; omega))); (try (have qS := srcA_at (rs := rs) (r := z4.1) (ts := z4.2) hz10)); (try (have qT := srcA_at (rs := rs) (r := z4.1) (ts := z4.2) hz14)); clear hl gl ho hrs; grind)]; done))
                ·
                  have h17' := of_decide_eq_false h17
                  refine t_skip ?_
                  refine t_endblock ?_
                  refine t_region ?_
                  refine r_op (o_bin rfl rfl rfl rfl) ?_
                  refine r_op (o_move rfl rfl) ?_
                  refine r_end ?_
                  refine t_le ?_ (ih0 (m + 1) (by (try dsimp only); omega) (by (try dsimp only); exact ⟨by omega, step_all i2 (by (try (have qb := instStep_bad (rs := rs) (l := l) (m := m) hz5 (by assumption))); (try (have qz := instStep_zero (rs := rs) (l := l) (m := m) hz5 (by omega))); (try (have qp := instStep_pos (rs := rs) (l := l) (m := m) hz5 (by omega) hz10 (by simp only [IntKind.wrap_i64]; omega))); (try (have qS := srcA_at (rs := rs) (r := z4.1) (ts := z4.2) hz10)); (try (have qT := srcA_at (rs := rs) (r := z4.1) (ts := z4.2) hz14)); clear hl gl ho hrs; grind)⟩))
                  exact ⟨⟨rfl, ⟨rfl, ⟨rfl, ⟨(eqI (wr64 (by omega) (by omega))), trivial⟩⟩⟩⟩, ⟨rfl, trivial⟩, rfl⟩
              ·
                have g16' := g16
                refine r_guard rfl rfl rfl (ncf g16) (fun _ => ?_)
                refine r_guard rfl rfl rfl (ncf g16) (fun _ => ?_)
                refine r_guard rfl rfl rfl (ncf g16) (fun _ => ?_)
                refine r_op (o_pickF rfl rfl g16 rfl) ?_
                refine r_end ?_
                refine t_cond rfl (ncf rfl) (fun _ => ?_)
                refine t_skip ?_
                refine t_endblock ?_
                refine t_region ?_
                refine r_op (o_bin rfl rfl rfl rfl) ?_
                refine r_op (o_move rfl rfl) ?_
                refine r_end ?_
                refine t_le ?_ (ih0 (m + 1) (by (try dsimp only); omega) (by (try dsimp only); exact ⟨by omega, step_all i2 (by (try (have qb := instStep_bad (rs := rs) (l := l) (m := m) hz5 (by assumption))); (try (have qz := instStep_zero (rs := rs) (l := l) (m := m) hz5 (by omega))); (try (have qp := instStep_pos (rs := rs) (l := l) (m := m) hz5 (by omega) hz10 (by simp only [IntKind.wrap_i64]; omega))); (try (have qS := srcA_at (rs := rs) (r := z4.1) (ts := z4.2) hz10)); (try (have qT := srcA_at (rs := rs) (r := z4.1) (ts := z4.2) hz14)); clear hl gl ho hrs; grind)⟩))
                exact ⟨⟨rfl, ⟨rfl, ⟨rfl, ⟨(eqI (wr64 (by omega) (by omega))), trivial⟩⟩⟩⟩, ⟨rfl, trivial⟩, rfl⟩
          ·
            have g8' := of_decide_eq_false g8
            refine d_guard 10 rfl rfl (by kernel_rfl) (by kernel_rfl) (by kernel_rfl) rfl rfl (v := .c .top) (ncf g8) (ncf g8) (fun _ => ?_)
            refine d_guard 11 rfl rfl (by kernel_rfl) (by kernel_rfl) (by kernel_rfl) rfl rfl (v := .c .top) (ncf g8) (ncf g8) (fun _ => ?_)
            refine d_guard 12 rfl rfl (by kernel_rfl) (by kernel_rfl) (by kernel_rfl) rfl rfl (v := .c .top) (ncf g8) (ncf g8) (fun _ => ?_)
            refine d_guard 13 rfl rfl (by kernel_rfl) (by kernel_rfl) (by kernel_rfl) rfl rfl (v := .c .top) (ncf g8) (ncf g8) (fun _ => ?_)
            refine d_guard 14 rfl rfl (by kernel_rfl) (by kernel_rfl) (by kernel_rfl) rfl rfl (v := .c .top) (ncf g8) (ncf g8) (fun _ => ?_)
            refine d_guard 15 rfl rfl (by kernel_rfl) (by kernel_rfl) (by kernel_rfl) rfl rfl (v := .c .top) (ncf g8) (ncf g8) (fun _ => ?_)
            refine d_guard 16 rfl rfl (by kernel_rfl) (by kernel_rfl) (by kernel_rfl) rfl rfl (v := .c .top) (ncf g8) (ncf g8) (fun _ => ?_)
            refine d_guard 17 rfl rfl (by kernel_rfl) (by kernel_rfl) (by kernel_rfl) rfl rfl (v := .c .top) (ncf g8) (ncf g8) (fun _ => ?_)
            refine d_guard 18 rfl rfl (by kernel_rfl) (by kernel_rfl) (by kernel_rfl) rfl rfl (fun _ => p_pickF rfl g8 rfl) (fun _ => ?_) (ncf g7)
            refine d_take 19 rfl rfl (by kernel_rfl) (by kernel_rfl) (by kernel_rfl) (p_pickF rfl g7 rfl) ?_
            refine d_end (by kernel_rfl) ?_
            refine t_cond rfl (ncf rfl) (fun _ => ?_)
            refine t_skip ?_
            refine t_seq ?_
            refine t_region ?_
            refine r_op (o_fieldb rfl (off := 0) (by kernel_rfl) rfl) ?_
            refine r_op (o_load1b rfl (by kernel_rfl) rfl rfl rfl) ?_
            refine r_op (o_fieldb rfl (off := 0) (by kernel_rfl) rfl) ?_
            refine r_op (o_load1b rfl (by kernel_rfl) rfl rfl rfl) ?_
            obtain ⟨z18, hz19, b20⟩ := at_get (xs := rs) (n := z4.1) (by exact (fact_idx (by assumption)).1) (by exact (fact_idx (by assumption)).2)
            refine r_op (o_index rfl (by kernel_rfl) rfl rfl b20 hz19) ?_
            refine r_op (o_field rfl (off := 2) (by kernel_rfl) rfl) ?_
            refine r_op (o_load1 rfl (by kernel_rfl) rfl rfl) ?_
            refine r_op (o_move rfl rfl) ?_
            refine r_guard rfl rfl rfl (fun g21 => ?_) (fun g21 => ?_)
            ·
              have g21' := g21
              refine r_op (o_loadAb rfl (n := 2) (by kernel_rfl) (by kernel_rfl) rfl rfl rfl) ?_
              refine r_guard rfl rfl rfl (fun _ => ?_) (nc g21)
              refine r_op (o_call 2 4 false (Go.Proofs.enters_of Tryz.func100 (by kernel_rfl) rfl) (c_impl_NullsOfFact (z4.1) (z4.2) (by (have e1 := sz_at (f := (fun (x : Int × (List (Int))) => (x.2).length)) (l := l) (m := m) (by assumption); (try dsimp only at e1); omega)) (by exact ho _ (List.mem_of_getElem? (by assumption)))) rfl (.cons rfl (.agg (.cons .t0 (.cons .t0 .nil))) .nil) rfl rfl rfl) ?_
              refine r_guard rfl rfl rfl (fun _ => ?_) (nc g21)
              refine r_op (o_leno rfl rfl rfl rfl) ?_
              refine r_guard rfl rfl rfl (fun _ => ?_) (nc g21)
              refine r_op (o_bin rfl rfl rfl rfl) ?_
              refine r_op (o_pickT rfl rfl g21 rfl) ?_
              refine r_end ?_
              refine t_cond rfl (fun h22 => ?_) (fun h22 => ?_)
              ·
                have h22' := of_decide_eq_true h22
                refine t_seq ?_
                refine t_region ?_
                refine r_op (o_assign rfl rfl) ?_
                refine r_end ?_
                refine t_ret Tryz.func45 (.tmp rfl .nil) rfl fun E S w u hI hd => ?_
                refine post_mk hI hd ?_ trivial rfl rfl rfl <;> clear hI hd <;> (try clear ih0)
                all_goals (refine scB ?_; (rw [instOk_not (rs := rs) (l := l) (m := m) (by omega) (by (try (have qb := instStep_bad (rs := rs) (l := l) (m := m) hz5 (by assumption))); (try (have qz := instStep_zero (rs := rs) (l := l) (m := m) hz5 (by omega))); (try (have qp := instStep_pos (rs := rs) (l := l) (m := m) hz5 (by omega) hz19 (by simp only [IntKind.wrap_i64]; omega))); (try (have qS := srcA_at (rs := rs) (r := z4.1) (ts := z4.2) hz19)); (try (have qT := srcA_at (rs := rs) (r := z4.1) (ts := z4.2) (by assumption))); clear hl gl ho hrs; grind)]; done))
              ·
                have h22' := of_decide_eq_false h22
                refine t_skip ?_
                refine t_endblock ?_
                refine t_region ?_
                refine r_op (o_bin rfl rfl rfl rfl) ?_
                refine r_op (o_move rfl rfl) ?_
                refine r_end ?_
                refine t_le ?_ (ih0 (m + 1) (by (try dsimp only); omega) (by (try dsimp only); exact ⟨by omega, step_all i2 (by (try (have qb := instStep_bad (rs := rs) (l := l) (m := m) hz5 (by assumption))); (try (have qz := instStep_zero (rs := rs) (l := l) (m := m) hz5 (by omega))); (try (have qp := instStep_pos (rs := rs) (l := l) (m := m) hz5 (by omega) hz19 (by simp only [IntKind.wrap_i64]; omega))); (try (have qS := srcA_at (rs := rs) (r := z4.1) (ts := z4.2) hz19)); (try (have qT := srcA_at (rs := rs) (r := z4.1) (ts := z4.2) (by assumption))); clear hl gl ho hrs; grind)⟩))
                exact ⟨⟨rfl, ⟨rfl, ⟨rfl, ⟨(eqI (wr64 (by omega) (by omega))), trivial⟩⟩⟩⟩, ⟨rfl, trivial⟩, rfl⟩
            ·
              have g21' := g21
              refine r_guard rfl rfl rfl (ncf g21) (fun _ => ?_)
              refine r_guard rfl rfl rfl (ncf g21) (fun _ => ?_)
              refine r_guard rfl rfl rfl (ncf g21) (fun _ => ?_)
              refine r_op (o_pickF rfl rfl g21 rfl) ?_
              refine r_end ?_
              refine t_cond rfl (ncf rfl) (fun _ => ?_)
              refine t_skip ?_
              refine t_endblock ?_
              refine t_region ?_
              refine r_op (o_bin rfl rfl rfl rfl) ?_
              refine r_op (o_move rfl rfl) ?_
              refine r_end ?_
              refine t_le ?_ (ih0 (m + 1) (by (try dsimp only); omega) (by (try dsimp only); exact ⟨by omega, step_all i2 (by (try (have qb := instStep_bad (rs := rs) (l := l) (m := m) hz5 (by assumption))); (try (have qz := instStep_zero (rs := rs) (l := l) (m := m) hz5 (by omega))); (try (have qp := instStep_pos (rs := rs) (l := l) (m := m) hz5 (by omega) hz19 (by simp only [IntKind.wrap_i64]; omega))); (try (have qS := srcA_at (rs := rs) (r := z4.1) (ts := z4.2) hz19)); (try (have qT := srcA_at (rs := rs) (r := z4.1) (ts := z4.2) (by assumption))); clear hl gl ho hrs; grind)⟩))
              exact ⟨⟨rfl, ⟨rfl, ⟨rfl, ⟨(eqI (wr64 (by omega) (by omega))), trivial⟩⟩⟩⟩, ⟨rfl, trivial⟩, rfl⟩
        ·
          have g7' := (bnt g7)
          refine d_guard 7 rfl rfl (by kernel_rfl) (by kernel_rfl) (by kernel_rfl) rfl rfl (v := .c .top) (nc g7) (nc g7) (fun _ => ?_)
          refine d_guard 8 rfl rfl (by kernel_rfl) (by kernel_rfl) (by kernel_rfl) rfl rfl (v := .c .top) (nc g7) (nc g7) (fun _ => ?_)
          refine d_skip 9 rfl rfl (by kernel_rfl) (by kernel_rfl) (by kernel_rfl) rfl rfl ?_
          refine d_skip 10 rfl rfl (by kernel_rfl) (by kernel_rfl) (by kernel_rfl) rfl rfl ?_
          refine d_skip 11 rfl rfl (by kernel_rfl) (by kernel_rfl) (by kernel_rfl) rfl rfl ?_
          refine d_skip 12 rfl rfl (by kernel_rfl) (by kernel_rfl) (by kernel_rfl) rfl rfl ?_
          refine d_skip 13 rfl rfl (by kernel_rfl) (by kernel_rfl) (by kernel_rfl) rfl rfl ?_
          refine d_skip 14 rfl rfl (by kernel_rfl) (by kernel_rfl) (by kernel_rfl) rfl rfl ?_
          refine d_skip 15 rfl rfl (by kernel_rfl) (by kernel_rfl) (by kernel_rfl) rfl rfl ?_
          refine d_skip 16 rfl rfl (by kernel_rfl) (by kernel_rfl) (by kernel_rfl) rfl rfl ?_
          refine d_skip 17 rfl rfl (by kernel_rfl) (by kernel_rfl) (by kernel_rfl) rfl rfl ?_
          refine d_guard 18 rfl rfl (by kernel_rfl) (by kernel_rfl) (by kernel_rfl) rfl rfl (v := .c .top) (nc g7) (nc g7) (fun _ => ?_)
          refine d_take 19 rfl rfl (by kernel_rfl) (by kernel_rfl) (by kernel_rfl) (p_pickT rfl g7 rfl) ?_
          refine d_end (by kernel_rfl) ?_
          refine t_cond rfl (fun _ => ?_) (nc rfl)
          refine t_seq ?_
          refine t_region ?_
          refine r_op (o_assign rfl rfl) ?_
          refine r_end ?_
          refine t_ret Tryz.func45 (.tmp rfl .nil) rfl fun E S w u hI hd => ?_
          refine post_mk hI hd ?_ trivial rfl rfl rfl <;> clear hI hd <;> (try clear ih0)
          all_goals (refine scB ?_; (rw [instOk_not (rs := rs) (l := l) (m := m) (by omega) (by (try (have qb := instStep_bad (rs := rs) (l := l) (m := m) hz5 (by assumption))); (try (have qz := instStep_zero (rs := rs) (l := l) (m := m) hz5 (by omega))); (try (have qp := instStep_pos (rs := rs) (l := l) (m := m) hz5 (by omega) (by assumption) (by simp only [IntKind.wrap_i64]; omega))); (try (have qS := srcA_at (rs := rs) (r := z4.1) (ts := z4.2) (by assumption))); (try (have qT := srcA_at (rs := rs) (r := z4.1) (ts := z4.2) (by assumption))); clear hl gl ho hrs; grind)]; done))
      ·
        have h3' := of_decide_eq_false h3
        refine t_exit rfl ?_
        refine t_seq ?_
        refine t_region ?_
        refine r_op (o_assign rfl rfl) ?_
        refine r_end ?_
        refine t_ret Tryz.func45 (.tmp rfl .nil) rfl fun E S w u hI hd => ?_
        refine post_mk hI hd ?_ trivial rfl rfl rfl <;> clear hI hd <;> (try clear ih0)
        all_goals (refine scB ?_; (rw [instOk_end (m := m) i2 (by omega)]; clear hl gl ho hrs; grind))
  ·
    have g1' := (bnt g1)
    refine r_guard rfl rfl rfl (nc g1) (fun _ => ?_)
    refine r_guard rfl rfl rfl (nc g1) (fun _ => ?_)
    refine r_guard rfl rfl rfl (nc g1) (fun _ => ?_)
    refine r_op (o_pickT rfl rfl g1 rfl) ?_
    refine r_end ?_
    refine t_cond rfl (fun _ => ?_) (nc rfl)
    refine t_seq ?_
    refine t_region ?_
    refine r_op (o_assign rfl rfl) ?_
    refine r_end ?_
    refine t_ret Tryz.func45 (.tmp rfl .nil) rfl fun E S w u hI hd => ?_
    refine post_mk hI hd ?_ trivial rfl rfl rfl <;> clear hI hd <;> (try clear ih0)
    all_goals (refine scB ?_; (rw [instOk_no (by clear hl gl ho hrs; grind)]; done))
set_option maxHeartbeats 1000000 in
set_option maxRecDepth 10000 in
theorem c_impl_IsValidAtom_1 (t : Int) : Pu Tryz.prog 183 [.c (.t none (.v (.int .i64 (t))))] [] 0 (.c (.t none (.v (.bool (!(termOk t)))))) := by
  refine pu_enter Tryz.func183 rfl (Nat.le_of_ble_eq_true rfl) fun w S => ?_
  refine t_seq ?_
  refine t_region ?_
  refine r_op (o_assign rfl rfl) ?_
  refine r_end ?_
  refine t_seq ?_
  refine t_region ?_
  refine r_op (o_move rfl rfl) ?_
  refine r_op (o_call 0 0 false (Go.Proofs.enters_of Tryz.func117 (by kernel_rfl) rfl) (c_impl_within (t) (-10) (4)) rfl (.cons rfl (.c .t0) (.cons rfl (.c .t0) (.cons rfl (.c .t0) .nil))) rfl rfl rfl) ?_
  refine r_op (o_not rfl rfl) ?_
  refine r_op (o_assign rfl rfl) ?_
  refine r_end ?_
  refine t_ret Tryz.func183 (.tmp rfl .nil) rfl fun E S w u hI hd => ?_
  refine post_mk hI hd ?_ trivial rfl rfl rfl <;> clear hI hd
  all_goals (rfl)
set_option maxHeartbeats 1000000 in
set_option maxRecDepth 10000 in
theorem c_impl_IsValidAtom (rs : List (List UInt8 × Int × Bool)) (r : Int) (ts : List Int) (hrs : rs.length ≤ 4611686018427387904) (hts : ts.length ≤ 4611686018427387904) : Pu Tryz.prog 164 [.c (.t none (.sl 3 (enS3 encS encI encB) (rs))), .agg [.t none (.v (.int .i64 (r))), .t none (.sl 1 encI (ts))]] [] 0 (.c (.t none (.v (.bool (atomOk rs r ts))))) := by
  refine pu_enter Tryz.func164 rfl (Nat.le_of_ble_eq_true rfl) fun w S => ?_
  refine t_seq ?_
  refine t_region ?_
  refine r_op (o_box 0 rfl rfl rfl rfl) ?_
  refine r_op (o_assign rfl rfl) ?_
  refine r_end ?_
  refine t_seq ?_
  refine t_seq ?_
  refine t_draw (fun _ => true) (by kernel_rfl) ?_
  refine d_take 0 rfl rfl (by kernel_rfl) (by kernel_rfl) (by kernel_rfl) (p_move rfl) ?_
  refine d_only 1 rfl (by kernel_rfl) rfl (o_call 1 1 false (Go.Proofs.enters_of Tryz.func97 (by kernel_rfl) rfl) (c_impl_AreValidRelations (rs) (by omega)) rfl (.cons rfl (.c .t0) .nil) rfl rfl rfl) ?_
  refine d_take 2 rfl rfl (by kernel_rfl) (by kernel_rfl) (by kernel_rfl) (p_not rfl) ?_
  refine d_take 3 rfl rfl (by kernel_rfl) (by kernel_rfl) (by kernel_rfl) (p_move rfl) ?_
  refine d_guard 4 rfl rfl (by kernel_rfl) (by kernel_rfl) (by kernel_rfl) rfl rfl (fun _ => p_fieldb (off := 0) (by kernel_rfl) rfl) (fun g1 => ?_) (fun g1 => ?_)
  ·
    have g1' := (bnf g1)
    refine d_guard 5 rfl rfl (by kernel_rfl) (by kernel_rfl) (by kernel_rfl) rfl rfl (fun _ => p_load1b (by kernel_rfl) rfl rfl rfl) (fun _ => ?_) (ncf g1)
    refine d_guard 6 rfl rfl (by kernel_rfl) (by kernel_rfl) (by kernel_rfl) rfl rfl (fun _ => p_move rfl) (fun _ => ?_) (ncf g1)
    refine d_guard 7 rfl rfl (by kernel_rfl) (by kernel_rfl) (by kernel_rfl) rfl rfl (fun _ => p_len rfl rfl) (fun _ => ?_) (ncf g1)
    refine d_guard 8 rfl rfl (by kernel_rfl) (by kernel_rfl) (by kernel_rfl) rfl rfl (fun _ => p_bin rfl rfl rfl) (fun _ => ?_) (ncf g1)
    refine d_onlyG 9 rfl rfl (by kernel_rfl) rfl rfl rfl (fun _ => (o_call 1 1 false (Go.Proofs.enters_of Tryz.func117 (by kernel_rfl) rfl) (c_impl_within (r) (0) (IntKind.i64.wrap (((rs).length : Int) - 1))) rfl (.cons rfl (.c .t0) (.cons rfl (.c .t0) (.cons rfl (.c .t0) .nil))) rfl rfl rfl)) (fun _ => ?_) (ncf g1)
    refine d_guard 10 rfl rfl (by kernel_rfl) (by kernel_rfl) (by kernel_rfl) rfl rfl (fun _ => p_not rfl) (fun _ => ?_) (ncf g1)
    refine d_take 11 rfl rfl (by kernel_rfl) (by kernel_rfl) (by kernel_rfl) (p_pickF rfl g1 rfl) ?_
    refine d_take 12 rfl rfl (by kernel_rfl) (by kernel_rfl) (by kernel_rfl) (p_move rfl) ?_
    refine d_guard 13 rfl rfl (by kernel_rfl) (by kernel_rfl) (by kernel_rfl) rfl rfl (fun _ => p_fieldb (off := 1) (by kernel_rfl) rfl) (fun g2 => ?_) (fun g2 => ?_)
    ·
      have g2' := of_decide_eq_true (bnf g2)
      refine d_guard 14 rfl rfl (by kernel_rfl) (by kernel_rfl) (by kernel_rfl) rfl rfl (fun _ => p_load1b (by kernel_rfl) rfl rfl rfl) (fun _ => ?_) (ncf g2)
      refine d_guard 15 rfl rfl (by kernel_rfl) (by kernel_rfl) (by kernel_rfl) rfl rfl (fun _ => p_len rfl rfl) (fun _ => ?_) (ncf g2)
      refine d_guard 16 rfl rfl (by kernel_rfl) (by kernel_rfl) (by kernel_rfl) rfl rfl (fun _ => p_move rfl) (fun _ => ?_) (ncf g2)
      refine d_guard 17 rfl rfl (by kernel_rfl) (by kernel_rfl) (by kernel_rfl) rfl rfl (fun _ => p_fieldb (off := 0) (by kernel_rfl) rfl) (fun _ => ?_) (ncf g2)
      refine d_guard 18 rfl rfl (by kernel_rfl) (by kernel_rfl) (by kernel_rfl) rfl rfl (fun _ => p_load1b (by kernel_rfl) rfl rfl rfl) (fun _ => ?_) (ncf g2)
      obtain ⟨z3, hz4, b5⟩ := at_get (xs := rs) (n := r) (by omega) (by (simp only [IntKind.wrap_i64] at *; omega))
      refine d_guard 19 rfl rfl (by kernel_rfl) (by kernel_rfl) (by kernel_rfl) rfl rfl (fun _ => p_index (by kernel_rfl) rfl rfl b5 hz4) (fun _ => ?_) (ncf g2)
      refine d_guard 20 rfl rfl (by kernel_rfl) (by kernel_rfl) (by kernel_rfl) rfl rfl (fun _ => p_field (off := 1) (by kernel_rfl) rfl) (fun _ => ?_) (ncf g2)
      refine d_guard 21 rfl rfl (by kernel_rfl) (by kernel_rfl) (by kernel_rfl) rfl rfl (fun _ => p_load1 (by kernel_rfl) rfl rfl) (fun _ => ?_) (ncf g2)
      refine d_guard 22 rfl rfl (by kernel_rfl) (by kernel_rfl) (by kernel_rfl) rfl rfl (fun _ => p_bin rfl rfl rfl) (fun _ => ?_) (ncf g2)
      refine d_take 23 rfl rfl (by kernel_rfl) (by kernel_rfl) (by kernel_rfl) (p_pickF rfl g2 rfl) ?_
      refine d_end (by kernel_rfl) ?_
      refine t_cond rfl (fun h6 => ?_) (fun h6 => ?_)
      ·
        have h6' := of_decide_eq_true h6
        refine t_seq ?_
        refine t_region ?_
        refine r_op (o_assign rfl rfl) ?_
        refine r_end ?_
        refine t_ret Tryz.func164 (.tmp rfl .nil) rfl fun E S w u hI hd => ?_
        refine post_mk hI hd ?_ trivial rfl rfl rfl <;> clear hI hd
        all_goals (refine scB ?_; (rw [atom_no3 (by assumption) (by assumption)]; done))
      ·
        have h6' := of_decide_eq_false h6
        refine t_skip ?_
        refine t_seq ?_
        refine t_region ?_
        refine r_op (o_fieldb rfl (off := 1) (by kernel_rfl) rfl) ?_
        refine r_op (o_load1b rfl (by kernel_rfl) rfl rfl rfl) ?_
        refine r_op (o_call 1 1 false (Go.Proofs.enters_of Tryz.func152 (by kernel_rfl) rfl) (c_slices_ContainsFunc___int_int_ (ts) (183) ([]) (fun (x0 : Int) => !(termOk (x0))) (by omega) (fun x0 mx0 => ⟨Go.Proofs.enters_of Tryz.func183 (by kernel_rfl) rfl, c_impl_IsValidAtom_1 (x0)⟩)) rfl (.cons rfl (.c .t0) (.cons rfl (.c (.clo .nil)) .nil)) rfl rfl rfl) ?_
        refine r_op (o_not rfl rfl) ?_
        refine r_op (o_assign rfl rfl) ?_
        refine r_end ?_
        refine t_ret Tryz.func164 (.tmp rfl .nil) rfl fun E S w u hI hd => ?_
        refine post_mk hI hd ?_ trivial rfl rfl rfl <;> clear hI hd
        all_goals (refine scB ?_; (rw [atom_yes (by assumption) (by simp only [IntKind.wrap_i64] at *; omega) (by assumption) (by omega)]; done))
    ·
      have g2' := of_decide_eq_false (bnt g2)
      refine d_guard 14 rfl rfl (by kernel_rfl) (by kernel_rfl) (by kernel_rfl) rfl rfl (v := .c .top) (nc g2) (nc g2) (fun _ => ?_)
      refine d_guard 15 rfl rfl (by kernel_rfl) (by kernel_rfl) (by kernel_rfl) rfl rfl (v := .c .top) (nc g2) (nc g2) (fun _ => ?_)
      refine d_guard 16 rfl rfl (by kernel_rfl) (by kernel_rfl) (by kernel_rfl) rfl rfl (v := .c .top) (nc g2) (nc g2) (fun _ => ?_)
      refine d_guard 17 rfl rfl (by kernel_rfl) (by kernel_rfl) (by kernel_rfl) rfl rfl (v := .c .top) (nc g2) (nc g2) (fun _ => ?_)
      refine d_guard 18 rfl rfl (by kernel_rfl) (by kernel_rfl) (by kernel_rfl) rfl rfl (v := .c .top) (nc g2) (nc g2) (fun _ => ?_)
      refine d_guard 19 rfl rfl (by kernel_rfl) (by kernel_rfl) (by kernel_rfl) rfl rfl (v := .c .top) (nc g2) (nc g2) (fun _ => ?_)
      refine d_guard 20 rfl rfl (by kernel_rfl) (by kernel_rfl) (by kernel_rfl) rfl rfl (v := .c .top) (nc g2) (nc g2) (fun _ => ?_)
      refine d_guard 21 rfl rfl (by kernel_rfl) (by kernel_rfl) (by kernel_rfl) rfl rfl (v := .c .top) (nc g2) (nc g2) (fun _ => ?_)
      refine d_guard 22 rfl rfl (by kernel_rfl) (by kernel_rfl) (by kernel_rfl) rfl rfl (v := .c .top) (nc g2) (nc g2) (fun _ => ?_)
      refine d_take 23 rfl rfl (by kernel_rfl) (by kernel_rfl) (by kernel_rfl) (p_pickT rfl g2 rfl) ?_
      refine d_end (by kernel_rfl) ?_
      refine t_cond rfl (fun _ => ?_) (nc rfl)
      refine t_seq ?_
      refine t_region ?_
      refine r_op (o_assign rfl rfl) ?_
      refine r_end ?_
      refine t_ret Tryz.func164 (.tmp rfl .nil) rfl fun E S w u hI hd => ?_
      refine post_mk hI hd ?_ trivial rfl rfl rfl <;> clear hI hd
      all_goals (refine scB ?_; (rw [atom_no2 (by simp only [IntKind.wrap_i64] at *; omega)]; done))
  ·
    have g1' := (bnt g1)
    refine d_guard 5 rfl rfl (by kernel_rfl) (by kernel_rfl) (by kernel_rfl) rfl rfl (v := .c .top) (nc g1) (nc g1) (fun _ => ?_)
    refine d_guard 6 rfl rfl (by kernel_rfl) (by kernel_rfl) (by kernel_rfl) rfl rfl (v := .c .top) (nc g1) (nc g1) (fun _ => ?_)
    refine d_guard 7 rfl rfl (by kernel_rfl) (by kernel_rfl) (by kernel_rfl) rfl rfl (v := .c .top) (nc g1) (nc g1) (fun _ => ?_)
    refine d_guard 8 rfl rfl (by kernel_rfl) (by kernel_rfl) (by kernel_rfl) rfl rfl (v := .c .top) (nc g1) (nc g1) (fun _ => ?_)
    refine d_guard 9 rfl rfl (by kernel_rfl) (by kernel_rfl) (by kernel_rfl) rfl rfl (v := .c .top) (nc g1) (nc g1) (fun _ => ?_)
    refine d_guard 10 rfl rfl (by kernel_rfl) (by kernel_rfl) (by kernel_rfl) rfl rfl (v := .c .top) (nc g1) (nc g1) (fun _ => ?_)
    refine d_take 11 rfl rfl (by kernel_rfl) (by kernel_rfl) (by kernel_rfl) (p_pickT rfl g1 rfl) ?_
    refine d_take 12 rfl rfl (by kernel_rfl) (by kernel_rfl) (by kernel_rfl) (p_move rfl) ?_
    refine d_guard 13 rfl rfl (by kernel_rfl) (by kernel_rfl) (by kernel_rfl) rfl rfl (v := .c .top) (nc rfl) (nc rfl) (fun _ => ?_)
    refine d_guard 14 rfl rfl (by kernel_rfl) (by kernel_rfl) (by kernel_rfl) rfl rfl (v := .c .top) (nc rfl) (nc rfl) (fun _ => ?_)
    refine d_guard 15 rfl rfl (by kernel_rfl) (by kernel_rfl) (by kernel_rfl) rfl rfl (v := .c .top) (nc rfl) (nc rfl) (fun _ => ?_)
    refine d_guard 16 rfl rfl (by kernel_rfl) (by kernel_rfl) (by kernel_rfl) rfl rfl (v := .c .top) (nc rfl) (nc rfl) (fun _ => ?_)
    refine d_guard 17 rfl rfl (by kernel_rfl) (by kernel_rfl) (by kernel_rfl) rfl rfl (v := .c .top) (nc rfl) (nc rfl) (fun _ => ?_)
    refine d_guard 18 rfl rfl (by kernel_rfl) (by kernel_rfl) (by kernel_rfl) rfl rfl (v := .c .top) (nc rfl) (nc rfl) (fun _ => ?_)
    refine d_guard 19 rfl rfl (by kernel_rfl) (by kernel_rfl) (by kernel_rfl) rfl rfl (v := .c .top) (nc rfl) (nc rfl) (fun _ => ?_)
    refine d_guard 20 rfl rfl (by kernel_rfl) (by kernel_rfl) (by kernel_rfl) rfl rfl (v := .c .top) (nc rfl) (nc rfl) (fun _ => ?_)
    refine d_guard 21 rfl rfl (by kernel_rfl) (by kernel_rfl) (by kernel_rfl) rfl rfl (v := .c .top) (nc rfl) (nc rfl) (fun _ => ?_)
    refine d_guard 22 rfl rfl (by kernel_rfl) (by kernel_rfl) (by kernel_rfl) rfl rfl (v := .c .top) (nc rfl) (nc rfl) (fun _ => ?_)
    refine d_take 23 rfl rfl (by kernel_rfl) (by kernel_rfl) (by kernel_rfl) (p_pickT rfl rfl rfl) ?_
    refine d_end (by kernel_rfl) ?_
    refine t_cond rfl (fun _ => ?_) (nc rfl)
    refine t_seq ?_
    refine t_region ?_
    refine r_op (o_assign rfl rfl) ?_
    refine r_end ?_
    refine t_ret Tryz.func164 (.tmp rfl .nil) rfl fun E S w u hI hd => ?_
    refine post_mk hI hd ?_ trivial rfl rfl rfl <;> clear hI hd
    all_goals (refine scB ?_; (rw [atom_no1 (by assumption)]; done))
set_option maxHeartbeats 1000000 in
set_option maxRecDepth 10000 in
theorem c_impl_areAtoms_1 (r : Int) (ts : List Int) (rs : Rels) (hrs : rs.length ≤ 4611686018427387904) (hts : ts.length ≤ 4611686018427387904) : Pu Tryz.prog 163 [.agg [.t none (.v (.int .i64 (r))), .t none (.sl 1 encI (ts))], .c (.pel none ((enSl 3 (enS3 encS encI encB)) (rs)) 1)] [] 0 (.c (.t none (.v (.bool (badA rs (r, ts)))))) := by
  refine pu_enter Tryz.func163 rfl (Nat.le_of_ble_eq_true rfl) fun w S => ?_
  refine t_seq ?_
  refine t_region ?_
  refine r_op (o_box 0 rfl rfl rfl rfl) ?_
  refine r_op (o_assign rfl rfl) ?_
  refine r_end ?_
  refine t_seq ?_
  refine t_region ?_
  refine r_op (o_load1 rfl (by kernel_rfl) rfl rfl) ?_
  refine r_op (o_loadAb rfl (n := 2) (by kernel_rfl) (by kernel_rfl) rfl rfl rfl) ?_
  refine r_op (o_call 1 1 false (Go.Proofs.enters_of Tryz.func164 (by kernel_rfl) rfl) (c_impl_IsValidAtom (rs) (r) (ts) (by omega) (by omega)) rfl (.cons rfl (.c .t0) (.cons rfl (.agg (.cons .t0 (.cons .t0 .nil))) .nil)) rfl rfl rfl) ?_
  refine r_op (o_not rfl rfl) ?_
  refine r_op (o_assign rfl rfl) ?_
  refine r_end ?_
  refine t_ret Tryz.func163 (.tmp rfl .nil) rfl fun E S w u hI hd => ?_
  refine post_mk hI hd ?_ trivial rfl rfl rfl <;> clear hI hd
  all_goals (rfl)
set_option maxHeartbeats 1000000 in
set_option maxRecDepth 10000 in
theorem c_slices_IndexFunc___impl_Atom_impl_Atom_ (l : List (Int × (List (Int)))) (f : Nat) (cs : List ((Nat → T) × Nat)) (p : Int × (List (Int)) → Bool) (hl : l.length ≤ 9223372036854775807) (hf : ∀ x ∈ l, Fu Tryz.prog f ([.agg [.t none (.v (.int .i64 (x.1))), .t none (.sl 1 encI (x.2))]] ++ pels cs) (.c (.t none (.v (.bool (p x)))))) : Pu Tryz.prog 167 [.c (.t none (.sl 2 (enS2 encI (enSl 1 encI)) (l))), .c (.fv f cs)] [] 0 (.c (.t none (.v (.int .i64 (idxI p l))))) := by
  refine pu_enter Tryz.func167 rfl (Nat.le_of_ble_eq_true rfl) fun w S => ?_
  refine t_seq ?_
  refine t_region ?_
  refine r_op (o_assign rfl rfl) ?_
  refine r_end ?_
  refine t_seq ?_
  refine t_seq ?_
  refine t_region ?_
  refine r_op (o_move rfl rfl) ?_
  refine r_op (o_len rfl rfl rfl) ?_
  refine r_op (o_move rfl rfl) ?_
  refine r_end ?_
  refine t_block ?_
  refine t_loopL (fun m => ⟨[(0, some (.c (.t none (.sl 2 (enS2 encI (enSl 1 encI)) (l))))), (1, some (.c (.fv f cs))), (7, some (.c (.t none (.v (.int .i64 (((l).length : Int))))))), (8, some (.c (.t none (.v (.int .i64 ((m : Int)))))))], [], 0⟩ : Nat → St) (fun m => m ≤ l.length ∧ ∀ j z, j < m → l[j]? = some z → p z = false) (fun m => l.length - m) 0 ⟨⟨rfl, ⟨rfl, ⟨rfl, ⟨rfl, trivial⟩⟩⟩⟩, trivial, rfl⟩ (by exact ⟨Nat.zero_le _, fun j z h => by omega⟩) ?_
  rintro m hI ih0
  try dsimp only at hI ih0
  obtain ⟨i1, i2⟩ := hI
  refine t_seq ?_
  refine t_region ?_
  refine r_op (o_bin rfl rfl rfl rfl) ?_
  refine r_end ?_
  refine t_seq ?_
  refine t_cond rfl (fun h1 => ?_) (fun h1 => ?_)
  ·
    have h1' := of_decide_eq_true h1
    refine t_skip ?_
    refine t_seq ?_
    refine t_block ?_
    refine t_seq ?_
    refine t_region ?_
    refine r_op (o_move rfl rfl) ?_
    refine r_op (o_assign rfl rfl) ?_
    refine r_end ?_
    refine t_seq ?_
    refine t_region ?_
    refine r_op (o_move rfl rfl) ?_
    refine r_op (o_move rfl rfl) ?_
    refine r_op (o_move rfl rfl) ?_
    obtain ⟨z2, hz3, b4⟩ := at_get (xs := l) (n := (m : Int)) (by omega) (by omega)
    refine r_op (o_index rfl (by kernel_rfl) rfl rfl b4 hz3) ?_
    refine r_op (o_loadA rfl (n := 2) (by kernel_rfl) (by kernel_rfl) rfl rfl) ?_
    refine r_op (o_callv 0 0 false (hf z2 (List.mem_of_getElem? (by assumption))).1 (hf z2 (List.mem_of_getElem? (by assumption))).2 rfl rfl (.c .fv) (.cons rfl (.agg (.cons .t0 (.cons .t0 .nil))) .nil) rfl rfl rfl) ?_
    refine r_end ?_
    refine t_cond rfl (fun h5 => ?_) (fun h5 => ?_)
    ·
      have h5' := h5
      refine t_seq ?_
      refine t_region ?_
      refine r_op (o_move rfl rfl) ?_
      refine r_op (o_assign rfl rfl) ?_
      refine r_end ?_
      refine t_ret Tryz.func167 (.tmp rfl .nil) rfl fun E S w u hI hd => ?_
      refine post_mk hI hd ?_ trivial rfl rfl rfl <;> clear hI hd <;> (try clear ih0)
      all_goals (rw [idx_hit i2 (by assumption) (by assumption)])
    ·
      have h5' := h5
      refine t_skip ?_
      refine t_endblock ?_
      refine t_region ?_
      refine r_op (o_bin rfl rfl rfl rfl) ?_
      refine r_op (o_move rfl rfl) ?_
      refine r_end ?_
      refine t_le ?_ (ih0 (m + 1) (by (try dsimp only); omega) (by (try dsimp only); exact ⟨by omega, no_step i2 (by assumption) rfl (by assumption)⟩))
      exact ⟨⟨rfl, ⟨rfl, ⟨rfl, ⟨(eqI (wr64 (by omega) (by omega))), trivial⟩⟩⟩⟩, trivial, rfl⟩
  ·
    have h1' := of_decide_eq_false h1
    refine t_exit rfl ?_
    refine t_seq ?_
    refine t_region ?_
    refine r_op (o_assign rfl rfl) ?_
    refine r_end ?_
    refine t_ret Tryz.func167 (.tmp rfl .nil) rfl fun E S w u hI hd => ?_
    refine post_mk hI hd ?_ trivial rfl rfl rfl <;> clear hI hd <;> (try clear ih0)
    all_goals (rw [idx_none i2 (by omega)])
set_option maxHeartbeats 1000000 in
set_option maxRecDepth 10000 in
theorem c_slices_ContainsFunc___impl_Atom_impl_Atom_ (l : List (Int × (List (Int)))) (f : Nat) (cs : List ((Nat → T) × Nat)) (p : Int × (List (Int)) → Bool) (hl : l.length ≤ 9223372036854775807) (hf : ∀ x ∈ l, Fu Tryz.prog f ([.agg [.t none (.v (.int .i64 (x.1))), .t none (.sl 1 encI (x.2))]] ++ pels cs) (.c (.t none (.v (.bool (p x)))))) : Pu Tryz.prog 122 [.c (.t none (.sl 2 (enS2 encI (enSl 1 encI)) (l))), .c (.fv f cs)] [] 0 (.c (.t none (.v (.bool (l.any p))))) := by
  refine pu_enter Tryz.func122 rfl (Nat.le_of_ble_eq_true rfl) fun w S => ?_
  refine t_seq ?_
  refine t_region ?_
  refine r_op (o_assign rfl rfl) ?_
  refine r_end ?_
  refine t_seq ?_
  refine t_region ?_
  refine r_op (o_move rfl rfl) ?_
  refine r_op (o_move rfl rfl) ?_
  refine r_op (o_call 0 0 false (Go.Proofs.enters_of Tryz.func167 (by kernel_rfl) rfl) (c_slices_IndexFunc___impl_Atom_impl_Atom_ (l) (f) (cs) (p) (by omega) (hf)) rfl (.cons rfl (.c .t0) (.cons rfl (.c .fv) .nil)) rfl rfl rfl) ?_
  refine r_op (o_bin rfl rfl rfl rfl) ?_
  refine r_op (o_assign rfl rfl) ?_
  refine r_end ?_
  refine t_ret Tryz.func122 (.tmp rfl .nil) rfl fun E S w u hI hd => ?_
  refine post_mk hI hd ?_ trivial rfl rfl rfl <;> clear hI hd
  all_goals (exact scB idx_any)
set_option maxHeartbeats 1000000 in
set_option maxRecDepth 10000 in
theorem c_impl_areAtoms (rs : Rels) (l : Atoms) (k : Int) (hrs : rs.length ≤ 4611686018427387904) (hs : szS (fun (x : Int × (List (Int))) => (x.2).length) l ≤ 1048576) : Pu Tryz.prog 109 [.c (.t none (.sl 3 (enS3 encS encI encB) (rs))), .c (.t none (.sl 2 (enS2 encI (enSl 1 encI)) (l))), .c (.t none (.v (.int .i64 (k))))] [] 0 (.c (.t none (.v (.bool (atomsOk rs l k))))) := by
  refine pu_enter Tryz.func109 rfl (Nat.le_of_ble_eq_true rfl) fun w S => ?_
  have gl := sz_len (f := (fun (x : Int × (List (Int))) => (x.2).length)) (l := l)
  refine t_seq ?_
  refine t_region ?_
  refine r_op (o_box 0 rfl rfl rfl rfl) ?_
  refine r_op (o_assign rfl rfl) ?_
  refine r_end ?_
  refine t_seq ?_
  refine t_region ?_
  refine r_op (o_move rfl rfl) ?_
  refine r_op (o_len rfl rfl rfl) ?_
  refine r_op (o_move rfl rfl) ?_
  refine r_op (o_call 1 1 false (Go.Proofs.enters_of Tryz.func117 (by kernel_rfl) rfl) (c_impl_within (((l).length : Int)) (1) (k)) rfl (.cons rfl (.c .t0) (.cons rfl (.c .t0) (.cons rfl (.c .t0) .nil))) rfl rfl rfl) ?_
  refine r_op (o_move rfl rfl) ?_
  refine r_guard rfl rfl rfl (fun g1 => ?_) (fun g1 => ?_)
  ·
    have g1' := of_decide_eq_true g1
    refine r_op (o_move rfl rfl) ?_
    refine r_guard rfl rfl rfl (fun _ => ?_) (nc g1)
    refine r_op (o_makeFunc rfl (.cons rfl .nil)) ?_
    refine r_guard rfl rfl rfl (fun _ => ?_) (nc g1)
    refine r_op (o_call 1 1 false (Go.Proofs.enters_of Tryz.func122 (by kernel_rfl) rfl) (c_slices_ContainsFunc___impl_Atom_impl_Atom_ (l) (163) ([((enSl 3 (enS3 encS encI encB)) (rs), 1)]) (fun (x0 : Int × (List (Int))) => badA (rs) ((x0.1), (x0.2))) (by omega) (fun x0 mx0 => ⟨Go.Proofs.enters_of Tryz.func163 (by kernel_rfl) rfl, c_impl_areAtoms_1 (x0.1) (x0.2) (rs) (by omega) (by (have e1 := sz_mem (f := (fun (x : Int × (List (Int))) => (x.2).length)) (l := l) (by assumption); (try dsimp only at e1); omega))⟩)) rfl (.cons rfl (.c .t0) (.cons rfl (.c (.clo (.cons rfl rfl rfl (.cons .t .nil) .nil))) .nil)) rfl rfl rfl) ?_
    refine r_guard rfl rfl rfl (fun _ => ?_) (nc g1)
    refine r_op (o_not rfl rfl) ?_
    refine r_op (o_pickT rfl rfl g1 rfl) ?_
    refine r_op (o_assign rfl rfl) ?_
    refine r_end ?_
    refine t_ret Tryz.func109 (.tmp rfl .nil) rfl fun E S w u hI hd => ?_
    refine post_mk hI hd ?_ trivial rfl rfl rfl <;> clear hI hd
    all_goals (refine scB ?_; unfold atomsOk; (rw [decide_eq_true (by assumption)]; rfl))
  ·
    have g1' := of_decide_eq_false g1
    refine r_guard rfl rfl rfl (ncf g1) (fun _ => ?_)
    refine r_guard rfl rfl rfl (ncf g1) (fun _ => ?_)
    refine r_guard rfl rfl rfl (ncf g1) (fun _ => ?_)
    refine r_op (o_pickF rfl rfl g1 rfl) ?_
    refine r_op (o_assign rfl rfl) ?_
    refine r_end ?_
    refine t_ret Tryz.func109 (.tmp rfl .nil) rfl fun E S w u hI hd => ?_
    refine post_mk hI hd ?_ trivial rfl rfl rfl <;> clear hI hd
    all_goals (refine scB ?_; unfold atomsOk; (rw [decide_eq_false (by assumption)]; rfl))
set_option maxHeartbeats 1000000 in
set_option maxRecDepth 10000 in
theorem c_impl_areMatchable (rs : Rels) (fs l : Atoms) (hrs : rs.length ≤ 4611686018427387904) (hfs : szS (fun (x : Int × (List (Int))) => (x.2).length) fs ≤ 1048576) (hll : szS (fun (x : Int × (List (Int))) => (x.2).length) l ≤ 1048576) (ho : ∀ z ∈ fs, ∀ x ∈ z.2, okI x) : Pu Tryz.prog 49 [.agg [.t none (.sl 3 (enS3 encS encI encB) (rs)), .t none (.sl 2 (enS2 encI (enSl 1 encI)) (fs))], .c (.t none (.sl 2 (enS2 encI (enSl 1 encI)) (l)))] [] 0 (.c (.t none (.v (.bool (mtOk rs fs l))))) := by
  refine pu_enter Tryz.func49 rfl (Nat.le_of_ble_eq_true rfl) fun w S => ?_
  have gl := sz_len (f := (fun (x : Int × (List (Int))) => (x.2).length)) (l := l)
  refine t_seq ?_
  refine t_region ?_
  refine r_op (o_box 0 rfl rfl rfl rfl) ?_
  refine r_op (o_assign rfl rfl) ?_
  refine r_end ?_
  refine t_seq ?_
  refine t_region ?_
  refine r_op (o_loadAb rfl (n := 2) (by kernel_rfl) (by kernel_rfl) rfl rfl rfl) ?_
  refine r_op (o_call 1 1 false (Go.Proofs.enters_of Tryz.func45 (by kernel_rfl) rfl) (c_impl_IsValidInstance (rs) (fs) (by omega) (by omega) (by omega)) rfl (.cons rfl (.agg (.cons .t0 (.cons .t0 .nil))) .nil) rfl rfl rfl) ?_
  refine r_op (o_move rfl rfl) ?_
  refine r_guard rfl rfl rfl (fun g1 => ?_) (fun g1 => ?_)
  ·
    have g1' := g1
    refine r_op (o_move rfl rfl) ?_
    refine r_guard rfl rfl rfl (fun _ => ?_) (nc g1)
    refine r_op (o_len rfl rfl rfl) ?_
    refine r_guard rfl rfl rfl (fun _ => ?_) (nc g1)
    refine r_op (o_bin rfl rfl rfl rfl) ?_
    refine r_guard rfl rfl rfl (fun _ => ?_) (nc g1)
    refine r_op (o_move rfl rfl) ?_
    refine r_guard rfl rfl rfl (fun g2 => ?_) (fun g2 => ?_)
    ·
      have g2' := of_decide_eq_false g2
      refine r_op (o_fieldb rfl (off := 0) (by kernel_rfl) rfl) ?_
      refine r_guard rfl rfl rfl (fun _ => ?_) (ncf g2)
      refine r_op (o_load1b rfl (by kernel_rfl) rfl rfl rfl) ?_
      refine r_guard rfl rfl rfl (fun _ => ?_) (ncf g2)
      refine r_op (o_move rfl rfl) ?_
      refine r_guard rfl rfl rfl (fun _ => ?_) (ncf g2)
      refine r_op (o_call 1 1 false (Go.Proofs.enters_of Tryz.func109 (by kernel_rfl) rfl) (c_impl_areAtoms (rs) (l) (3) (by omega) (by omega)) rfl (.cons rfl (.c .t0) (.cons rfl (.c .t0) (.cons rfl (.c .t0) .nil))) rfl rfl rfl) ?_
      refine r_guard rfl rfl rfl (fun _ => ?_) (nc g1)
      refine r_op (o_pickF rfl rfl g2 rfl) ?_
      refine r_op (o_pickT rfl rfl g1 rfl) ?_
      refine r_op (o_assign rfl rfl) ?_
      refine r_end ?_
      refine t_ret Tryz.func49 (.tmp rfl .nil) rfl fun E S w u hI hd => ?_
      refine post_mk hI hd ?_ trivial rfl rfl rfl <;> clear hI hd
      all_goals (refine scB ?_; clear hrs hfs hll ho gl; unfold mtOk; (try unfold atomsOk at *); grind)
    ·
      have g2' := of_decide_eq_true g2
      refine r_guard rfl rfl rfl (nc g2) (fun _ => ?_)
      refine r_guard rfl rfl rfl (nc g2) (fun _ => ?_)
      refine r_guard rfl rfl rfl (nc g2) (fun _ => ?_)
      refine r_guard rfl rfl rfl (fun _ => ?_) (nc g1)
      refine r_op (o_pickT rfl rfl g2 rfl) ?_
      refine r_op (o_pickT rfl rfl g1 rfl) ?_
      refine r_op (o_assign rfl rfl) ?_
      refine r_end ?_
      refine t_ret Tryz.func49 (.tmp rfl .nil) rfl fun E S w u hI hd => ?_
      refine post_mk hI hd ?_ trivial rfl rfl rfl <;> clear hI hd
      all_goals (refine scB ?_; clear hrs hfs hll ho gl; unfold mtOk; (try unfold atomsOk at *); grind)
  ·
    have g1' := g1
    refine r_guard rfl rfl rfl (ncf g1) (fun _ => ?_)
    refine r_guard rfl rfl rfl (ncf g1) (fun _ => ?_)
    refine r_guard rfl rfl rfl (ncf g1) (fun _ => ?_)
    refine r_skip rfl rfl rfl ?_
    refine r_skip rfl rfl rfl ?_
    refine r_skip rfl rfl rfl ?_
    refine r_skip rfl rfl rfl ?_
    refine r_guard rfl rfl rfl (ncf g1) (fun _ => ?_)
    refine r_op (o_pickF rfl rfl g1 rfl) ?_
    refine r_op (o_assign rfl rfl) ?_
    refine r_end ?_
    refine t_ret Tryz.func49 (.tmp rfl .nil) rfl fun E S w u hI hd => ?_
    refine post_mk hI hd ?_ trivial rfl rfl rfl <;> clear hI hd
    all_goals (refine scB ?_; clear hrs hfs hll ho gl; unfold mtOk; (try unfold atomsOk at *); grind)
set_option maxHeartbeats 1000000 in
set_option maxRecDepth 10000 in
theorem c_math_bits_Mul64  : Pu Tryz.prog 185 [.c (.t none (.v (.int .u64 (1)))), .c (.t none (.v (.int .u64 (5))))] [] 0 (.tup [(false, [.t none (.v (.int .u64 (0)))]), (false, [.t none (.v (.int .u64 (5)))])]) := by
  refine pu_enter Tryz.func185 rfl (Nat.le_of_ble_eq_true rfl) fun w S => ?_
  refine t_seq ?_
  refine t_region ?_
  refine r_op (o_assign rfl rfl) ?_
  refine r_op (o_assign rfl rfl) ?_
  refine r_end ?_
  refine t_seq ?_
  refine t_region ?_
  refine r_op (o_move rfl rfl) ?_
  refine r_op (o_binD rfl rfl rfl (rfl)) ?_
  refine r_op (o_assign rfl rfl) ?_
  refine r_end ?_
  refine t_seq ?_
  refine t_region ?_
  refine r_op (o_move rfl rfl) ?_
  refine r_op (o_sh rfl rfl rfl (rfl)) ?_
  refine r_op (o_assign rfl rfl) ?_
  refine r_end ?_
  refine t_seq ?_
  refine t_region ?_
  refine r_op (o_move rfl rfl) ?_
  refine r_op (o_binD rfl rfl rfl (rfl)) ?_
  refine r_op (o_assign rfl rfl) ?_
  refine r_end ?_
  refine t_seq ?_
  refine t_region ?_
  refine r_op (o_move rfl rfl) ?_
  refine r_op (o_sh rfl rfl rfl (rfl)) ?_
  refine r_op (o_assign rfl rfl) ?_
  refine r_end ?_
  refine t_seq ?_
  refine t_region ?_
  refine r_op (o_move rfl rfl) ?_
  refine r_op (o_move rfl rfl) ?_
  refine r_op (o_bin rfl rfl rfl rfl) ?_
  refine r_op (o_assign rfl rfl) ?_
  refine r_end ?_
  refine t_seq ?_
  refine t_region ?_
  refine r_op (o_move rfl rfl) ?_
  refine r_op (o_move rfl rfl) ?_
  refine r_op (o_bin rfl rfl rfl rfl) ?_
  refine r_op (o_move rfl rfl) ?_
  refine r_op (o_sh rfl rfl rfl (rfl)) ?_
  refine r_op (o_bin rfl rfl rfl rfl) ?_
  refine r_op (o_assign rfl rfl) ?_
  refine r_end ?_
  refine t_seq ?_
  refine t_region ?_
  refine r_op (o_move rfl rfl) ?_
  refine r_op (o_binD rfl rfl rfl (rfl)) ?_
  refine r_op (o_assign rfl rfl) ?_
  refine r_end ?_
  refine t_seq ?_
  refine t_region ?_
  refine r_op (o_move rfl rfl) ?_
  refine r_op (o_sh rfl rfl rfl (rfl)) ?_
  refine r_op (o_assign rfl rfl) ?_
  refine r_end ?_
  refine t_seq ?_
  refine t_region ?_
  refine r_op (o_move rfl rfl) ?_
  refine r_op (o_move rfl rfl) ?_
  refine r_op (o_move rfl rfl) ?_
  refine r_op (o_bin rfl rfl rfl rfl) ?_
  refine r_op (o_bin rfl rfl rfl rfl) ?_
  refine r_op (o_assign rfl rfl) ?_
  refine r_end ?_
  refine t_seq ?_
  refine t_region ?_
  refine r_op (o_move rfl rfl) ?_
  refine r_op (o_move rfl rfl) ?_
  refine r_op (o_bin rfl rfl rfl rfl) ?_
  refine r_op (o_move rfl rfl) ?_
  refine r_op (o_bin rfl rfl rfl rfl) ?_
  refine r_op (o_move rfl rfl) ?_
  refine r_op (o_sh rfl rfl rfl (rfl)) ?_
  refine r_op (o_bin rfl rfl rfl rfl) ?_
  refine r_op (o_assign rfl rfl) ?_
  refine r_end ?_
  refine t_seq ?_
  refine t_region ?_
  refine r_op (o_move rfl rfl) ?_
  refine r_op (o_move rfl rfl) ?_
  refine r_op (o_bin rfl rfl rfl rfl) ?_
  refine r_op (o_assign rfl rfl) ?_
  refine r_end ?_
  refine t_ret Tryz.func185 (.tmp rfl (.tmp rfl .nil)) rfl fun E S w u hI hd => ?_
  refine post_mk hI hd ?_ trivial rfl rfl rfl <;> clear hI hd
  all_goals (rfl)
set_option maxHeartbeats 1000000 in
set_option maxRecDepth 10000 in
theorem c_math_bits_Mul  : Pu Tryz.prog 165 [.c (.t none (.v (.int .u64 (1)))), .c (.t none (.v (.int .u64 (5))))] [] 0 (.tup [(false, [.t none (.v (.int .u64 (0)))]), (false, [.t none (.v (.int .u64 (5)))])]) := by
  refine pu_enter Tryz.func165 rfl (Nat.le_of_ble_eq_true rfl) fun w S => ?_
  refine t_seq ?_
  refine t_region ?_
  refine r_op (o_assign rfl rfl) ?_
  refine r_op (o_assign rfl rfl) ?_
  refine r_end ?_
  refine t_seq ?_
  refine t_cond rfl (fun h' => Bool.noConfusion h') (fun _ => ?_)
  refine t_skip ?_
  refine t_seq ?_
  refine t_region ?_
  refine r_op (o_move rfl rfl) ?_
  refine r_op (o_move rfl rfl) ?_
  refine r_op (o_call 0 0 false (Go.Proofs.enters_of Tryz.func185 (by kernel_rfl) rfl) (c_math_bits_Mul64 ) rfl (.cons rfl (.c .t0) (.cons rfl (.c .t0) .nil)) rfl rfl rfl) ?_
  refine r_op (o_move rfl rfl) ?_
  refine r_op (o_extract rfl rfl rfl rfl) ?_
  refine r_op (o_extract rfl rfl rfl rfl) ?_
  refine r_op (o_assign rfl rfl) ?_
  refine r_op (o_assign rfl rfl) ?_
  refine r_end ?_
  refine t_seq ?_
  refine t_region ?_
  refine r_op (o_move rfl rfl) ?_
  refine r_op (o_move rfl rfl) ?_
  refine r_op (o_assign rfl rfl) ?_
  refine r_op (o_assign rfl rfl) ?_
  refine r_end ?_
  refine t_ret Tryz.func165 (.tmp rfl (.tmp rfl .nil)) rfl fun E S w u hI hd => ?_
  refine post_mk hI hd ?_ trivial rfl rfl rfl <;> clear hI hd
  all_goals (rfl)
set_option maxHeartbeats 1000000 in
set_option maxRecDepth 10000 in
theorem c_slices_Repeat___int_int_  : Pu Tryz.prog 111 [.c (.t none (.sl 1 encI ([10]))), .c (.t none (.v (.int .i64 (5))))] [(0, some (.row none 3 true 1 encI (freeB)))] 1 (.c (.own 0)) := by
  refine pu_enter Tryz.func111 rfl (Nat.le_of_ble_eq_true rfl) fun w S => ?_
  refine t_seq ?_
  refine t_region ?_
  refine r_op (o_assign rfl rfl) ?_
  refine r_end ?_
  refine t_seq ?_
  refine t_seq ?_
  refine t_region ?_
  refine r_op (o_move rfl rfl) ?_
  refine r_op (o_bin rfl rfl rfl rfl) ?_
  refine r_end ?_
  refine t_cond rfl (fun h1 => ?_) (fun h1 => ?_)
  ·
    have h1' := of_decide_eq_true h1
    exfalso; omega
  ·
    have h1' := of_decide_eq_false h1
    refine t_skip ?_
    refine t_seq ?_
    refine t_region ?_
    refine r_op (o_move rfl rfl) ?_
    refine r_op (o_len rfl rfl rfl) ?_
    refine r_op (o_conv rfl Tryz.underlying3 Tryz.underlying163 rfl) ?_
    refine r_op (o_move rfl rfl) ?_
    refine r_op (o_conv rfl Tryz.underlying3 Tryz.underlying163 rfl) ?_
    refine r_op (o_call 0 0 false (Go.Proofs.enters_of Tryz.func165 (by kernel_rfl) rfl) (c_math_bits_Mul ) rfl (.cons rfl (.c .t0) (.cons rfl (.c .t0) .nil)) rfl rfl rfl) ?_
    refine r_op (o_move rfl rfl) ?_
    refine r_op (o_extract rfl rfl rfl rfl) ?_
    refine r_op (o_extract rfl rfl rfl rfl) ?_
    refine r_op (o_assign rfl rfl) ?_
    refine r_op (o_assign rfl rfl) ?_
    refine r_end ?_
    refine t_seq ?_
    refine t_seq ?_
    refine t_region ?_
    refine r_op (o_move rfl rfl) ?_
    refine r_op (o_bin rfl rfl rfl rfl) ?_
    refine r_op (o_move rfl rfl) ?_
    refine r_guard rfl rfl rfl (fun _ => ?_) (ncf rfl)
    refine r_op (o_move rfl rfl) ?_
    refine r_guard rfl rfl rfl (fun _ => ?_) (ncf rfl)
    refine r_op (o_bin rfl rfl rfl rfl) ?_
    refine r_op (o_pickF rfl rfl rfl rfl) ?_
    refine r_end ?_
    refine t_cond rfl (ncf rfl) (fun _ => ?_)
    refine t_skip ?_
    refine t_seq ?_
    refine t_region ?_
    refine r_op (o_move rfl rfl) ?_
    refine r_op (o_conv rfl Tryz.underlying163 Tryz.underlying3 rfl) ?_
    refine r_op (o_make 0 true (et := 3) (sz := 1) (by' := 8) encI (0) (zs := [.int .i64 (0)]) rfl rfl (by kernel_rfl) (by kernel_rfl) rfl rfl (.cons (.v rfl) .nil) rfl rfl (by decide) (by decide) (by decide)) ?_
    refine r_op (o_assign rfl rfl) ?_
    refine r_end ?_
    refine t_seq ?_
    refine t_region ?_
    refine r_op (o_move rfl rfl) ?_
    refine r_op (o_move rfl rfl) ?_
    refine r_op (o_copyo (k := 1) rfl rfl rfl rfl Tryz.underlying34 (by kernel_rfl) (fun _ _ => ⟨_, rfl⟩) (by decide) (by decide)) ?_
    refine r_op (o_assign rfl rfl) ?_
    refine r_end ?_
    refine t_seq ?_
    refine t_block ?_
    refine t_loopL (fun n => ⟨[(4, some (.c (.t none (.v (.slice none 0 0))))), (7, some (.c (.own 0))), (8, some (.c (.t none (.v (.int .i64 ((n : Int)))))))], [(0, some (.row none 3 true 1 encI (List.replicate n (10 : Int) ++ List.replicate (5 - n) 0)))], 1⟩ : Nat → St) (fun n => n = 1 ∨ n = 2 ∨ n = 4 ∨ n = 5) (fun n => 5 - n) 1 ⟨⟨rfl, ⟨rfl, ⟨rfl, trivial⟩⟩⟩, ⟨rfl, trivial⟩, rfl⟩ (by exact .inl rfl) ?_
    rintro n hI ih0
    try dsimp only at hI ih0
    have i1 := hI; have rl : (List.replicate n (10 : Int) ++ List.replicate (5 - n) 0).length = 5 := (by simp; omega)
    refine t_seq ?_
    refine t_seq ?_
    refine t_region ?_
    refine r_op (o_move rfl rfl) ?_
    refine r_op (o_move rfl rfl) ?_
    refine r_op (o_leno rfl rfl rfl rfl) ?_
    refine r_op (o_bin rfl rfl rfl rfl) ?_
    refine r_end ?_
    refine t_cond rfl (fun h2 => ?_) (fun h2 => ?_)
    ·
      have h2' := of_decide_eq_true h2
      refine t_skip ?_
      refine t_block ?_
      refine t_draw (fun i => !(Nat.beq i 7)) (by kernel_rfl) ?_
      refine d_take 1 rfl rfl (by kernel_rfl) (by kernel_rfl) (by kernel_rfl) (p_move rfl) ?_
      refine d_take 2 rfl rfl (by kernel_rfl) (by kernel_rfl) (by kernel_rfl) (p_move rfl) ?_
      refine d_take 3 rfl rfl (by kernel_rfl) (by kernel_rfl) (by kernel_rfl) (p_subvl (by kernel_rfl) rfl rfl rfl (by omega) (by omega)) ?_
      refine d_take 4 rfl rfl (by kernel_rfl) (by kernel_rfl) (by kernel_rfl) (p_move rfl) ?_
      refine d_take 5 rfl rfl (by kernel_rfl) (by kernel_rfl) (by kernel_rfl) (p_move rfl) ?_
      refine d_take 6 rfl rfl (by kernel_rfl) (by kernel_rfl) (by kernel_rfl) (p_subo (by kernel_rfl) rfl rfl (.h rfl (by omega) (by omega))) ?_
      refine d_two 0 7 rfl rfl (by kernel_rfl) rfl rfl (o_move rfl rfl) (o_copyv (α := Int) (off := ((n : Int)).toNat) (n := ((List.replicate n (10 : Int) ++ List.replicate (5 - n) 0).length - ((n : Int)).toNat)) (xs := List.replicate n (10 : Int) ++ List.replicate (5 - n) 0) (ys := ((List.replicate n (10 : Int) ++ List.replicate (5 - n) 0).take ((n : Int)).toNat).drop 0) (k := (min n (5 - n))) rfl rfl rfl rfl Tryz.underlying34 (by kernel_rfl) (fun _ _ => ⟨_, rfl⟩) (by (show _ = min _ _; simp; done)) (by omega) (by omega)) ?_ ?_
      ·
        refine d_only 7 rfl (by kernel_rfl) rfl (o_copyv (α := Int) (off := ((n : Int)).toNat) (n := ((List.replicate n (10 : Int) ++ List.replicate (5 - n) 0).length - ((n : Int)).toNat)) (xs := List.replicate n (10 : Int) ++ List.replicate (5 - n) 0) (ys := ((List.replicate n (10 : Int) ++ List.replicate (5 - n) 0).take ((n : Int)).toNat).drop 0) (k := (min n (5 - n))) rfl rfl rfl rfl Tryz.underlying34 (by kernel_rfl) (fun _ _ => ⟨_, rfl⟩) (by (show _ = min _ _; simp; done)) (by omega) (by omega)) ?_
        refine d_take 8 rfl rfl (by kernel_rfl) (by kernel_rfl) (by kernel_rfl) (p_bin rfl rfl rfl) ?_
        refine d_take 9 rfl rfl (by kernel_rfl) (by kernel_rfl) (by kernel_rfl) (p_assign rfl) ?_
        refine d_end (by kernel_rfl) ?_
        refine t_endblock ?_
        refine t_le ?_ (ih0 (n + min n (5 - n)) (by (try dsimp only); omega) (by (try dsimp only); omega))
        exact ⟨⟨rfl, ⟨rfl, ⟨(eqI (by rw [wr64 (by omega) (by omega)]; omega)), trivial⟩⟩⟩, ⟨(eqR (loop_five (by omega))), trivial⟩, rfl⟩
      ·
        refine d_take 0 rfl rfl (by kernel_rfl) (by kernel_rfl) (by kernel_rfl) (p_move rfl) ?_
        refine d_take 8 rfl rfl (by kernel_rfl) (by kernel_rfl) (by kernel_rfl) (p_bin rfl rfl rfl) ?_
        refine d_take 9 rfl rfl (by kernel_rfl) (by kernel_rfl) (by kernel_rfl) (p_assign rfl) ?_
        refine d_end (by kernel_rfl) ?_
        refine t_endblock ?_
        refine t_le ?_ (ih0 (n + min n (5 - n)) (by (try dsimp only); omega) (by (try dsimp only); omega))
        exact ⟨⟨rfl, ⟨rfl, ⟨(eqI (by rw [wr64 (by omega) (by omega)]; omega)), trivial⟩⟩⟩, ⟨(eqR (loop_five (by omega))), trivial⟩, rfl⟩
    ·
      have h2' := of_decide_eq_false h2
      refine t_exit rfl ?_
      refine t_seq ?_
      refine t_region ?_
      refine r_op (o_move rfl rfl) ?_
      refine r_op (o_assign rfl rfl) ?_
      refine r_end ?_
      refine t_ret Tryz.func111 (.tmp rfl .nil) rfl fun E S w u hI hd => ?_
      refine post_mk hI hd ?_ ⟨eqR ?_, trivial⟩ rfl rfl rfl <;> clear hI hd <;> (try clear ih0)
      all_goals first | rfl | ((obtain rfl : n = 5 := by omega); rfl)
set_option maxHeartbeats 1000000 in
set_option maxRecDepth 10000 in
theorem c_impl_unboundBinding  : Pu Tryz.prog 51 [] [(1, some (.row none 3 true 1 encI (freeB)))] 2 (.c (.own 1)) := by
  refine pu_enter Tryz.func51 rfl (Nat.le_of_ble_eq_true rfl) fun w S => ?_
  refine t_seq ?_
  refine t_region ?_
  refine r_op (o_assign rfl rfl) ?_
  refine r_end ?_
  refine t_seq ?_
  refine t_region ?_
  refine r_op (o_lit1 0 (e := 3) (sz := 1) (zs := [.int .i64 (0)]) (enc := encI) (10) rfl rfl (by kernel_rfl) rfl rfl rfl rfl rfl rfl (.cons .sc .nil)) ?_
  refine r_op (o_call 1 2 false (Go.Proofs.enters_of Tryz.func111 (by kernel_rfl) rfl) (c_slices_Repeat___int_int_ ) rfl (.cons rfl (.c (.own rfl)) (.cons rfl (.c .t0) .nil)) rfl rfl rfl) ?_
  refine r_op (o_assign rfl rfl) ?_
  refine r_end ?_
  refine t_ret Tryz.func51 (.tmp rfl .nil) rfl fun E S w u hI hd => ?_
  refine post_mk hI hd ?_ ⟨eqR ?_, trivial⟩ rfl rfl rfl <;> clear hI hd
  all_goals (rfl)
set_option maxHeartbeats 1000000 in
set_option maxRecDepth 10000 in
theorem c_slices_Clone___int_int_ (l : List Int) (hl : l.length ≤ 1099511627776) : Pu Tryz.prog 59 [.c (.t none (.sl 1 encI (l)))] [(0, some (.row none 3 true 1 encI (l)))] 1 (.c (.own 0)) := by
  refine pu_enter Tryz.func59 rfl (Nat.le_of_ble_eq_true rfl) fun w S => ?_
  refine t_seq ?_
  refine t_region ?_
  refine r_op (o_assign rfl rfl) ?_
  refine r_end ?_
  refine t_seq ?_
  refine t_seq ?_
  refine t_region ?_
  refine r_op (o_move rfl rfl) ?_
  refine r_eqnil rfl rfl rfl (fun en1 => ?_) ?_
  ·
    refine r_end ?_
    refine t_cond rfl (fun _ => ?_) (nc rfl)
    refine t_seq ?_
    refine t_region ?_
    refine r_op (o_assign rfl rfl) ?_
    refine r_end ?_
    refine gt_nil 0 (t := 2) (et := 3) (sz := 1) true encI rfl rfl ?_
    refine t_ret Tryz.func59 (.tmp rfl .nil) rfl fun E S w u hI hd => ?_
    refine post_mk hI hd ?_ ⟨eqR ?_, trivial⟩ rfl rfl rfl <;> clear hI hd
    all_goals first | rfl | ((exact en1.symm))
  ·
    refine r_end ?_
    refine t_cond rfl (ncf rfl) (fun _ => ?_)
    refine t_skip ?_
    refine t_seq ?_
    refine t_region ?_
    refine r_op (o_lit0 0 (e := 3) (sz := 1) (zs := [.int .i64 (0)]) encI rfl rfl (by kernel_rfl) rfl) ?_
    refine r_op (o_move rfl rfl) ?_
    refine r_op (o_appendS 0 (e := 3) (sz := 1) (by' := 8) rfl (by kernel_rfl) rfl rfl rfl rfl (fun _ _ => ⟨_, rfl⟩) (by (simp; omega)) (by (simp; omega))) ?_
    refine r_op (o_assign rfl rfl) ?_
    refine r_end ?_
    refine t_ret Tryz.func59 (.tmp rfl .nil) rfl fun E S w u hI hd => ?_
    refine post_mk hI hd ?_ ⟨eqR ?_, trivial⟩ rfl rfl rfl <;> clear hI hd
    all_goals (rfl)
set_option maxHeartbeats 1000000 in
set_option maxRecDepth 10000 in
theorem c_impl_bind (b : List Int) (r : Int) (ts : List Int) (r2 : Int) (vs : List Int) (hb : b.length = 5) (ha : ts.length ≤ 4611686018427387904) (ht : ∀ t ∈ ts, -10 ≤ t ∧ t ≤ 4) (hv : r = r2 → ts.length = vs.length) : Pu Tryz.prog 110 [.c (.t none (.sl 1 encI (b))), .agg [.t none (.v (.int .i64 (r))), .t none (.sl 1 encI (ts))], .agg [.t none (.v (.int .i64 (r2))), .t none (.sl 1 encI (vs))]] [(0, some (.row none 3 true 1 encI (if (fitF (r, ts) (r2, vs) b).2 = true then (fitF (r, ts) (r2, vs) b).1 else [])))] 1 (.tup [(false, [.own 0]), (false, [.t none (.v (.bool ((fitF (r, ts) (r2, vs) b).2)))])]) := by
  refine pu_enter Tryz.func110 rfl (Nat.le_of_ble_eq_true rfl) fun w S => ?_
  refine t_seq ?_
  refine t_region ?_
  refine r_op (o_box 0 rfl rfl rfl rfl) ?_
  refine r_op (o_box 1 rfl rfl rfl rfl) ?_
  refine r_op (o_assign rfl rfl) ?_
  refine r_op (o_assign rfl rfl) ?_
  refine r_end ?_
  refine t_seq ?_
  refine t_seq ?_
  refine t_region ?_
  refine r_op (o_fieldb rfl (off := 0) (by kernel_rfl) rfl) ?_
  refine r_op (o_load1b rfl (by kernel_rfl) rfl rfl rfl) ?_
  refine r_op (o_fieldb rfl (off := 0) (by kernel_rfl) rfl) ?_
  refine r_op (o_load1b rfl (by kernel_rfl) rfl rfl rfl) ?_
  refine r_op (o_bin rfl rfl rfl rfl) ?_
  refine r_end ?_
  refine t_cond rfl (fun h1 => ?_) (fun h1 => ?_)
  ·
    have h1' := of_decide_eq_true h1
    refine t_seq ?_
    refine t_region ?_
    refine r_op (o_assign rfl rfl) ?_
    refine r_op (o_assign rfl rfl) ?_
    refine r_end ?_
    refine gt_nil 2 (t := 6) (et := 3) (sz := 1) true encI rfl rfl ?_
    refine gt_as0b 6 2 7 rfl rfl rfl rfl ?_
    refine t_ret Tryz.func110 (.tmp rfl (.tmp rfl .nil)) rfl fun E S w u hI hd => ?_
    refine post_mk hI hd ?_ ⟨eqR ?_, trivial⟩ rfl rfl rfl <;> clear hI hd <;> (try clear ih0)
    all_goals ((have e : fitF (r, ts) (r2, vs) b = _ := (by exact fitF_no (by omega))); first | (rw [e]; done) | (rw [e]; rfl))
  ·
    have h1' := of_decide_eq_false h1
    refine t_skip ?_
    refine t_seq ?_
    refine t_region ?_
    refine r_op (o_move rfl rfl) ?_
    refine r_op (o_call 2 3 false (Go.Proofs.enters_of Tryz.func59 (by kernel_rfl) rfl) (c_slices_Clone___int_int_ (b) (by omega)) rfl (.cons rfl (.c .t0) .nil) rfl rfl rfl) ?_
    refine r_op (o_assign rfl rfl) ?_
    refine r_end ?_
    refine t_seq ?_
    refine t_seq ?_
    refine t_region ?_
    refine r_op (o_fieldb rfl (off := 1) (by kernel_rfl) rfl) ?_
    refine r_op (o_load1b rfl (by kernel_rfl) rfl rfl rfl) ?_
    refine r_op (o_len rfl rfl rfl) ?_
    refine r_op (o_move rfl rfl) ?_
    refine r_end ?_
    refine t_block ?_
    refine t_loopL (fun (m, q) => ⟨[(5, some (.c (.ptr 1 0))), (8, some (.c (.own 2))), (20, some (.c (.t none (.sl 1 encI (ts))))), (21, some (.c (.t none (.v (.int .i64 (((ts).length : Int))))))), (22, some (.c (.t none (.v (.int .i64 ((m : Int)))))))], [(0, some (.box [.t none (.v (.int .i64 (r))), .t none (.sl 1 encI (ts))])), (1, some (.box [.t none (.v (.int .i64 (r2))), .t none (.sl 1 encI (vs))])), (2, some (.row none 3 true 1 encI (q)))], 3⟩ : Nat × List Int → St) (fun (m, q) => m ≤ ts.length ∧ q.length = 5 ∧ fitP b ((ts.zip vs).take m) = (q, true)) (fun (m, q) => ts.length - m) (0, b) ⟨⟨rfl, ⟨rfl, ⟨rfl, ⟨rfl, ⟨rfl, trivial⟩⟩⟩⟩⟩, ⟨rfl, ⟨rfl, ⟨rfl, trivial⟩⟩⟩, rfl⟩ (by exact ⟨Nat.zero_le _, hb, rfl⟩) ?_
    rintro ⟨m, q⟩ hI ih0
    try dsimp only at hI ih0
    obtain ⟨i1, i2, i3⟩ := hI
    refine t_seq ?_
    refine t_region ?_
    refine r_op (o_bin rfl rfl rfl rfl) ?_
    refine r_end ?_
    refine t_seq ?_
    refine t_cond rfl (fun h2 => ?_) (fun h2 => ?_)
    ·
      have h2' := of_decide_eq_true h2
      refine t_skip ?_
      refine t_seq ?_
      refine t_block ?_
      refine t_seq ?_
      refine t_region ?_
      refine r_op (o_move rfl rfl) ?_
      obtain ⟨z3, hz4, b5⟩ := at_get (xs := ts) (n := (m : Int)) (by omega) (by omega)
      refine r_op (o_index rfl (by kernel_rfl) rfl rfl b5 hz4) ?_
      refine r_op (o_load1 rfl (by kernel_rfl) rfl rfl) ?_
      refine r_op (o_assign rfl rfl) ?_
      refine r_op (o_assign rfl rfl) ?_
      refine r_end ?_
      refine t_seq ?_
      refine t_region ?_
      refine r_op (o_fieldb rfl (off := 1) (by kernel_rfl) rfl) ?_
      refine r_op (o_load1b rfl (by kernel_rfl) rfl rfl rfl) ?_
      refine r_op (o_move rfl rfl) ?_
      obtain ⟨z6, hz7, b8⟩ := at_get (xs := vs) (n := (m : Int)) (by omega) (by omega)
      refine r_op (o_index rfl (by kernel_rfl) rfl rfl b8 hz7) ?_
      refine r_op (o_load1 rfl (by kernel_rfl) rfl rfl) ?_
      refine r_op (o_assign rfl rfl) ?_
      refine r_end ?_
      refine t_block ?_
      refine t_seq ?_
      refine t_region ?_
      refine r_op (o_move rfl rfl) ?_
      refine r_op (o_bin rfl rfl rfl rfl) ?_
      refine r_op (o_assign rfl rfl) ?_
      refine r_end ?_
      refine t_cond rfl (fun h9 => ?_) (fun h9 => ?_)
      ·
        have h9' := of_decide_eq_true h9
        refine t_seq ?_
        refine t_region ?_
        refine r_op (o_move rfl rfl) ?_
        refine r_op (o_move rfl rfl) ?_
        refine r_op (o_bin rfl rfl rfl rfl) ?_
        refine r_op (o_bin rfl rfl rfl rfl) ?_
        refine r_end ?_
        refine t_cond rfl (fun h10 => ?_) (fun h10 => ?_)
        ·
          have h10' := of_decide_eq_true h10
          refine t_seq ?_
          refine t_region ?_
          refine r_op (o_assign rfl rfl) ?_
          refine r_op (o_assign rfl rfl) ?_
          refine r_end ?_
          refine gt_nil 3 (t := 6) (et := 3) (sz := 1) true encI rfl rfl ?_
          refine gt_as0b 6 3 7 rfl rfl rfl rfl ?_
          refine t_ret Tryz.func110 (.tmp rfl (.tmp rfl .nil)) rfl fun E S w u hI hd => ?_
          refine post_mk hI hd ?_ ⟨eqR ?_, trivial⟩ rfl rfl rfl <;> clear hI hd <;> (try clear ih0)
          all_goals ((have e : fitF (r, ts) (r2, vs) b = _ := (by exact fitF_yes (by omega) (fit_bad i3 (zip_at hz4 hz7 rfl rfl) (fs_neg_bad (by omega) (by (have o1 := ht _ (List.mem_of_getElem? hz4); have o2 : IntKind.i64.wrap (-1 - z3) = -1 - z3 := wr64 (by omega) (by omega); omega)))))); first | (rw [e]; done) | (rw [e]; rfl))
        ·
          have h10' := of_decide_eq_false h10
          refine t_skip ?_
          refine t_endblock ?_
          refine t_endblock ?_
          refine t_region ?_
          refine r_op (o_bin rfl rfl rfl rfl) ?_
          refine r_op (o_move rfl rfl) ?_
          refine r_end ?_
          refine t_le ?_ (ih0 (m + 1, q) (by (try dsimp only); omega) (by (try dsimp only); exact ⟨by omega, (by exact i2), by (exact fit_more i3 (zip_at hz4 hz7 rfl rfl) (fs_neg (by omega) (by (have o1 := ht _ (List.mem_of_getElem? hz4); have o2 : IntKind.i64.wrap (-1 - z3) = -1 - z3 := wr64 (by omega) (by omega); omega))))⟩))
          exact ⟨⟨rfl, ⟨rfl, ⟨rfl, ⟨rfl, ⟨(eqI (wr64 (by omega) (by omega))), trivial⟩⟩⟩⟩⟩, ⟨rfl, ⟨rfl, ⟨rfl, trivial⟩⟩⟩, rfl⟩
      ·
        have h9' := of_decide_eq_false h9
        refine t_seq ?_
        refine t_region ?_
        refine r_op (o_move rfl rfl) ?_
        refine r_op (o_move rfl rfl) ?_
        obtain ⟨z11, hz12, b13⟩ := at_get (xs := q) (n := z3) (by omega) (by (have o1 := ht _ (List.mem_of_getElem? (by assumption)); omega))
        refine r_op (o_indexo rfl (by kernel_rfl) rfl rfl rfl b13 (at_lt b13 hz12)) ?_
        refine r_op (o_load1o rfl (by kernel_rfl) rfl rfl rfl hz12) ?_
        refine r_op (o_bin rfl rfl rfl rfl) ?_
        refine r_op (o_assign rfl rfl) ?_
        refine r_end ?_
        refine t_cond rfl (fun h14 => ?_) (fun h14 => ?_)
        ·
          have h14' := of_decide_eq_true h14
          refine t_region ?_
          refine r_op (o_move rfl rfl) ?_
          refine r_op (o_move rfl rfl) ?_
          refine r_op (o_move rfl rfl) ?_
          refine r_op (o_indexo rfl (by kernel_rfl) rfl rfl rfl b13 (at_lt b13 hz12)) ?_
          refine r_op (o_storeo (z6) (n := 1) (by kernel_rfl) rfl rfl hz12 rfl rfl rfl rfl (.cons .sc .nil) rfl (fun j h1 h2 => by simp at h1 h2; omega)) ?_
          refine r_end ?_
          refine t_endblock ?_
          refine t_endblock ?_
          refine t_region ?_
          refine r_op (o_bin rfl rfl rfl rfl) ?_
          refine r_op (o_move rfl rfl) ?_
          refine r_end ?_
          refine t_le ?_ (ih0 (m + 1, (q).set (z3).toNat (z6)) (by (try dsimp only); omega) (by (try dsimp only); exact ⟨by omega, (by (rw [List.length_set]; exact i2)), by (exact fit_more i3 (zip_at hz4 hz7 rfl rfl) (fs_set (by omega) hz12 (by omega)))⟩))
          exact ⟨⟨rfl, ⟨rfl, ⟨rfl, ⟨rfl, ⟨(eqI (wr64 (by omega) (by omega))), trivial⟩⟩⟩⟩⟩, ⟨rfl, ⟨rfl, ⟨rfl, trivial⟩⟩⟩, rfl⟩
        ·
          have h14' := of_decide_eq_false h14
          refine t_seq ?_
          refine t_region ?_
          refine r_op (o_move rfl rfl) ?_
          refine r_op (o_move rfl rfl) ?_
          refine r_op (o_indexo rfl (by kernel_rfl) rfl rfl rfl b13 (at_lt b13 hz12)) ?_
          refine r_op (o_load1o rfl (by kernel_rfl) rfl rfl rfl hz12) ?_
          refine r_op (o_move rfl rfl) ?_
          refine r_op (o_bin rfl rfl rfl rfl) ?_
          refine r_op (o_assign rfl rfl) ?_
          refine r_end ?_
          refine t_cond rfl (fun h15 => ?_) (fun h15 => ?_)
          ·
            have h15' := of_decide_eq_true h15
            refine t_seq ?_
            refine t_region ?_
            refine r_op (o_assign rfl rfl) ?_
            refine r_op (o_assign rfl rfl) ?_
            refine r_end ?_
            refine gt_nil 3 (t := 6) (et := 3) (sz := 1) true encI rfl rfl ?_
            refine gt_as0b 6 3 7 rfl rfl rfl rfl ?_
            refine t_ret Tryz.func110 (.tmp rfl (.tmp rfl .nil)) rfl fun E S w u hI hd => ?_
            refine post_mk hI hd ?_ ⟨eqR ?_, trivial⟩ rfl rfl rfl <;> clear hI hd <;> (try clear ih0)
            all_goals ((have e : fitF (r, ts) (r2, vs) b = _ := (by exact fitF_yes (by omega) (fit_bad i3 (zip_at hz4 hz7 rfl rfl) (fs_bad (by omega) hz12 (by omega) (by omega))))); first | (rw [e]; done) | (rw [e]; rfl))
          ·
            have h15' := of_decide_eq_false h15
            refine t_skip ?_
            refine t_endblock ?_
            refine t_endblock ?_
            refine t_region ?_
            refine r_op (o_bin rfl rfl rfl rfl) ?_
            refine r_op (o_move rfl rfl) ?_
            refine r_end ?_
            refine t_le ?_ (ih0 (m + 1, q) (by (try dsimp only); omega) (by (try dsimp only); exact ⟨by omega, (by exact i2), by (exact fit_more i3 (zip_at hz4 hz7 rfl rfl) (fs_same (by omega) hz12 (by omega)))⟩))
            exact ⟨⟨rfl, ⟨rfl, ⟨rfl, ⟨rfl, ⟨(eqI (wr64 (by omega) (by omega))), trivial⟩⟩⟩⟩⟩, ⟨rfl, ⟨rfl, ⟨rfl, trivial⟩⟩⟩, rfl⟩
    ·
      have h2' := of_decide_eq_false h2
      refine t_exit rfl ?_
      refine t_seq ?_
      refine t_region ?_
      refine r_op (o_move rfl rfl) ?_
      refine r_op (o_assign rfl rfl) ?_
      refine r_op (o_assign rfl rfl) ?_
      refine r_end ?_
      refine gt_as0b 6 2 7 rfl rfl rfl rfl ?_
      refine t_ret Tryz.func110 (.tmp rfl (.tmp rfl .nil)) rfl fun E S w u hI hd => ?_
      refine post_mk hI hd ?_ ⟨eqR ?_, trivial⟩ rfl rfl rfl <;> clear hI hd <;> (try clear ih0)
      all_goals ((have e : fitF (r, ts) (r2, vs) b = _ := (by exact fitF_yes (by omega) (fit_end i3 (by omega)))); first | (rw [e]; done) | (rw [e]; rfl))
set_option maxHeartbeats 1000000 in
set_option maxRecDepth 10000 in
theorem c_impl_matches_n : ∀ (n : Nat) (U : Nat → Value) (fs l : Atoms) (b : List Int) (hf : fs.length ≤ 30) (hl : l.length ≤ 3) (hb : b.length = 5) (hv : ∀ a ∈ l, ∀ f ∈ fs, a.1 = f.1 → a.2.length = f.2.length) (ht : ∀ a ∈ l, (∀ t ∈ a.2, -10 ≤ t ∧ t ≤ 4) ∧ a.2.length ≤ 4611686018427387904) (hn : l.length = n), Mu Tryz.prog 50 [.c (.t none (.sl 2 (enS2 encI (enSl 1 encI)) (fs))), .c (.t none (.sl 2 (enS2 encI (enSl 1 encI)) (l))), .c (.own 0)] [(0, some (.row (some (U 0)) 3 true 1 encI (b)))] 1 [(0, some (.row none 34 true 1 (enSl 1 encI) (matchL fs l b)))] 1 (.c (.own 0)) := by
  refine rec_on fun n ih => ?_
  intro U fs l b hf hl hb hv ht hn
  have rec_ : ∀ (U : Nat → Value) (fs l : Atoms) (b : List Int) (hdec : l.length < n) (hf : fs.length ≤ 30) (hl : l.length ≤ 3) (hb : b.length = 5) (hv : ∀ a ∈ l, ∀ f ∈ fs, a.1 = f.1 → a.2.length = f.2.length) (ht : ∀ a ∈ l, (∀ t ∈ a.2, -10 ≤ t ∧ t ≤ 4) ∧ a.2.length ≤ 4611686018427387904), Mu Tryz.prog 50 [.c (.t none (.sl 2 (enS2 encI (enSl 1 encI)) (fs))), .c (.t none (.sl 2 (enS2 encI (enSl 1 encI)) (l))), .c (.own 0)] [(0, some (.row (some (U 0)) 3 true 1 encI (b)))] 1 [(0, some (.row none 34 true 1 (enSl 1 encI) (matchL fs l b)))] 1 (.c (.own 0)) := fun U fs l b hdec hf hl hb hv ht => ih _ hdec U fs l b hf hl hb hv ht rfl
  refine mu_enter Tryz.func50 rfl (Nat.le_of_ble_eq_true rfl) fun w S M => ?_
  refine t_seq ?_
  refine t_region ?_
  refine r_op (o_assign rfl rfl) ?_
  refine r_end ?_
  refine t_seq ?_
  refine t_seq ?_
  refine t_region ?_
  refine r_op (o_move rfl rfl) ?_
  refine r_op (o_len rfl rfl rfl) ?_
  refine r_op (o_bin rfl rfl rfl rfl) ?_
  refine r_end ?_
  refine t_cond rfl (fun h1 => ?_) (fun h1 => ?_)
  ·
    have h1' := of_decide_eq_true h1
    refine t_seq ?_
    refine t_region ?_
    refine r_op (o_move rfl rfl) ?_
    refine r_op (o_lit2 1 (e := 34) (sz := 1) (zs := [.slice none 0 0]) (enc := (enSl 1 encI)) (b) rfl rfl (by kernel_rfl) rfl rfl rfl rfl rfl rfl (.take (.own rfl) rfl .nil) rfl) ?_
    refine r_op (o_assign rfl rfl) ?_
    refine r_end ?_
    refine gt_as0 6 1 rfl rfl ?_
    refine t_ret Tryz.func50 (.tmp rfl .nil) rfl fun E S w u hI hd => ?_
    refine postM_mk hI hd ?_ ⟨eqR ?_, trivial⟩ rfl rfl <;> clear hI hd <;> (try clear ih0)
    all_goals first | rfl | ((exact (matchL_nil (by assumption)).symm))
  ·
    have h1' := of_decide_eq_false h1
    refine t_skip ?_
    refine t_seq ?_
    refine t_region ?_
    refine r_op (o_lit0 1 (e := 34) (sz := 1) (zs := [.slice none 0 0]) (enSl 1 encI) rfl rfl (by kernel_rfl) rfl) ?_
    refine r_op (o_assign rfl rfl) ?_
    refine r_end ?_
    refine t_seq ?_
    refine t_seq ?_
    refine t_region ?_
    refine r_op (o_move rfl rfl) ?_
    refine r_op (o_len rfl rfl rfl) ?_
    refine r_op (o_move rfl rfl) ?_
    refine r_end ?_
    refine t_block ?_
    refine t_loopL (fun m => ⟨[(0, some (.c (.t none (.sl 2 (enS2 encI (enSl 1 encI)) (fs))))), (1, some (.c (.t none (.sl 2 (enS2 encI (enSl 1 encI)) (l))))), (2, some (.c (.own 0))), (6, some (.c (.t none (.v (.slice none 0 0))))), (7, some (.c (.own 1))), (18, some (.c (.t none (.sl 2 (enS2 encI (enSl 1 encI)) (fs))))), (19, some (.c (.t none (.v (.int .i64 (((fs).length : Int))))))), (20, some (.c (.t none (.v (.int .i64 ((m : Int)))))))], [(0, some (.row (some (U 0)) 3 true 1 encI (b))), (1, some (.row none 34 true 1 (enSl 1 encI) (matchM fs l b m)))], 2⟩ : Nat → St) (fun m => m ≤ fs.length) (fun m => fs.length - m) 0 ⟨⟨rfl, ⟨rfl, ⟨rfl, ⟨rfl, ⟨rfl, ⟨rfl, ⟨rfl, ⟨rfl, trivial⟩⟩⟩⟩⟩⟩⟩⟩, ⟨rfl, ⟨(eqR (matchM_z (by assumption)).symm), trivial⟩⟩, rfl⟩ (by exact Nat.zero_le _) ?_
    rintro m hI ih0
    try dsimp only at hI ih0
    have i1 := hI
    refine t_seq ?_
    refine t_region ?_
    refine r_op (o_bin rfl rfl rfl rfl) ?_
    refine r_end ?_
    refine t_seq ?_
    refine t_cond rfl (fun h2 => ?_) (fun h2 => ?_)
    ·
      have h2' := of_decide_eq_true h2
      refine t_skip ?_
      refine t_seq ?_
      refine t_block ?_
      refine t_seq ?_
      refine t_region ?_
      obtain ⟨z3, hz4, b5⟩ := at_get (xs := fs) (n := (m : Int)) (by omega) (by omega)
      refine r_op (o_index rfl (by kernel_rfl) rfl rfl b5 hz4) ?_
      refine r_op (o_loadA rfl (n := 2) (by kernel_rfl) (by kernel_rfl) rfl rfl) ?_
      refine r_op (o_alloc 2 (zs := [.int .i64 (0), .slice none 0 0]) rfl rfl (by kernel_rfl) rfl) ?_
      refine r_op (o_storeb (n := 2) (by kernel_rfl) rfl rfl rfl rfl rfl rfl) ?_
      refine r_end ?_
      refine t_seq ?_
      refine t_draw (fun _ => true) (by kernel_rfl) ?_
      refine d_take 0 rfl rfl (by kernel_rfl) (by kernel_rfl) (by kernel_rfl) (p_move rfl) ?_
      refine d_take 1 rfl rfl (by kernel_rfl) (by kernel_rfl) (by kernel_rfl) (p_move rfl) ?_
      obtain ⟨z6, hz7, b8⟩ := at_get (xs := l) (n := 0) (by omega) (by omega)
      refine d_take 2 rfl rfl (by kernel_rfl) (by kernel_rfl) (by kernel_rfl) (p_index (by kernel_rfl) rfl rfl b8 hz7) ?_
      refine d_take 3 rfl rfl (by kernel_rfl) (by kernel_rfl) (by kernel_rfl) (p_loadA (n := 2) (by kernel_rfl) (by kernel_rfl) rfl rfl) ?_
      refine d_take 4 rfl rfl (by kernel_rfl) (by kernel_rfl) (by kernel_rfl) (p_loadAb (n := 2) (by kernel_rfl) (by kernel_rfl) rfl rfl rfl) ?_
      refine d_only 5 rfl (by kernel_rfl) rfl (o_call 3 4 false (Go.Proofs.enters_of Tryz.func110 (by kernel_rfl) rfl) (c_impl_bind (b) (z6.1) (z6.2) (z3.1) (z3.2) (by omega) (by exact (ht _ (List.mem_of_getElem? (by assumption))).2) (by exact (ht _ (List.mem_of_getElem? (by assumption))).1) (by exact hv _ (List.mem_of_getElem? (by assumption)) _ (List.mem_of_getElem? (by assumption)))) rfl (.cons rfl (.c (.own rfl)) (.cons rfl (.agg (.cons .t0 (.cons .t0 .nil))) (.cons rfl (.agg (.cons .t0 (.cons .t0 .nil))) .nil))) rfl rfl rfl) ?_
      refine d_take 6 rfl rfl (by kernel_rfl) (by kernel_rfl) (by kernel_rfl) (p_move rfl) ?_
      refine d_take 7 rfl rfl (by kernel_rfl) (by kernel_rfl) (by kernel_rfl) (p_extract rfl rfl rfl) ?_
      refine d_take 8 rfl rfl (by kernel_rfl) (by kernel_rfl) (by kernel_rfl) (p_extract rfl rfl rfl) ?_
      refine d_take 9 rfl rfl (by kernel_rfl) (by kernel_rfl) (by kernel_rfl) (p_assign rfl) ?_
      refine d_take 10 rfl rfl (by kernel_rfl) (by kernel_rfl) (by kernel_rfl) (p_assign rfl) ?_
      refine d_end (by kernel_rfl) ?_
      refine t_seq ?_
      refine t_region ?_
      refine r_op (o_move rfl rfl) ?_
      refine r_end ?_
      refine t_cond rfl (fun h9 => ?_) (fun h9 => ?_)
      ·
        have h9' := h9
        refine t_region ?_
        refine r_op (o_move rfl rfl) ?_
        refine r_op (o_move rfl rfl) ?_
        refine r_op (o_move rfl rfl) ?_
        refine r_op (o_sub rfl (by kernel_rfl) rfl (.l rfl (by omega) (by omega))) ?_
        refine r_op (o_move rfl rfl) ?_
        refine r_op (o_callD 3 (matchL (fs) (((l).take (l).length).drop ((1 : Int)).toNat) (if (fitF ((z6.1), (z6.2)) ((z3.1), (z3.2)) (b)).2 = true then (fitF ((z6.1), (z6.2)) ((z3.1), (z3.2)) (b)).1 else [])) (Go.Proofs.enters_of Tryz.func50 (by kernel_rfl) rfl) (fun U => rec_ U  (fs) (((l).take (l).length).drop ((1 : Int)).toNat) (if (fitF ((z6.1), (z6.2)) ((z3.1), (z3.2)) (b)).2 = true then (fitF ((z6.1), (z6.2)) ((z3.1), (z3.2)) (b)).1 else []) (by (simp only [List.length_drop, List.length_take]; omega)) (by omega) (by (simp only [List.length_drop, List.length_take]; omega)) (by (rw [if_pos (by assumption)]; exact (fitF_len _ _ _).trans hb)) (by exact fun a ha => hv a (mem_tail ha)) (by exact fun a ha => ht a (mem_tail ha))) rfl rfl (.cons rfl .t0 (.cons rfl .t0 (.cons rfl (.own rfl) .nil)))) ?_
        refine r_op (o_appendD 1 (e := 34) (sz := 1) (by' := 24) rfl (by kernel_rfl) rfl rfl rfl rfl rfl rfl (by (refine Nat.le_trans (Nat.mul_le_mul_right _ (room_m hf hl (ne_nil_of (by assumption)) (by simp only [List.length_drop, List.length_take]; omega))) (by decide))) (by exact Nat.le_trans (room_m hf hl (ne_nil_of (by assumption)) (by simp only [List.length_drop, List.length_take]; omega)) (by decide))) ?_
        refine r_op (o_assign rfl rfl) ?_
        refine r_end ?_
        refine t_endblock ?_
        refine t_region ?_
        refine r_op (o_bin rfl rfl rfl rfl) ?_
        refine r_op (o_move rfl rfl) ?_
        refine r_end ?_
        refine t_le ?_ (ih0 (m + 1) (by (try dsimp only); omega) (by (try dsimp only); omega))
        exact ⟨⟨rfl, ⟨rfl, ⟨rfl, ⟨rfl, ⟨rfl, ⟨rfl, ⟨rfl, ⟨(eqI (wr64 (by omega) (by omega))), trivial⟩⟩⟩⟩⟩⟩⟩⟩, ⟨rfl, ⟨(eqR (by (have e := matchM_yes (fs := fs) (l := l) (b := b) (m := m) hz7 rfl hz4 rfl (by assumption); rw [e, if_pos (by assumption), List.take_length]; rfl))), trivial⟩⟩, rfl⟩
      ·
        have h9' := h9
        refine t_skip ?_
        refine t_endblock ?_
        refine t_region ?_
        refine r_op (o_bin rfl rfl rfl rfl) ?_
        refine r_op (o_move rfl rfl) ?_
        refine r_end ?_
        refine t_le ?_ (ih0 (m + 1) (by (try dsimp only); omega) (by (try dsimp only); omega))
        exact ⟨⟨rfl, ⟨rfl, ⟨rfl, ⟨rfl, ⟨rfl, ⟨rfl, ⟨rfl, ⟨(eqI (wr64 (by omega) (by omega))), trivial⟩⟩⟩⟩⟩⟩⟩⟩, ⟨rfl, ⟨(eqR (by exact (matchM_no hz7 rfl hz4 rfl (by assumption)).symm)), trivial⟩⟩, rfl⟩
    ·
      have h2' := of_decide_eq_false h2
      refine t_exit rfl ?_
      refine t_seq ?_
      refine t_region ?_
      refine r_op (o_move rfl rfl) ?_
      refine r_op (o_assign rfl rfl) ?_
      refine r_end ?_
      refine gt_as0 6 1 rfl rfl ?_
      refine t_ret Tryz.func50 (.tmp rfl .nil) rfl fun E S w u hI hd => ?_
      refine postM_mk hI hd ?_ ⟨eqR ?_, trivial⟩ rfl rfl <;> clear hI hd <;> (try clear ih0)
      all_goals first | rfl | ((exact matchM_end (ne_nil_of (by assumption)) (by omega)))
theorem c_impl_matches (U : Nat → Value) (fs l : Atoms) (b : List Int) (hf : fs.length ≤ 30) (hl : l.length ≤ 3) (hb : b.length = 5) (hv : ∀ a ∈ l, ∀ f ∈ fs, a.1 = f.1 → a.2.length = f.2.length) (ht : ∀ a ∈ l, (∀ t ∈ a.2, -10 ≤ t ∧ t ≤ 4) ∧ a.2.length ≤ 4611686018427387904) : Mu Tryz.prog 50 [.c (.t none (.sl 2 (enS2 encI (enSl 1 encI)) (fs))), .c (.t none (.sl 2 (enS2 encI (enSl 1 encI)) (l))), .c (.own 0)] [(0, some (.row (some (U 0)) 3 true 1 encI (b)))] 1 [(0, some (.row none 34 true 1 (enSl 1 encI) (matchL fs l b)))] 1 (.c (.own 0)) := c_impl_matches_n _ U fs l b hf hl hb hv ht rfl
set_option maxHeartbeats 1000000 in
set_option maxRecDepth 10000 in
theorem c_slices_Equal___int_int_ (a b : List Int) (ha : a.length ≤ 4611686018427387904) : Pu Tryz.prog 114 [.c (.t none (.sl 1 encI (a))), .c (.t none (.sl 1 encI (b)))] [] 0 (.c (.t none (.v (.bool (decide (a = b)))))) := by
  refine pu_enter Tryz.func114 rfl (Nat.le_of_ble_eq_true rfl) fun w S => ?_
  refine t_seq ?_
  refine t_region ?_
  refine r_op (o_assign rfl rfl) ?_
  refine r_end ?_
  refine t_seq ?_
  refine t_seq ?_
  refine t_region ?_
  refine r_op (o_move rfl rfl) ?_
  refine r_op (o_len rfl rfl rfl) ?_
  refine r_op (o_move rfl rfl) ?_
  refine r_op (o_len rfl rfl rfl) ?_
  refine r_op (o_bin rfl rfl rfl rfl) ?_
  refine r_end ?_
  refine t_cond rfl (fun h1 => ?_) (fun h1 => ?_)
  ·
    have h1' := of_decide_eq_true h1
    refine t_seq ?_
    refine t_region ?_
    refine r_op (o_assign rfl rfl) ?_
    refine r_end ?_
    refine t_ret Tryz.func114 (.tmp rfl .nil) rfl fun E S w u hI hd => ?_
    refine post_mk hI hd ?_ trivial rfl rfl rfl <;> clear hI hd <;> (try clear ih0)
    all_goals ((have : a ≠ b := by rintro rfl; simp at *); simp [this])
  ·
    have h1' := of_decide_eq_false h1
    refine t_skip ?_
    refine t_seq ?_
    refine t_seq ?_
    refine t_region ?_
    refine r_op (o_move rfl rfl) ?_
    refine r_op (o_len rfl rfl rfl) ?_
    refine r_op (o_move rfl rfl) ?_
    refine r_end ?_
    refine t_block ?_
    refine t_loopL (fun m => ⟨[(0, some (.c (.t none (.sl 1 encI (a))))), (1, some (.c (.t none (.sl 1 encI (b))))), (12, some (.c (.t none (.v (.int .i64 (((a).length : Int))))))), (13, some (.c (.t none (.v (.int .i64 ((m : Int)))))))], [], 0⟩ : Nat → St) (fun m => m ≤ a.length ∧ a.length = b.length ∧ a.take m = b.take m) (fun m => a.length - m) 0 ⟨⟨rfl, ⟨rfl, ⟨rfl, ⟨rfl, trivial⟩⟩⟩⟩, trivial, rfl⟩ (by exact ⟨Nat.zero_le _, by omega, rfl⟩) ?_
    rintro m hI ih0
    try dsimp only at hI ih0
    obtain ⟨i1, i2, i3⟩ := hI
    refine t_seq ?_
    refine t_region ?_
    refine r_op (o_bin rfl rfl rfl rfl) ?_
    refine r_end ?_
    refine t_seq ?_
    refine t_cond rfl (fun h2 => ?_) (fun h2 => ?_)
    ·
      have h2' := of_decide_eq_true h2
      refine t_skip ?_
      refine t_seq ?_
      refine t_block ?_
      refine t_seq ?_
      refine t_region ?_
      refine r_op (o_move rfl rfl) ?_
      refine r_op (o_assign rfl rfl) ?_
      refine r_end ?_
      refine t_seq ?_
      refine t_draw (fun _ => true) (by kernel_rfl) ?_
      refine d_take 0 rfl rfl (by kernel_rfl) (by kernel_rfl) (by kernel_rfl) (p_move rfl) ?_
      refine d_take 1 rfl rfl (by kernel_rfl) (by kernel_rfl) (by kernel_rfl) (p_move rfl) ?_
      obtain ⟨z3, hz4, b5⟩ := at_get (xs := a) (n := (m : Int)) (by omega) (by omega)
      refine d_take 2 rfl rfl (by kernel_rfl) (by kernel_rfl) (by kernel_rfl) (p_index (by kernel_rfl) rfl rfl b5 hz4) ?_
      refine d_take 3 rfl rfl (by kernel_rfl) (by kernel_rfl) (by kernel_rfl) (p_load1 (by kernel_rfl) rfl rfl) ?_
      refine d_take 4 rfl rfl (by kernel_rfl) (by kernel_rfl) (by kernel_rfl) (p_move rfl) ?_
      refine d_take 5 rfl rfl (by kernel_rfl) (by kernel_rfl) (by kernel_rfl) (p_move rfl) ?_
      obtain ⟨z6, hz7, b8⟩ := at_get (xs := b) (n := (m : Int)) (by omega) (by omega)
      refine d_take 6 rfl rfl (by kernel_rfl) (by kernel_rfl) (by kernel_rfl) (p_index (by kernel_rfl) rfl rfl b8 hz7) ?_
      refine d_take 7 rfl rfl (by kernel_rfl) (by kernel_rfl) (by kernel_rfl) (p_load1 (by kernel_rfl) rfl rfl) ?_
      refine d_take 8 rfl rfl (by kernel_rfl) (by kernel_rfl) (by kernel_rfl) (p_bin rfl rfl rfl) ?_
      refine d_end (by kernel_rfl) ?_
      refine t_cond rfl (fun h9 => ?_) (fun h9 => ?_)
      ·
        have h9' := of_decide_eq_true h9
        refine t_seq ?_
        refine t_region ?_
        refine r_op (o_assign rfl rfl) ?_
        refine r_end ?_
        refine t_ret Tryz.func114 (.tmp rfl .nil) rfl fun E S w u hI hd => ?_
        refine post_mk hI hd ?_ trivial rfl rfl rfl <;> clear hI hd <;> (try clear ih0)
        all_goals (have := ne_at (a := a) (b := b) (by assumption) (by assumption) (by assumption); simp_all)
      ·
        have h9' := of_decide_eq_false h9
        refine t_skip ?_
        refine t_endblock ?_
        refine t_region ?_
        refine r_op (o_bin rfl rfl rfl rfl) ?_
        refine r_op (o_move rfl rfl) ?_
        refine r_end ?_
        refine t_le ?_ (ih0 (m + 1) (by (try dsimp only); omega) (by (try dsimp only); exact ⟨by omega, i2, take_same i3 (same_at (by assumption) (by assumption) (by omega))⟩))
        exact ⟨⟨rfl, ⟨rfl, ⟨rfl, ⟨(eqI (wr64 (by omega) (by omega))), trivial⟩⟩⟩⟩, trivial, rfl⟩
    ·
      have h2' := of_decide_eq_false h2
      refine t_exit rfl ?_
      refine t_seq ?_
      refine t_region ?_
      refine r_op (o_assign rfl rfl) ?_
      refine r_end ?_
      refine t_ret Tryz.func114 (.tmp rfl .nil) rfl fun E S w u hI hd => ?_
      refine post_mk hI hd ?_ trivial rfl rfl rfl <;> clear hI hd <;> (try clear ih0)
      all_goals ((obtain rfl : m = a.length := by omega); rw [List.take_length, i2, List.take_length] at i3; simp [i3])
set_option maxHeartbeats 1000000 in
set_option maxRecDepth 10000 in
theorem c_impl_hasBinding_1 (y x : List Int) (hy : y.length ≤ 4611686018427387904) : Pu Tryz.prog 113 [.c (.t none (.sl 1 encI (y))), .c (.pel none ((enSl 1 encI) (x)) 1)] [] 0 (.c (.t none (.v (.bool (decide (y = x)))))) := by
  refine pu_enter Tryz.func113 rfl (Nat.le_of_ble_eq_true rfl) fun w S => ?_
  refine t_seq ?_
  refine t_region ?_
  refine r_op (o_assign rfl rfl) ?_
  refine r_end ?_
  refine t_seq ?_
  refine t_region ?_
  refine r_op (o_move rfl rfl) ?_
  refine r_op (o_load1 rfl (by kernel_rfl) rfl rfl) ?_
  refine r_op (o_call 0 0 false (Go.Proofs.enters_of Tryz.func114 (by kernel_rfl) rfl) (c_slices_Equal___int_int_ (y) (x) (by omega)) rfl (.cons rfl (.c .t0) (.cons rfl (.c .t0) .nil)) rfl rfl rfl) ?_
  refine r_op (o_assign rfl rfl) ?_
  refine r_end ?_
  refine t_ret Tryz.func113 (.tmp rfl .nil) rfl fun E S w u hI hd => ?_
  refine post_mk hI hd ?_ trivial rfl rfl rfl <;> clear hI hd
  all_goals (rfl)
set_option maxHeartbeats 1000000 in
set_option maxRecDepth 10000 in
theorem c_slices_IndexFunc_____int___int_ (l : List (List (Int))) (f : Nat) (cs : List ((Nat → T) × Nat)) (p : List (Int) → Bool) (hl : l.length ≤ 9223372036854775807) (hf : ∀ x ∈ l, Fu Tryz.prog f ([.c (.t none (.sl 1 encI (x)))] ++ pels cs) (.c (.t none (.v (.bool (p x)))))) : Pu Tryz.prog 166 [.c (.t none (.sl 1 (enSl 1 encI) (l))), .c (.fv f cs)] [] 0 (.c (.t none (.v (.int .i64 (idxI p l))))) := by
  refine pu_enter Tryz.func166 rfl (Nat.le_of_ble_eq_true rfl) fun w S => ?_
  refine t_seq ?_
  refine t_region ?_
  refine r_op (o_assign rfl rfl) ?_
  refine r_end ?_
  refine t_seq ?_
  refine t_seq ?_
  refine t_region ?_
  refine r_op (o_move rfl rfl) ?_
  refine r_op (o_len rfl rfl rfl) ?_
  refine r_op (o_move rfl rfl) ?_
  refine r_end ?_
  refine t_block ?_
  refine t_loopL (fun m => ⟨[(0, some (.c (.t none (.sl 1 (enSl 1 encI) (l))))), (1, some (.c (.fv f cs))), (7, some (.c (.t none (.v (.int .i64 (((l).length : Int))))))), (8, some (.c (.t none (.v (.int .i64 ((m : Int)))))))], [], 0⟩ : Nat → St) (fun m => m ≤ l.length ∧ ∀ j z, j < m → l[j]? = some z → p z = false) (fun m => l.length - m) 0 ⟨⟨rfl, ⟨rfl, ⟨rfl, ⟨rfl, trivial⟩⟩⟩⟩, trivial, rfl⟩ (by exact ⟨Nat.zero_le _, fun j z h => by omega⟩) ?_
  rintro m hI ih0
  try dsimp only at hI ih0
  obtain ⟨i1, i2⟩ := hI
  refine t_seq ?_
  refine t_region ?_
  refine r_op (o_bin rfl rfl rfl rfl) ?_
  refine r_end ?_
  refine t_seq ?_
  refine t_cond rfl (fun h1 => ?_) (fun h1 => ?_)
  ·
    have h1' := of_decide_eq_true h1
    refine t_skip ?_
    refine t_seq ?_
    refine t_block ?_
    refine t_seq ?_
    refine t_region ?_
    refine r_op (o_move rfl rfl) ?_
    refine r_op (o_assign rfl rfl) ?_
    refine r_end ?_
    refine t_seq ?_
    refine t_region ?_
    refine r_op (o_move rfl rfl) ?_
    refine r_op (o_move rfl rfl) ?_
    refine r_op (o_move rfl rfl) ?_
    obtain ⟨z2, hz3, b4⟩ := at_get (xs := l) (n := (m : Int)) (by omega) (by omega)
    refine r_op (o_index rfl (by kernel_rfl) rfl rfl b4 hz3) ?_
    refine r_op (o_load1 rfl (by kernel_rfl) rfl rfl) ?_
    refine r_op (o_callv 0 0 false (hf z2 (List.mem_of_getElem? (by assumption))).1 (hf z2 (List.mem_of_getElem? (by assumption))).2 rfl rfl (.c .fv) (.cons rfl (.c .t0) .nil) rfl rfl rfl) ?_
    refine r_end ?_
    refine t_cond rfl (fun h5 => ?_) (fun h5 => ?_)
    ·
      have h5' := h5
      refine t_seq ?_
      refine t_region ?_
      refine r_op (o_move rfl rfl) ?_
      refine r_op (o_assign rfl rfl) ?_
      refine r_end ?_
      refine t_ret Tryz.func166 (.tmp rfl .nil) rfl fun E S w u hI hd => ?_
      refine post_mk hI hd ?_ trivial rfl rfl rfl <;> clear hI hd <;> (try clear ih0)
      all_goals (rw [idx_hit i2 (by assumption) (by assumption)])
    ·
      have h5' := h5
      refine t_skip ?_
      refine t_endblock ?_
      refine t_region ?_
      refine r_op (o_bin rfl rfl rfl rfl) ?_
      refine r_op (o_move rfl rfl) ?_
      refine r_end ?_
      refine t_le ?_ (ih0 (m + 1) (by (try dsimp only); omega) (by (try dsimp only); exact ⟨by omega, no_step i2 (by assumption) rfl (by assumption)⟩))
      exact ⟨⟨rfl, ⟨rfl, ⟨rfl, ⟨(eqI (wr64 (by omega) (by omega))), trivial⟩⟩⟩⟩, trivial, rfl⟩
  ·
    have h1' := of_decide_eq_false h1
    refine t_exit rfl ?_
    refine t_seq ?_
    refine t_region ?_
    refine r_op (o_assign rfl rfl) ?_
    refine r_end ?_
    refine t_ret Tryz.func166 (.tmp rfl .nil) rfl fun E S w u hI hd => ?_
    refine post_mk hI hd ?_ trivial rfl rfl rfl <;> clear hI hd <;> (try clear ih0)
    all_goals (rw [idx_none i2 (by omega)])
set_option maxHeartbeats 1000000 in
set_option maxRecDepth 10000 in
theorem c_slices_ContainsFunc_____int___int_ (l : List (List (Int))) (f : Nat) (cs : List ((Nat → T) × Nat)) (p : List (Int) → Bool) (hl : l.length ≤ 9223372036854775807) (hf : ∀ x ∈ l, Fu Tryz.prog f ([.c (.t none (.sl 1 encI (x)))] ++ pels cs) (.c (.t none (.v (.bool (p x)))))) : Pu Tryz.prog 112 [.c (.t none (.sl 1 (enSl 1 encI) (l))), .c (.fv f cs)] [] 0 (.c (.t none (.v (.bool (l.any p))))) := by
  refine pu_enter Tryz.func112 rfl (Nat.le_of_ble_eq_true rfl) fun w S => ?_
  refine t_seq ?_
  refine t_region ?_
  refine r_op (o_assign rfl rfl) ?_
  refine r_end ?_
  refine t_seq ?_
  refine t_region ?_
  refine r_op (o_move rfl rfl) ?_
  refine r_op (o_move rfl rfl) ?_
  refine r_op (o_call 0 0 false (Go.Proofs.enters_of Tryz.func166 (by kernel_rfl) rfl) (c_slices_IndexFunc_____int___int_ (l) (f) (cs) (p) (by omega) (hf)) rfl (.cons rfl (.c .t0) (.cons rfl (.c .fv) .nil)) rfl rfl rfl) ?_
  refine r_op (o_bin rfl rfl rfl rfl) ?_
  refine r_op (o_assign rfl rfl) ?_
  refine r_end ?_
  refine t_ret Tryz.func112 (.tmp rfl .nil) rfl fun E S w u hI hd => ?_
  refine post_mk hI hd ?_ trivial rfl rfl rfl <;> clear hI hd
  all_goals (exact scB idx_any)
set_option maxHeartbeats 1000000 in
set_option maxRecDepth 10000 in
theorem c_impl_hasBinding (l : List (List Int)) (x : List Int) (hn : l.length ≤ 1048576) (hl : ∀ y ∈ l, y.length ≤ 1048576) : Pu Tryz.prog 52 [.c (.t none (.sl 1 (enSl 1 encI) (l))), .c (.t none (.sl 1 encI (x)))] [] 0 (.c (.t none (.v (.bool (hasR l x))))) := by
  refine pu_enter Tryz.func52 rfl (Nat.le_of_ble_eq_true rfl) fun w S => ?_
  refine t_seq ?_
  refine t_region ?_
  refine r_op (o_box 0 rfl rfl rfl rfl) ?_
  refine r_op (o_assign rfl rfl) ?_
  refine r_end ?_
  refine t_seq ?_
  refine t_region ?_
  refine r_op (o_move rfl rfl) ?_
  refine r_op (o_makeFunc rfl (.cons rfl .nil)) ?_
  refine r_op (o_call 1 1 false (Go.Proofs.enters_of Tryz.func112 (by kernel_rfl) rfl) (c_slices_ContainsFunc_____int___int_ (l) (113) ([((enSl 1 encI) (x), 1)]) (fun (x0 : List (Int)) => decide ((x0) = (x))) (by omega) (fun x0 mx0 => ⟨Go.Proofs.enters_of Tryz.func113 (by kernel_rfl) rfl, c_impl_hasBinding_1 (x0) (x) (by (have e := hl _ (by assumption); omega))⟩)) rfl (.cons rfl (.c .t0) (.cons rfl (.c (.clo (.cons rfl rfl rfl (.cons .t .nil) .nil))) .nil)) rfl rfl rfl) ?_
  refine r_op (o_assign rfl rfl) ?_
  refine r_end ?_
  refine t_ret Tryz.func52 (.tmp rfl .nil) rfl fun E S w u hI hd => ?_
  refine post_mk hI hd ?_ trivial rfl rfl rfl <;> clear hI hd
  all_goals (rfl)
set_option maxHeartbeats 1000000 in
set_option maxRecDepth 10000 in
theorem c_impl_FindMatches (rs : Rels) (fs l : Atoms) (hrs : rs.length ≤ 4611686018427387904) (hfs : szS (fun (x : Int × (List (Int))) => (x.2).length) fs ≤ 1048576) (hll : szS (fun (x : Int × (List (Int))) => (x.2).length) l ≤ 1048576) (ho : ∀ z ∈ fs, ∀ x ∈ z.2, okI x) : Pu Tryz.prog 9 [.agg [.t none (.sl 3 (enS3 encS encI encB) (rs)), .t none (.sl 2 (enS2 encI (enSl 1 encI)) (fs))], .c (.t none (.sl 2 (enS2 encI (enSl 1 encI)) (l)))] [(1, some (.row none 34 true 1 (enSl 1 encI) (findL rs fs l)))] 2 (.c (.own 1)) := by
  refine pu_enter Tryz.func9 rfl (Nat.le_of_ble_eq_true rfl) fun w S => ?_
  refine t_seq ?_
  refine t_region ?_
  refine r_op (o_box 0 rfl rfl rfl rfl) ?_
  refine r_op (o_assign rfl rfl) ?_
  refine r_end ?_
  refine t_seq ?_
  refine t_region ?_
  refine r_op (o_lit0 1 (e := 34) (sz := 1) (zs := [.slice none 0 0]) (enSl 1 encI) rfl rfl (by kernel_rfl) rfl) ?_
  refine r_op (o_assign rfl rfl) ?_
  refine r_end ?_
  refine t_seq ?_
  refine t_seq ?_
  refine t_region ?_
  refine r_op (o_loadAb rfl (n := 2) (by kernel_rfl) (by kernel_rfl) rfl rfl rfl) ?_
  refine r_op (o_move rfl rfl) ?_
  refine r_op (o_call 2 2 false (Go.Proofs.enters_of Tryz.func49 (by kernel_rfl) rfl) (c_impl_areMatchable (rs) (fs) (l) (by omega) (by omega) (by omega) (by omega)) rfl (.cons rfl (.agg (.cons .t0 (.cons .t0 .nil))) (.cons rfl (.c .t0) .nil)) rfl rfl rfl) ?_
  refine r_op (o_not rfl rfl) ?_
  refine r_end ?_
  refine t_cond rfl (fun h1 => ?_) (fun h1 => ?_)
  ·
    have h1' := (bnt h1)
    refine t_seq ?_
    refine t_region ?_
    refine r_op (o_move rfl rfl) ?_
    refine r_op (o_assign rfl rfl) ?_
    refine r_end ?_
    refine t_ret Tryz.func9 (.tmp rfl .nil) rfl fun E S w u hI hd => ?_
    refine post_mk hI hd ?_ ⟨eqR ?_, trivial⟩ rfl rfl rfl <;> clear hI hd <;> (try clear ih0)
    all_goals first | rfl | ((exact findL_no (by simp_all; done)))
  ·
    have h1' := (bnf h1)
    refine t_skip ?_
    refine t_seq ?_
    refine t_seq ?_
    refine t_draw (fun i => !(Nat.beq i 4)) (by kernel_rfl) ?_
    refine d_take 0 rfl rfl (by kernel_rfl) (by kernel_rfl) (by kernel_rfl) (p_fieldb (off := 1) (by kernel_rfl) rfl) ?_
    refine d_take 1 rfl rfl (by kernel_rfl) (by kernel_rfl) (by kernel_rfl) (p_load1b (by kernel_rfl) rfl rfl rfl) ?_
    refine d_take 2 rfl rfl (by kernel_rfl) (by kernel_rfl) (by kernel_rfl) (p_move rfl) ?_
    refine d_two 3 6 rfl rfl (by kernel_rfl) rfl rfl (o_call 2 4 false (Go.Proofs.enters_of Tryz.func51 (by kernel_rfl) rfl) (c_impl_unboundBinding ) rfl .nil rfl rfl rfl) (o_move rfl rfl) ?_ ?_
    ·
      refine d_two 4 6 rfl rfl (by kernel_rfl) rfl rfl (o_callD 3 (matchL (fs) (l) (freeB)) (Go.Proofs.enters_of Tryz.func50 (by kernel_rfl) rfl) (fun U => c_impl_matches U  (fs) (l) (freeB) (by exact (mt_pre (by assumption)).1) (by exact (mt_pre (by assumption)).2.1) (by rfl) (by exact (mt_pre (by assumption)).2.2.1) (by exact (mt_pre (by assumption)).2.2.2)) rfl rfl (.cons rfl .t0 (.cons rfl .t0 (.cons rfl (.own rfl) .nil)))) (o_move rfl rfl) ?_ ?_
      ·
        refine d_take 5 rfl rfl (by kernel_rfl) (by kernel_rfl) (by kernel_rfl) (p_leno rfl rfl rfl) ?_
        refine d_take 6 rfl rfl (by kernel_rfl) (by kernel_rfl) (by kernel_rfl) (p_move rfl) ?_
        refine d_end (by kernel_rfl) ?_
        refine t_block ?_
        refine gt_sum 3 rfl ?_
        refine t_loopL (fun (vs, m) => ⟨[(4, some (.c (.t none (.v (.slice none 0 0))))), (5, some (.c (.own 1))), (18, some (.c (.own 3))), (19, some (.c (.t none (.v (.int .i64 (((matchL (fs) (l) (freeB)).length : Int))))))), (20, some (.c (.t none (.v (.int .i64 ((m : Int)))))))], [(0, some (.box [.t none (.sl 3 (enS3 encS encI encB) (rs)), .t none (.sl 2 (enS2 encI (enSl 1 encI)) (fs))])), (1, some (.row none 34 true 1 (enSl 1 encI) (dedL ((matchL fs l freeB).take m)))), (3, some (.row none 34 true 1 (encK (enSl 1 encI)) (tkL vs (matchL fs l freeB))))], 4⟩ : List Value × Nat → St) (fun (vs, m) => vs.length = m ∧ m ≤ (matchL fs l freeB).length) (fun (vs, m) => (matchL fs l freeB).length - m) ([], 0) ⟨⟨rfl, ⟨rfl, ⟨rfl, ⟨rfl, ⟨rfl, trivial⟩⟩⟩⟩⟩, ⟨rfl, ⟨rfl, ⟨rfl, trivial⟩⟩⟩, rfl⟩ (by exact ⟨rfl, Nat.zero_le _⟩) ?_
        rintro ⟨vs, m⟩ hI ih0
        try dsimp only at hI ih0
        obtain ⟨i0, i1⟩ := hI; have mp := mt_pre (rs := rs) (fs := fs) (l := l) (by assumption); have dr := ded_room (m := m) mp.1 mp.2.1; have tl := tkL_len (vs := vs) (L := matchL fs l freeB) (by omega); have mm := matchL_most mp.1 mp.2.1 freeB
        refine t_seq ?_
        refine t_region ?_
        refine r_op (o_bin rfl rfl rfl rfl) ?_
        refine r_end ?_
        refine t_seq ?_
        refine t_cond rfl (fun h2 => ?_) (fun h2 => ?_)
        ·
          have h2' := of_decide_eq_true h2
          refine t_skip ?_
          refine t_seq ?_
          refine t_block ?_
          refine t_seq ?_
          obtain ⟨z3, hz4, b5⟩ := at_get (xs := matchL fs l freeB) (n := (m : Int)) (by omega) (by omega)
          refine gt_take0 4 3 rfl rfl (tkL_at (by omega) hz4) fun e6 v7 => ?_
          refine t_region ?_
          obtain ⟨z8, hz9, b10⟩ := at_get (xs := (tkL vs (matchL fs l freeB)).set (m : Int).toNat (.inl v7)) (n := (m : Int)) (by omega) (by (rw [List.length_set]; omega))
          refine r_op (o_indexo rfl (by kernel_rfl) rfl rfl rfl b10 (at_lt b10 hz9)) ?_
          refine r_op (o_loadpin rfl (k := 4) (o := 0) (by kernel_rfl) rfl rfl (tk_got (by omega) (by omega)) rfl) ?_
          refine r_op (o_assign rfl rfl) ?_
          refine r_end ?_
          refine t_seq ?_
          refine t_region ?_
          refine r_op (o_move rfl rfl) ?_
          refine r_op (o_move rfl rfl) ?_
          refine r_op (o_call 5 5 false (Go.Proofs.enters_of Tryz.func52 (by kernel_rfl) rfl) (c_impl_hasBinding (dedL ((matchL fs l freeB).take m)) (z3) (by omega) (by (intro y hy; have e5 := ded_five hy; omega))) rfl (.cons rfl (.c (.own rfl)) (.cons rfl (.c (.own rfl)) .nil)) rfl rfl rfl) ?_
          refine r_op (o_not rfl rfl) ?_
          refine r_end ?_
          refine t_cond rfl (fun h11 => ?_) (fun h11 => ?_)
          ·
            have h11' := (bnt h11)
            refine t_region ?_
            refine r_op (o_move rfl rfl) ?_
            refine r_op (o_move rfl rfl) ?_
            refine r_op (o_litS 5 (e := 34) (sz := 1) (zs := [.slice none 0 0]) rfl rfl (by kernel_rfl) rfl rfl rfl rfl rfl) ?_
            refine r_op (o_append 1 (e := 34) (sz := 1) (by' := 24) (z3) rfl (by kernel_rfl) rfl rfl rfl rfl rfl rfl (.take (.own rfl) rfl .nil) rfl (by omega) (by omega)) ?_
            refine r_op (o_assign rfl rfl) ?_
            refine r_end ?_
            refine t_endblock ?_
            refine t_region ?_
            refine r_op (o_bin rfl rfl rfl rfl) ?_
            refine r_op (o_move rfl rfl) ?_
            refine r_end ?_
            refine t_le ?_ (ih0 (vs ++ [v7], m + 1) (by (try dsimp only); omega) (by (try dsimp only); exact ⟨by simp; omega, by omega⟩))
            exact ⟨⟨rfl, ⟨rfl, ⟨rfl, ⟨rfl, ⟨(eqI (wr64 (by omega) (by omega))), trivial⟩⟩⟩⟩⟩, ⟨rfl, ⟨(eqR (by exact (ded_more hz4 rfl (by assumption)).symm)), ⟨(eqR (tkL_set i0 (by omega))), trivial⟩⟩⟩, rfl⟩
          ·
            have h11' := (bnf h11)
            refine t_skip ?_
            refine t_endblock ?_
            refine t_region ?_
            refine r_op (o_bin rfl rfl rfl rfl) ?_
            refine r_op (o_move rfl rfl) ?_
            refine r_end ?_
            refine t_le ?_ (ih0 (vs ++ [v7], m + 1) (by (try dsimp only); omega) (by (try dsimp only); exact ⟨by simp; omega, by omega⟩))
            exact ⟨⟨rfl, ⟨rfl, ⟨rfl, ⟨rfl, ⟨(eqI (wr64 (by omega) (by omega))), trivial⟩⟩⟩⟩⟩, ⟨rfl, ⟨(eqR (by exact (ded_same hz4 rfl (by assumption)).symm)), ⟨(eqR (tkL_set i0 (by omega))), trivial⟩⟩⟩, rfl⟩
        ·
          have h2' := of_decide_eq_false h2
          refine t_exit rfl ?_
          refine t_seq ?_
          refine t_region ?_
          refine r_op (o_move rfl rfl) ?_
          refine r_op (o_assign rfl rfl) ?_
          refine r_end ?_
          refine t_ret Tryz.func9 (.tmp rfl .nil) rfl fun E S w u hI hd => ?_
          refine post_mk hI hd ?_ ⟨eqR ?_, trivial⟩ rfl rfl rfl <;> clear hI hd <;> (try clear ih0)
          all_goals first | rfl | ((exact findL_yes (by assumption) (by omega)))
      ·
        refine d_only 4 rfl (by kernel_rfl) rfl (o_callD 3 (matchL (fs) (l) (freeB)) (Go.Proofs.enters_of Tryz.func50 (by kernel_rfl) rfl) (fun U => c_impl_matches U  (fs) (l) (freeB) (by exact (mt_pre (by assumption)).1) (by exact (mt_pre (by assumption)).2.1) (by rfl) (by exact (mt_pre (by assumption)).2.2.1) (by exact (mt_pre (by assumption)).2.2.2)) rfl rfl (.cons rfl .t0 (.cons rfl .t0 (.cons rfl (.own rfl) .nil)))) ?_
        refine d_take 5 rfl rfl (by kernel_rfl) (by kernel_rfl) (by kernel_rfl) (p_leno rfl rfl rfl) ?_
        refine d_end (by kernel_rfl) ?_
        refine t_block ?_
        refine gt_sum 3 rfl ?_
        refine t_loopL (fun (vs, m) => ⟨[(4, some (.c (.t none (.v (.slice none 0 0))))), (5, some (.c (.own 1))), (18, some (.c (.own 3))), (19, some (.c (.t none (.v (.int .i64 (((matchL (fs) (l) (freeB)).length : Int))))))), (20, some (.c (.t none (.v (.int .i64 ((m : Int)))))))], [(0, some (.box [.t none (.sl 3 (enS3 encS encI encB) (rs)), .t none (.sl 2 (enS2 encI (enSl 1 encI)) (fs))])), (1, some (.row none 34 true 1 (enSl 1 encI) (dedL ((matchL fs l freeB).take m)))), (3, some (.row none 34 true 1 (encK (enSl 1 encI)) (tkL vs (matchL fs l freeB))))], 4⟩ : List Value × Nat → St) (fun (vs, m) => vs.length = m ∧ m ≤ (matchL fs l freeB).length) (fun (vs, m) => (matchL fs l freeB).length - m) ([], 0) ⟨⟨rfl, ⟨rfl, ⟨rfl, ⟨rfl, ⟨rfl, trivial⟩⟩⟩⟩⟩, ⟨rfl, ⟨rfl, ⟨rfl, trivial⟩⟩⟩, rfl⟩ (by exact ⟨rfl, Nat.zero_le _⟩) ?_
        rintro ⟨vs, m⟩ hI ih0
        try dsimp only at hI ih0
        obtain ⟨i0, i1⟩ := hI; have mp := mt_pre (rs := rs) (fs := fs) (l := l) (by assumption); have dr := ded_room (m := m) mp.1 mp.2.1; have tl := tkL_len (vs := vs) (L := matchL fs l freeB) (by omega); have mm := matchL_most mp.1 mp.2.1 freeB
        refine t_seq ?_
        refine t_region ?_
        refine r_op (o_bin rfl rfl rfl rfl) ?_
        refine r_end ?_
        refine t_seq ?_
        refine t_cond rfl (fun h12 => ?_) (fun h12 => ?_)
        ·
          have h12' := of_decide_eq_true h12
          refine t_skip ?_
          refine t_seq ?_
          refine t_block ?_
          refine t_seq ?_
          obtain ⟨z13, hz14, b15⟩ := at_get (xs := matchL fs l freeB) (n := (m : Int)) (by omega) (by omega)
          refine gt_take0 4 3 rfl rfl (tkL_at (by omega) hz14) fun e16 v17 => ?_
          refine t_region ?_
          obtain ⟨z18, hz19, b20⟩ := at_get (xs := (tkL vs (matchL fs l freeB)).set (m : Int).toNat (.inl v17)) (n := (m : Int)) (by omega) (by (rw [List.length_set]; omega))
          refine r_op (o_indexo rfl (by kernel_rfl) rfl rfl rfl b20 (at_lt b20 hz19)) ?_
          refine r_op (o_loadpin rfl (k := 4) (o := 0) (by kernel_rfl) rfl rfl (tk_got (by omega) (by omega)) rfl) ?_
          refine r_op (o_assign rfl rfl) ?_
          refine r_end ?_
          refine t_seq ?_
          refine t_region ?_
          refine r_op (o_move rfl rfl) ?_
          refine r_op (o_move rfl rfl) ?_
          refine r_op (o_call 5 5 false (Go.Proofs.enters_of Tryz.func52 (by kernel_rfl) rfl) (c_impl_hasBinding (dedL ((matchL fs l freeB).take m)) (z13) (by omega) (by (intro y hy; have e5 := ded_five hy; omega))) rfl (.cons rfl (.c (.own rfl)) (.cons rfl (.c (.own rfl)) .nil)) rfl rfl rfl) ?_
          refine r_op (o_not rfl rfl) ?_
          refine r_end ?_
          refine t_cond rfl (fun h21 => ?_) (fun h21 => ?_)
          ·
            have h21' := (bnt h21)
            refine t_region ?_
            refine r_op (o_move rfl rfl) ?_
            refine r_op (o_move rfl rfl) ?_
            refine r_op (o_litS 5 (e := 34) (sz := 1) (zs := [.slice none 0 0]) rfl rfl (by kernel_rfl) rfl rfl rfl rfl rfl) ?_
            refine r_op (o_append 1 (e := 34) (sz := 1) (by' := 24) (z13) rfl (by kernel_rfl) rfl rfl rfl rfl rfl rfl (.take (.own rfl) rfl .nil) rfl (by omega) (by omega)) ?_
            refine r_op (o_assign rfl rfl) ?_
            refine r_end ?_
            refine t_endblock ?_
            refine t_region ?_
            refine r_op (o_bin rfl rfl rfl rfl) ?_
            refine r_op (o_move rfl rfl) ?_
            refine r_end ?_
            refine t_le ?_ (ih0 (vs ++ [v17], m + 1) (by (try dsimp only); omega) (by (try dsimp only); exact ⟨by simp; omega, by omega⟩))
            exact ⟨⟨rfl, ⟨rfl, ⟨rfl, ⟨rfl, ⟨(eqI (wr64 (by omega) (by omega))), trivial⟩⟩⟩⟩⟩, ⟨rfl, ⟨(eqR (by exact (ded_more hz14 rfl (by assumption)).symm)), ⟨(eqR (tkL_set i0 (by omega))), trivial⟩⟩⟩, rfl⟩
          ·
            have h21' := (bnf h21)
            refine t_skip ?_
            refine t_endblock ?_
            refine t_region ?_
            refine r_op (o_bin rfl rfl rfl rfl) ?_
            refine r_op (o_move rfl rfl) ?_
            refine r_end ?_
            refine t_le ?_ (ih0 (vs ++ [v17], m + 1) (by (try dsimp only); omega) (by (try dsimp only); exact ⟨by simp; omega, by omega⟩))
            exact ⟨⟨rfl, ⟨rfl, ⟨rfl, ⟨rfl, ⟨(eqI (wr64 (by omega) (by omega))), trivial⟩⟩⟩⟩⟩, ⟨rfl, ⟨(eqR (by exact (ded_same hz14 rfl (by assumption)).symm)), ⟨(eqR (tkL_set i0 (by omega))), trivial⟩⟩⟩, rfl⟩
        ·
          have h12' := of_decide_eq_false h12
          refine t_exit rfl ?_
          refine t_seq ?_
          refine t_region ?_
          refine r_op (o_move rfl rfl) ?_
          refine r_op (o_assign rfl rfl) ?_
          refine r_end ?_
          refine t_ret Tryz.func9 (.tmp rfl .nil) rfl fun E S w u hI hd => ?_
          refine post_mk hI hd ?_ ⟨eqR ?_, trivial⟩ rfl rfl rfl <;> clear hI hd <;> (try clear ih0)
          all_goals first | rfl | ((exact findL_yes (by assumption) (by omega)))
    ·
      refine d_only 3 rfl (by kernel_rfl) rfl (o_call 2 4 false (Go.Proofs.enters_of Tryz.func51 (by kernel_rfl) rfl) (c_impl_unboundBinding ) rfl .nil rfl rfl rfl) ?_
      refine d_only 4 rfl (by kernel_rfl) rfl (o_callD 3 (matchL (fs) (l) (freeB)) (Go.Proofs.enters_of Tryz.func50 (by kernel_rfl) rfl) (fun U => c_impl_matches U  (fs) (l) (freeB) (by exact (mt_pre (by assumption)).1) (by exact (mt_pre (by assumption)).2.1) (by rfl) (by exact (mt_pre (by assumption)).2.2.1) (by exact (mt_pre (by assumption)).2.2.2)) rfl rfl (.cons rfl .t0 (.cons rfl .t0 (.cons rfl (.own rfl) .nil)))) ?_
      refine d_take 5 rfl rfl (by kernel_rfl) (by kernel_rfl) (by kernel_rfl) (p_leno rfl rfl rfl) ?_
      refine d_end (by kernel_rfl) ?_
      refine t_block ?_
      refine gt_sum 3 rfl ?_
      refine t_loopL (fun (vs, m) => ⟨[(4, some (.c (.t none (.v (.slice none 0 0))))), (5, some (.c (.own 1))), (18, some (.c (.own 3))), (19, some (.c (.t none (.v (.int .i64 (((matchL (fs) (l) (freeB)).length : Int))))))), (20, some (.c (.t none (.v (.int .i64 ((m : Int)))))))], [(0, some (.box [.t none (.sl 3 (enS3 encS encI encB) (rs)), .t none (.sl 2 (enS2 encI (enSl 1 encI)) (fs))])), (1, some (.row none 34 true 1 (enSl 1 encI) (dedL ((matchL fs l freeB).take m)))), (3, some (.row none 34 true 1 (encK (enSl 1 encI)) (tkL vs (matchL fs l freeB))))], 4⟩ : List Value × Nat → St) (fun (vs, m) => vs.length = m ∧ m ≤ (matchL fs l freeB).length) (fun (vs, m) => (matchL fs l freeB).length - m) ([], 0) ⟨⟨rfl, ⟨rfl, ⟨rfl, ⟨rfl, ⟨rfl, trivial⟩⟩⟩⟩⟩, ⟨rfl, ⟨rfl, ⟨rfl, trivial⟩⟩⟩, rfl⟩ (by exact ⟨rfl, Nat.zero_le _⟩) ?_
      rintro ⟨vs, m⟩ hI ih0
      try dsimp only at hI ih0
      obtain ⟨i0, i1⟩ := hI; have mp := mt_pre (rs := rs) (fs := fs) (l := l) (by assumption); have dr := ded_room (m := m) mp.1 mp.2.1; have tl := tkL_len (vs := vs) (L := matchL fs l freeB) (by omega); have mm := matchL_most mp.1 mp.2.1 freeB
      refine t_seq ?_
      refine t_region ?_
      refine r_op (o_bin rfl rfl rfl rfl) ?_
      refine r_end ?_
      refine t_seq ?_
      refine t_cond rfl (fun h22 => ?_) (fun h22 => ?_)
      ·
        have h22' := of_decide_eq_true h22
        refine t_skip ?_
        refine t_seq ?_
        refine t_block ?_
        refine t_seq ?_
        obtain ⟨z23, hz24, b25⟩ := at_get (xs := matchL fs l freeB) (n := (m : Int)) (by omega) (by omega)
        refine gt_take0 4 3 rfl rfl (tkL_at (by omega) hz24) fun e26 v27 => ?_
        refine t_region ?_
        obtain ⟨z28, hz29, b30⟩ := at_get (xs := (tkL vs (matchL fs l freeB)).set (m : Int).toNat (.inl v27)) (n := (m : Int)) (by omega) (by (rw [List.length_set]; omega))
        refine r_op (o_indexo rfl (by kernel_rfl) rfl rfl rfl b30 (at_lt b30 hz29)) ?_
        refine r_op (o_loadpin rfl (k := 4) (o := 0) (by kernel_rfl) rfl rfl (tk_got (by omega) (by omega)) rfl) ?_
        refine r_op (o_assign rfl rfl) ?_
        refine r_end ?_
        refine t_seq ?_
        refine t_region ?_
        refine r_op (o_move rfl rfl) ?_
        refine r_op (o_move rfl rfl) ?_
        refine r_op (o_call 5 5 false (Go.Proofs.enters_of Tryz.func52 (by kernel_rfl) rfl) (c_impl_hasBinding (dedL ((matchL fs l freeB).take m)) (z23) (by omega) (by (intro y hy; have e5 := ded_five hy; omega))) rfl (.cons rfl (.c (.own rfl)) (.cons rfl (.c (.own rfl)) .nil)) rfl rfl rfl) ?_
        refine r_op (o_not rfl rfl) ?_
        refine r_end ?_
        refine t_cond rfl (fun h31 => ?_) (fun h31 => ?_)
        ·
          have h31' := (bnt h31)
          refine t_region ?_
          refine r_op (o_move rfl rfl) ?_
          refine r_op (o_move rfl rfl) ?_
          refine r_op (o_litS 5 (e := 34) (sz := 1) (zs := [.slice none 0 0]) rfl rfl (by kernel_rfl) rfl rfl rfl rfl rfl) ?_
          refine r_op (o_append 1 (e := 34) (sz := 1) (by' := 24) (z23) rfl (by kernel_rfl) rfl rfl rfl rfl rfl rfl (.take (.own rfl) rfl .nil) rfl (by omega) (by omega)) ?_
          refine r_op (o_assign rfl rfl) ?_
          refine r_end ?_
          refine t_endblock ?_
          refine t_region ?_
          refine r_op (o_bin rfl rfl rfl rfl) ?_
          refine r_op (o_move rfl rfl) ?_
          refine r_end ?_
          refine t_le ?_ (ih0 (vs ++ [v27], m + 1) (by (try dsimp only); omega) (by (try dsimp only); exact ⟨by simp; omega, by omega⟩))
          exact ⟨⟨rfl, ⟨rfl, ⟨rfl, ⟨rfl, ⟨(eqI (wr64 (by omega) (by omega))), trivial⟩⟩⟩⟩⟩, ⟨rfl, ⟨(eqR (by exact (ded_more hz24 rfl (by assumption)).symm)), ⟨(eqR (tkL_set i0 (by omega))), trivial⟩⟩⟩, rfl⟩
        ·
          have h31' := (bnf h31)
          refine t_skip ?_
          refine t_endblock ?_
          refine t_region ?_
          refine r_op (o_bin rfl rfl rfl rfl) ?_
          refine r_op (o_move rfl rfl) ?_
          refine r_end ?_
          refine t_le ?_ (ih0 (vs ++ [v27], m + 1) (by (try dsimp only); omega) (by (try dsimp only); exact ⟨by simp; omega, by omega⟩))
          exact ⟨⟨rfl, ⟨rfl, ⟨rfl, ⟨rfl, ⟨(eqI (wr64 (by omega) (by omega))), trivial⟩⟩⟩⟩⟩, ⟨rfl, ⟨(eqR (by exact (ded_same hz24 rfl (by assumption)).symm)), ⟨(eqR (tkL_set i0 (by omega))), trivial⟩⟩⟩, rfl⟩
      ·
        have h22' := of_decide_eq_false h22
        refine t_exit rfl ?_
        refine t_seq ?_
        refine t_region ?_
        refine r_op (o_move rfl rfl) ?_
        refine r_op (o_assign rfl rfl) ?_
        refine r_end ?_
        refine t_ret Tryz.func9 (.tmp rfl .nil) rfl fun E S w u hI hd => ?_
        refine post_mk hI hd ?_ ⟨eqR ?_, trivial⟩ rfl rfl rfl <;> clear hI hd <;> (try clear ih0)
        all_goals first | rfl | ((exact findL_yes (by assumption) (by omega)))
set_option maxHeartbeats 1000000 in
set_option maxRecDepth 10000 in
theorem c_spec_l1In (a0 a1 a2 : Int) : Pu Tryz.prog 121 [.c (.t none (.v (.int .i64 (a0)))), .c (.t none (.v (.int .i64 (a1)))), .c (.t none (.v (.int .i64 (a2))))] [] 0 (.c (.t none (.v (.bool (decide (a1 ≤ a0 ∧ a0 ≤ a2)))))) := by
  refine pu_enter Tryz.func121 rfl (Nat.le_of_ble_eq_true rfl) fun w S => ?_
  refine t_seq ?_
  refine t_region ?_
  refine r_op (o_assign rfl rfl) ?_
  refine r_end ?_
  refine t_seq ?_
  refine t_region ?_
  refine r_op (o_move rfl rfl) ?_
  refine r_op (o_move rfl rfl) ?_
  refine r_op (o_bin rfl rfl rfl rfl) ?_
  refine r_op (o_move rfl rfl) ?_
  refine r_guard rfl rfl rfl (fun g1 => ?_) (fun g1 => ?_)
  ·
    have g1' := of_decide_eq_true g1
    refine r_op (o_move rfl rfl) ?_
    refine r_guard rfl rfl rfl (fun _ => ?_) (nc g1)
    refine r_op (o_move rfl rfl) ?_
    refine r_guard rfl rfl rfl (fun _ => ?_) (nc g1)
    refine r_op (o_bin rfl rfl rfl rfl) ?_
    refine r_op (o_pickT rfl rfl g1 rfl) ?_
    refine r_op (o_assign rfl rfl) ?_
    refine r_end ?_
    refine t_ret Tryz.func121 (.tmp rfl .nil) rfl fun E S w u hI hd => ?_
    refine post_mk hI hd ?_ trivial rfl rfl rfl <;> clear hI hd
    all_goals (simp_all <;> omega)
  ·
    have g1' := of_decide_eq_false g1
    refine r_guard rfl rfl rfl (ncf g1) (fun _ => ?_)
    refine r_guard rfl rfl rfl (ncf g1) (fun _ => ?_)
    refine r_op (o_pickF rfl rfl g1 rfl) ?_
    refine r_op (o_assign rfl rfl) ?_
    refine r_end ?_
    refine t_ret Tryz.func121 (.tmp rfl .nil) rfl fun E S w u hI hd => ?_
    refine post_mk hI hd ?_ trivial rfl rfl rfl <;> clear hI hd
    all_goals (simp_all <;> omega)
set_option maxHeartbeats 1000000 in
set_option maxRecDepth 10000 in
theorem c_spec_IsValidRelation (n : List UInt8) (a : Int) (s : Bool) : Pu Tryz.prog 131 [.agg [.t none (.v (.string (mkS (n)))), .t none (.v (.int .i64 (a))), .t none (.v (.bool (s)))]] [] 0 (.c (.t none (.v (.bool (relOk (n, a, s)))))) := by
  refine pu_enter Tryz.func131 rfl (Nat.le_of_ble_eq_true rfl) fun w S => ?_
  refine t_seq ?_
  refine t_region ?_
  refine r_op (o_box 0 rfl rfl rfl rfl) ?_
  refine r_op (o_assign rfl rfl) ?_
  refine r_end ?_
  refine t_seq ?_
  refine t_region ?_
  refine r_op (o_fieldb rfl (off := 0) (by kernel_rfl) rfl) ?_
  refine r_op (o_load1b rfl (by kernel_rfl) rfl rfl rfl) ?_
  refine r_op (o_lenS rfl Tryz.underlying9 rfl) ?_
  refine r_op (o_bin rfl rfl rfl rfl) ?_
  refine r_op (o_move rfl rfl) ?_
  refine r_guard rfl rfl rfl (fun g1 => ?_) (fun g1 => ?_)
  ·
    have g1' := of_decide_eq_true g1
    refine r_op (o_fieldb rfl (off := 0) (by kernel_rfl) rfl) ?_
    refine r_guard rfl rfl rfl (fun _ => ?_) (nc g1)
    refine r_op (o_load1b rfl (by kernel_rfl) rfl rfl rfl) ?_
    refine r_guard rfl rfl rfl (fun _ => ?_) (nc g1)
    obtain ⟨z2, hz3, b4⟩ := at_get (xs := n) (n := 0) (by omega) (by omega)
    refine r_op (o_indexS rfl Tryz.underlying9 rfl rfl b4 hz3) ?_
    refine r_guard rfl rfl rfl (fun _ => ?_) (nc g1)
    refine r_op (o_bin rfl rfl rfl rfl) ?_
    refine r_op (o_pickT rfl rfl g1 rfl) ?_
    refine r_op (o_move rfl rfl) ?_
    refine r_guard rfl rfl rfl (fun g5 => ?_) (fun g5 => ?_)
    ·
      have g5' := of_decide_eq_true g5
      refine r_op (o_fieldb rfl (off := 0) (by kernel_rfl) rfl) ?_
      refine r_guard rfl rfl rfl (fun _ => ?_) (nc g5)
      refine r_op (o_load1b rfl (by kernel_rfl) rfl rfl rfl) ?_
      refine r_guard rfl rfl rfl (fun _ => ?_) (nc g5)
      refine r_op (o_indexS rfl Tryz.underlying9 rfl rfl b4 hz3) ?_
      refine r_guard rfl rfl rfl (fun _ => ?_) (nc g5)
      refine r_op (o_bin rfl rfl rfl rfl) ?_
      refine r_op (o_pickT rfl rfl g5 rfl) ?_
      refine r_op (o_move rfl rfl) ?_
      refine r_guard rfl rfl rfl (fun g6 => ?_) (fun g6 => ?_)
      ·
        have g6' := of_decide_eq_true g6
        refine r_op (o_fieldb rfl (off := 1) (by kernel_rfl) rfl) ?_
        refine r_guard rfl rfl rfl (fun _ => ?_) (nc g6)
        refine r_op (o_load1b rfl (by kernel_rfl) rfl rfl rfl) ?_
        refine r_guard rfl rfl rfl (fun _ => ?_) (nc g6)
        refine r_op (o_call 1 1 false (Go.Proofs.enters_of Tryz.func121 (by kernel_rfl) rfl) (c_spec_l1In (a) (1) (3)) rfl (.cons rfl (.c .t0) (.cons rfl (.c .t0) (.cons rfl (.c .t0) .nil))) rfl rfl rfl) ?_
        refine r_op (o_pickT rfl rfl g6 rfl) ?_
        refine r_op (o_assign rfl rfl) ?_
        refine r_end ?_
        refine t_ret Tryz.func131 (.tmp rfl .nil) rfl fun E S w u hI hd => ?_
        refine post_mk hI hd ?_ trivial rfl rfl rfl <;> clear hI hd
        all_goals (refine scB ?_; (obtain ⟨c, rfl⟩ := one_of (by assumption); simp at *; subst_vars; simp [relOk, nameOk]; omega))
      ·
        have g6' := of_decide_eq_false g6
        refine r_guard rfl rfl rfl (ncf g6) (fun _ => ?_)
        refine r_guard rfl rfl rfl (ncf g6) (fun _ => ?_)
        refine r_op (o_pickF rfl rfl g6 rfl) ?_
        refine r_op (o_assign rfl rfl) ?_
        refine r_end ?_
        refine t_ret Tryz.func131 (.tmp rfl .nil) rfl fun E S w u hI hd => ?_
        refine post_mk hI hd ?_ trivial rfl rfl rfl <;> clear hI hd
        all_goals (refine scB ?_; (obtain ⟨c, rfl⟩ := one_of (by assumption); simp at *; subst_vars; simp [relOk, nameOk]; omega))
    ·
      have g5' := of_decide_eq_false g5
      refine r_guard rfl rfl rfl (ncf g5) (fun _ => ?_)
      refine r_guard rfl rfl rfl (ncf g5) (fun _ => ?_)
      refine r_guard rfl rfl rfl (ncf g5) (fun _ => ?_)
      refine r_op (o_pickF rfl rfl g5 rfl) ?_
      refine r_op (o_move rfl rfl) ?_
      refine r_guard rfl rfl rfl (ncf rfl) (fun _ => ?_)
      refine r_guard rfl rfl rfl (ncf rfl) (fun _ => ?_)
      refine r_guard rfl rfl rfl (ncf rfl) (fun _ => ?_)
      refine r_op (o_pickF rfl rfl rfl rfl) ?_
      refine r_op (o_assign rfl rfl) ?_
      refine r_end ?_
      refine t_ret Tryz.func131 (.tmp rfl .nil) rfl fun E S w u hI hd => ?_
      refine post_mk hI hd ?_ trivial rfl rfl rfl <;> clear hI hd
      all_goals (refine scB ?_; (obtain ⟨c, rfl⟩ := one_of (by assumption); simp at *; subst_vars; simp [relOk, nameOk]; omega))
  ·
    have g1' := of_decide_eq_false g1
    refine r_guard rfl rfl rfl (ncf g1) (fun _ => ?_)
    refine r_guard rfl rfl rfl (ncf g1) (fun _ => ?_)
    refine r_guard rfl rfl rfl (ncf g1) (fun _ => ?_)
    refine r_op (o_pickF rfl rfl g1 rfl) ?_
    refine r_op (o_move rfl rfl) ?_
    refine r_guard rfl rfl rfl (ncf rfl) (fun _ => ?_)
    refine r_guard rfl rfl rfl (ncf rfl) (fun _ => ?_)
    refine r_guard rfl rfl rfl (ncf rfl) (fun _ => ?_)
    refine r_guard rfl rfl rfl (ncf rfl) (fun _ => ?_)
    refine r_op (o_pickF rfl rfl rfl rfl) ?_
    refine r_op (o_move rfl rfl) ?_
    refine r_guard rfl rfl rfl (ncf rfl) (fun _ => ?_)
    refine r_guard rfl rfl rfl (ncf rfl) (fun _ => ?_)
    refine r_guard rfl rfl rfl (ncf rfl) (fun _ => ?_)
    refine r_op (o_pickF rfl rfl rfl rfl) ?_
    refine r_op (o_assign rfl rfl) ?_
    refine r_end ?_
    refine t_ret Tryz.func131 (.tmp rfl .nil) rfl fun E S w u hI hd => ?_
    refine post_mk hI hd ?_ trivial rfl rfl rfl <;> clear hI hd
    all_goals (refine scB ?_; (have e := nameOk_not (by assumption); simp [relOk, e]; done))
set_option maxHeartbeats 1000000 in
set_option maxRecDepth 10000 in
theorem c_spec_AreValidRelations (l : List (List UInt8 × Int × Bool)) (hl : l.length ≤ 4611686018427387904) : Pu Tryz.prog 76 [.c (.t none (.sl 3 (enS3 encS encI encB) (l)))] [] 0 (.c (.t none (.v (.bool (relsOk l))))) := by
  refine pu_enter Tryz.func76 rfl (Nat.le_of_ble_eq_true rfl) fun w S => ?_
  refine t_seq ?_
  refine t_region ?_
  refine r_op (o_assign rfl rfl) ?_
  refine r_end ?_
  refine t_seq ?_
  refine t_seq ?_
  refine t_region ?_
  refine r_op (o_assign rfl rfl) ?_
  refine r_end ?_
  refine t_block ?_
  refine t_loopL (fun m => ⟨[(0, some (.c (.t none (.sl 3 (enS3 encS encI encB) (l))))), (3, some (.c (.t none (.v (.int .i64 ((m : Int)))))))], [], 0⟩ : Nat → St) (fun m => m ≤ l.length ∧ ∀ j, j < m → relStep l j = true) (fun m => l.length - m) 0 ⟨⟨rfl, ⟨rfl, trivial⟩⟩, trivial, rfl⟩ (by exact ⟨Nat.zero_le _, fun j h => by omega⟩) ?_
  rintro m hI ih0
  try dsimp only at hI ih0
  obtain ⟨i1, i2⟩ := hI
  refine t_seq ?_
  refine t_seq ?_
  refine t_region ?_
  refine r_op (o_move rfl rfl) ?_
  refine r_op (o_move rfl rfl) ?_
  refine r_op (o_len rfl rfl rfl) ?_
  refine r_op (o_bin rfl rfl rfl rfl) ?_
  refine r_end ?_
  refine t_cond rfl (fun h1 => ?_) (fun h1 => ?_)
  ·
    have h1' := of_decide_eq_true h1
    refine t_skip ?_
    refine t_seq ?_
    refine t_block ?_
    refine t_seq ?_
    refine t_draw (fun _ => true) (by kernel_rfl) ?_
    refine d_take 0 rfl rfl (by kernel_rfl) (by kernel_rfl) (by kernel_rfl) (p_move rfl) ?_
    refine d_take 1 rfl rfl (by kernel_rfl) (by kernel_rfl) (by kernel_rfl) (p_move rfl) ?_
    obtain ⟨z2, hz3, b4⟩ := at_get (xs := l) (n := (m : Int)) (by omega) (by omega)
    refine d_take 2 rfl rfl (by kernel_rfl) (by kernel_rfl) (by kernel_rfl) (p_index (by kernel_rfl) rfl rfl b4 hz3) ?_
    refine d_take 3 rfl rfl (by kernel_rfl) (by kernel_rfl) (by kernel_rfl) (p_loadA (n := 3) (by kernel_rfl) (by kernel_rfl) rfl rfl) ?_
    refine d_only 4 rfl (by kernel_rfl) rfl (o_call 0 0 false (Go.Proofs.enters_of Tryz.func131 (by kernel_rfl) rfl) (c_spec_IsValidRelation (z2.1) (z2.2.1) (z2.2.2)) rfl (.cons rfl (.agg (.cons .t0 (.cons .t0 (.cons .t0 .nil)))) .nil) rfl rfl rfl) ?_
    refine d_take 5 rfl rfl (by kernel_rfl) (by kernel_rfl) (by kernel_rfl) (p_not rfl) ?_
    refine d_take 6 rfl rfl (by kernel_rfl) (by kernel_rfl) (by kernel_rfl) (p_move rfl) ?_
    refine d_guard 7 rfl rfl (by kernel_rfl) (by kernel_rfl) (by kernel_rfl) rfl rfl (fun _ => p_move rfl) (fun g5 => ?_) (fun g5 => ?_)
    ·
      have g5' := (bnf g5)
      refine d_guard 8 rfl rfl (by kernel_rfl) (by kernel_rfl) (by kernel_rfl) rfl rfl (fun _ => p_bin rfl rfl rfl) (fun _ => ?_) (ncf g5)
      refine d_guard 9 rfl rfl (by kernel_rfl) (by kernel_rfl) (by kernel_rfl) rfl rfl (fun _ => p_move rfl) (fun _ => ?_) (ncf g5)
      refine d_guard 10 rfl rfl (by kernel_rfl) (by kernel_rfl) (by kernel_rfl) rfl rfl (fun _ => p_move rfl) (fun g6 => ?_) (fun g6 => ?_)
      ·
        have g6' := of_decide_eq_true g6
        refine d_guard 11 rfl rfl (by kernel_rfl) (by kernel_rfl) (by kernel_rfl) rfl rfl (fun _ => p_move rfl) (fun _ => ?_) (nc g6)
        refine d_guard 12 rfl rfl (by kernel_rfl) (by kernel_rfl) (by kernel_rfl) rfl rfl (fun _ => p_bin rfl rfl rfl) (fun _ => ?_) (nc g6)
        obtain ⟨z7, hz8, b9⟩ := at_get (xs := l) (n := IntKind.i64.wrap ((m : Int) - 1)) (by (simp only [IntKind.wrap_i64]; omega)) (by (simp only [IntKind.wrap_i64]; omega))
        refine d_guard 13 rfl rfl (by kernel_rfl) (by kernel_rfl) (by kernel_rfl) rfl rfl (fun _ => p_index (by kernel_rfl) rfl rfl b9 hz8) (fun _ => ?_) (nc g6)
        refine d_guard 14 rfl rfl (by kernel_rfl) (by kernel_rfl) (by kernel_rfl) rfl rfl (fun _ => p_field (off := 0) (by kernel_rfl) rfl) (fun _ => ?_) (nc g6)
        refine d_guard 15 rfl rfl (by kernel_rfl) (by kernel_rfl) (by kernel_rfl) rfl rfl (fun _ => p_load1 (by kernel_rfl) rfl rfl) (fun _ => ?_) (nc g6)
        refine d_guard 16 rfl rfl (by kernel_rfl) (by kernel_rfl) (by kernel_rfl) rfl rfl (fun _ => p_move rfl) (fun _ => ?_) (nc g6)
        refine d_guard 17 rfl rfl (by kernel_rfl) (by kernel_rfl) (by kernel_rfl) rfl rfl (fun _ => p_move rfl) (fun _ => ?_) (nc g6)
        refine d_guard 18 rfl rfl (by kernel_rfl) (by kernel_rfl) (by kernel_rfl) rfl rfl (fun _ => p_index (by kernel_rfl) rfl rfl b4 hz3) (fun _ => ?_) (nc g6)
        refine d_guard 19 rfl rfl (by kernel_rfl) (by kernel_rfl) (by kernel_rfl) rfl rfl (fun _ => p_field (off := 0) (by kernel_rfl) rfl) (fun _ => ?_) (nc g6)
        refine d_guard 20 rfl rfl (by kernel_rfl) (by kernel_rfl) (by kernel_rfl) rfl rfl (fun _ => p_load1 (by kernel_rfl) rfl rfl) (fun _ => ?_) (nc g6)
        refine d_guard 21 rfl rfl (by kernel_rfl) (by kernel_rfl) (by kernel_rfl) rfl rfl (fun _ => p_str rfl rfl rfl) (fun _ => ?_) (nc g6)
        refine d_guard 22 rfl rfl (by kernel_rfl) (by kernel_rfl) (by kernel_rfl) rfl rfl (fun _ => p_pickT rfl g6 rfl) (fun _ => ?_) (ncf g5)
        refine d_take 23 rfl rfl (by kernel_rfl) (by kernel_rfl) (by kernel_rfl) (p_pickF rfl g5 rfl) ?_
        refine d_end (by kernel_rfl) ?_
        refine t_cond rfl (fun h10 => ?_) (fun h10 => ?_)
        ·
          have h10' := (bnt h10)
          refine t_seq ?_
          refine t_region ?_
          refine r_op (o_assign rfl rfl) ?_
          refine r_end ?_
          refine t_ret Tryz.func76 (.tmp rfl .nil) rfl fun E S w u hI hd => ?_
          refine post_mk hI hd ?_ trivial rfl rfl rfl <;> clear hI hd <;> (try clear ih0)
          all_goals (rw [relsOk_not (m := m) (by omega) (relStep_pos (n := (IntKind.i64.wrap ((m : Int) - 1)).toNat) (by assumption) (by assumption) (by omega) (by simp only [IntKind.wrap_i64]; omega) (by assumption) (by assumption))])
        ·
          have h10' := (bnf h10)
          refine t_skip ?_
          refine t_endblock ?_
          refine t_region ?_
          refine r_op (o_move rfl rfl) ?_
          refine r_op (o_bin rfl rfl rfl rfl) ?_
          refine r_op (o_assign rfl rfl) ?_
          refine r_end ?_
          refine t_le ?_ (ih0 (m + 1) (by (try dsimp only); omega) (by (try dsimp only); exact ⟨by omega, step_all i2 (relStep_pos (n := (IntKind.i64.wrap ((m : Int) - 1)).toNat) (by assumption) (by assumption) (by omega) (by simp only [IntKind.wrap_i64]; omega) (by assumption) (by assumption))⟩))
          exact ⟨⟨rfl, ⟨(eqI (wr64 (by omega) (by omega))), trivial⟩⟩, trivial, rfl⟩
      ·
        have g6' := of_decide_eq_false g6
        refine d_guard 11 rfl rfl (by kernel_rfl) (by kernel_rfl) (by kernel_rfl) rfl rfl (v := .c .top) (ncf g6) (ncf g6) (fun _ => ?_)
        refine d_guard 12 rfl rfl (by kernel_rfl) (by kernel_rfl) (by kernel_rfl) rfl rfl (v := .c .top) (ncf g6) (ncf g6) (fun _ => ?_)
        refine d_guard 13 rfl rfl (by kernel_rfl) (by kernel_rfl) (by kernel_rfl) rfl rfl (v := .c .top) (ncf g6) (ncf g6) (fun _ => ?_)
        refine d_guard 14 rfl rfl (by kernel_rfl) (by kernel_rfl) (by kernel_rfl) rfl rfl (v := .c .top) (ncf g6) (ncf g6) (fun _ => ?_)
        refine d_guard 15 rfl rfl (by kernel_rfl) (by kernel_rfl) (by kernel_rfl) rfl rfl (v := .c .top) (ncf g6) (ncf g6) (fun _ => ?_)
        refine d_guard 16 rfl rfl (by kernel_rfl) (by kernel_rfl) (by kernel_rfl) rfl rfl (v := .c .top) (ncf g6) (ncf g6) (fun _ => ?_)
        refine d_guard 17 rfl rfl (by kernel_rfl) (by kernel_rfl) (by kernel_rfl) rfl rfl (v := .c .top) (ncf g6) (ncf g6) (fun _ => ?_)
        refine d_guard 18 rfl rfl (by kernel_rfl) (by kernel_rfl) (by kernel_rfl) rfl rfl (v := .c .top) (ncf g6) (ncf g6) (fun _ => ?_)
        refine d_guard 19 rfl rfl (by kernel_rfl) (by kernel_rfl) (by kernel_rfl) rfl rfl (v := .c .top) (ncf g6) (ncf g6) (fun _ => ?_)
        refine d_guard 20 rfl rfl (by kernel_rfl) (by kernel_rfl) (by kernel_rfl) rfl rfl (v := .c .top) (ncf g6) (ncf g6) (fun _ => ?_)
        refine d_guard 21 rfl rfl (by kernel_rfl) (by kernel_rfl) (by kernel_rfl) rfl rfl (v := .c .top) (ncf g6) (ncf g6) (fun _ => ?_)
        refine d_guard 22 rfl rfl (by kernel_rfl) (by kernel_rfl) (by kernel_rfl) rfl rfl (fun _ => p_pickF rfl g6 rfl) (fun _ => ?_) (ncf g5)
        refine d_take 23 rfl rfl (by kernel_rfl) (by kernel_rfl) (by kernel_rfl) (p_pickF rfl g5 rfl) ?_
        refine d_end (by kernel_rfl) ?_
        refine t_cond rfl (ncf rfl) (fun _ => ?_)
        refine t_skip ?_
        refine t_endblock ?_
        refine t_region ?_
        refine r_op (o_move rfl rfl) ?_
        refine r_op (o_bin rfl rfl rfl rfl) ?_
        refine r_op (o_assign rfl rfl) ?_
        refine r_end ?_
        refine t_le ?_ (ih0 (m + 1) (by (try dsimp only); omega) (by (try dsimp only); exact ⟨by omega, step_all i2 (relStep_zero (by assumption) (by assumption) (by omega))⟩))
        exact ⟨⟨rfl, ⟨(eqI (wr64 (by omega) (by omega))), trivial⟩⟩, trivial, rfl⟩
    ·
      have g5' := (bnt g5)
      refine d_guard 8 rfl rfl (by kernel_rfl) (by kernel_rfl) (by kernel_rfl) rfl rfl (v := .c .top) (nc g5) (nc g5) (fun _ => ?_)
      refine d_guard 9 rfl rfl (by kernel_rfl) (by kernel_rfl) (by kernel_rfl) rfl rfl (v := .c .top) (nc g5) (nc g5) (fun _ => ?_)
      refine d_skip 10 rfl rfl (by kernel_rfl) (by kernel_rfl) (by kernel_rfl) rfl rfl ?_
      refine d_skip 11 rfl rfl (by kernel_rfl) (by kernel_rfl) (by kernel_rfl) rfl rfl ?_
      refine d_skip 12 rfl rfl (by kernel_rfl) (by kernel_rfl) (by kernel_rfl) rfl rfl ?_
      refine d_skip 13 rfl rfl (by kernel_rfl) (by kernel_rfl) (by kernel_rfl) rfl rfl ?_
      refine d_skip 14 rfl rfl (by kernel_rfl) (by kernel_rfl) (by kernel_rfl) rfl rfl ?_
      refine d_skip 15 rfl rfl (by kernel_rfl) (by kernel_rfl) (by kernel_rfl) rfl rfl ?_
      refine d_skip 16 rfl rfl (by kernel_rfl) (by kernel_rfl) (by kernel_rfl) rfl rfl ?_
      refine d_skip 17 rfl rfl (by kernel_rfl) (by kernel_rfl) (by kernel_rfl) rfl rfl ?_
      refine d_skip 18 rfl rfl (by kernel_rfl) (by kernel_rfl) (by kernel_rfl) rfl rfl ?_
      refine d_skip 19 rfl rfl (by kernel_rfl) (by kernel_rfl) (by kernel_rfl) rfl rfl ?_
      refine d_skip 20 rfl rfl (by kernel_rfl) (by kernel_rfl) (by kernel_rfl) rfl rfl ?_
      refine d_skip 21 rfl rfl (by kernel_rfl) (by kernel_rfl) (by kernel_rfl) rfl rfl ?_
      refine d_guard 22 rfl rfl (by kernel_rfl) (by kernel_rfl) (by kernel_rfl) rfl rfl (v := .c .top) (nc g5) (nc g5) (fun _ => ?_)
      refine d_take 23 rfl rfl (by kernel_rfl) (by kernel_rfl) (by kernel_rfl) (p_pickT rfl g5 rfl) ?_
      refine d_end (by kernel_rfl) ?_
      refine t_cond rfl (fun _ => ?_) (nc rfl)
      refine t_seq ?_
      refine t_region ?_
      refine r_op (o_assign rfl rfl) ?_
      refine r_end ?_
      refine t_ret Tryz.func76 (.tmp rfl .nil) rfl fun E S w u hI hd => ?_
      refine post_mk hI hd ?_ trivial rfl rfl rfl <;> clear hI hd <;> (try clear ih0)
      all_goals (rw [relsOk_not (m := m) (by omega) (relStep_bad (by assumption) (by assumption))])
  ·
    have h1' := of_decide_eq_false h1
    refine t_exit rfl ?_
    refine t_seq ?_
    refine t_region ?_
    refine r_op (o_move rfl rfl) ?_
    refine r_op (o_len rfl rfl rfl) ?_
    refine r_op (o_bin rfl rfl rfl rfl) ?_
    refine r_op (o_assign rfl rfl) ?_
    refine r_end ?_
    refine t_ret Tryz.func76 (.tmp rfl .nil) rfl fun E S w u hI hd => ?_
    refine post_mk hI hd ?_ trivial rfl rfl rfl <;> clear hI hd <;> (try clear ih0)
    all_goals (rw [relsOk_end (m := m) i2 (by omega)]; exact scD (by omega))
set_option maxHeartbeats 1000000 in
set_option maxRecDepth 10000 in
theorem c_spec_IsValidAtom (rs : List (List UInt8 × Int × Bool)) (r : Int) (ts : List Int) (hrs : rs.length ≤ 4611686018427387904) (hts : ts.length ≤ 4611686018427387904) : Pu Tryz.prog 115 [.c (.t none (.sl 3 (enS3 encS encI encB) (rs))), .agg [.t none (.v (.int .i64 (r))), .t none (.sl 1 encI (ts))]] [] 0 (.c (.t none (.v (.bool (atomOk rs r ts))))) := by
  refine pu_enter Tryz.func115 rfl (Nat.le_of_ble_eq_true rfl) fun w S => ?_
  refine t_seq ?_
  refine t_region ?_
  refine r_op (o_box 0 rfl rfl rfl rfl) ?_
  refine r_op (o_assign rfl rfl) ?_
  refine r_end ?_
  refine t_seq ?_
  refine t_seq ?_
  refine t_draw (fun _ => true) (by kernel_rfl) ?_
  refine d_take 0 rfl rfl (by kernel_rfl) (by kernel_rfl) (by kernel_rfl) (p_move rfl) ?_
  refine d_only 1 rfl (by kernel_rfl) rfl (o_call 1 1 false (Go.Proofs.enters_of Tryz.func76 (by kernel_rfl) rfl) (c_spec_AreValidRelations (rs) (by omega)) rfl (.cons rfl (.c .t0) .nil) rfl rfl rfl) ?_
  refine d_take 2 rfl rfl (by kernel_rfl) (by kernel_rfl) (by kernel_rfl) (p_not rfl) ?_
  refine d_take 3 rfl rfl (by kernel_rfl) (by kernel_rfl) (by kernel_rfl) (p_move rfl) ?_
  refine d_guard 4 rfl rfl (by kernel_rfl) (by kernel_rfl) (by kernel_rfl) rfl rfl (fun _ => p_fieldb (off := 0) (by kernel_rfl) rfl) (fun g1 => ?_) (fun g1 => ?_)
  ·
    have g1' := (bnf g1)
    refine d_guard 5 rfl rfl (by kernel_rfl) (by kernel_rfl) (by kernel_rfl) rfl rfl (fun _ => p_load1b (by kernel_rfl) rfl rfl rfl) (fun _ => ?_) (ncf g1)
    refine d_guard 6 rfl rfl (by kernel_rfl) (by kernel_rfl) (by kernel_rfl) rfl rfl (fun _ => p_move rfl) (fun _ => ?_) (ncf g1)
    refine d_guard 7 rfl rfl (by kernel_rfl) (by kernel_rfl) (by kernel_rfl) rfl rfl (fun _ => p_len rfl rfl) (fun _ => ?_) (ncf g1)
    refine d_guard 8 rfl rfl (by kernel_rfl) (by kernel_rfl) (by kernel_rfl) rfl rfl (fun _ => p_bin rfl rfl rfl) (fun _ => ?_) (ncf g1)
    refine d_onlyG 9 rfl rfl (by kernel_rfl) rfl rfl rfl (fun _ => (o_call 1 1 false (Go.Proofs.enters_of Tryz.func121 (by kernel_rfl) rfl) (c_spec_l1In (r) (0) (IntKind.i64.wrap (((rs).length : Int) - 1))) rfl (.cons rfl (.c .t0) (.cons rfl (.c .t0) (.cons rfl (.c .t0) .nil))) rfl rfl rfl)) (fun _ => ?_) (ncf g1)
    refine d_guard 10 rfl rfl (by kernel_rfl) (by kernel_rfl) (by kernel_rfl) rfl rfl (fun _ => p_not rfl) (fun _ => ?_) (ncf g1)
    refine d_take 11 rfl rfl (by kernel_rfl) (by kernel_rfl) (by kernel_rfl) (p_pickF rfl g1 rfl) ?_
    refine d_take 12 rfl rfl (by kernel_rfl) (by kernel_rfl) (by kernel_rfl) (p_move rfl) ?_
    refine d_guard 13 rfl rfl (by kernel_rfl) (by kernel_rfl) (by kernel_rfl) rfl rfl (fun _ => p_fieldb (off := 1) (by kernel_rfl) rfl) (fun g2 => ?_) (fun g2 => ?_)
    ·
      have g2' := of_decide_eq_true (bnf g2)
      refine d_guard 14 rfl rfl (by kernel_rfl) (by kernel_rfl) (by kernel_rfl) rfl rfl (fun _ => p_load1b (by kernel_rfl) rfl rfl rfl) (fun _ => ?_) (ncf g2)
      refine d_guard 15 rfl rfl (by kernel_rfl) (by kernel_rfl) (by kernel_rfl) rfl rfl (fun _ => p_len rfl rfl) (fun _ => ?_) (ncf g2)
      refine d_guard 16 rfl rfl (by kernel_rfl) (by kernel_rfl) (by kernel_rfl) rfl rfl (fun _ => p_move rfl) (fun _ => ?_) (ncf g2)
      refine d_guard 17 rfl rfl (by kernel_rfl) (by kernel_rfl) (by kernel_rfl) rfl rfl (fun _ => p_fieldb (off := 0) (by kernel_rfl) rfl) (fun _ => ?_) (ncf g2)
      refine d_guard 18 rfl rfl (by kernel_rfl) (by kernel_rfl) (by kernel_rfl) rfl rfl (fun _ => p_load1b (by kernel_rfl) rfl rfl rfl) (fun _ => ?_) (ncf g2)
      obtain ⟨z3, hz4, b5⟩ := at_get (xs := rs) (n := r) (by omega) (by (simp only [IntKind.wrap_i64] at *; omega))
      refine d_guard 19 rfl rfl (by kernel_rfl) (by kernel_rfl) (by kernel_rfl) rfl rfl (fun _ => p_index (by kernel_rfl) rfl rfl b5 hz4) (fun _ => ?_) (ncf g2)
      refine d_guard 20 rfl rfl (by kernel_rfl) (by kernel_rfl) (by kernel_rfl) rfl rfl (fun _ => p_field (off := 1) (by kernel_rfl) rfl) (fun _ => ?_) (ncf g2)
      refine d_guard 21 rfl rfl (by kernel_rfl) (by kernel_rfl) (by kernel_rfl) rfl rfl (fun _ => p_load1 (by kernel_rfl) rfl rfl) (fun _ => ?_) (ncf g2)
      refine d_guard 22 rfl rfl (by kernel_rfl) (by kernel_rfl) (by kernel_rfl) rfl rfl (fun _ => p_bin rfl rfl rfl) (fun _ => ?_) (ncf g2)
      refine d_take 23 rfl rfl (by kernel_rfl) (by kernel_rfl) (by kernel_rfl) (p_pickF rfl g2 rfl) ?_
      refine d_end (by kernel_rfl) ?_
      refine t_cond rfl (fun h6 => ?_) (fun h6 => ?_)
      ·
        have h6' := of_decide_eq_true h6
        refine t_seq ?_
        refine t_region ?_
        refine r_op (o_assign rfl rfl) ?_
        refine r_end ?_
        refine t_ret Tryz.func115 (.tmp rfl .nil) rfl fun E S w u hI hd => ?_
        refine post_mk hI hd ?_ trivial rfl rfl rfl <;> clear hI hd <;> (try clear ih0)
        all_goals (refine scB ?_; (rw [atom_no3 (by assumption) (by assumption)]; done))
      ·
        have h6' := of_decide_eq_false h6
        refine t_skip ?_
        refine t_seq ?_
        refine t_seq ?_
        refine t_region ?_
        refine r_op (o_assign rfl rfl) ?_
        refine r_end ?_
        refine t_block ?_
        refine t_loopL (fun m => ⟨[(3, some (.c (.ptr 0 0))), (5, some (.c (.t none (.v (.int .i64 ((m : Int)))))))], [(0, some (.box [.t none (.v (.int .i64 (r))), .t none (.sl 1 encI (ts))]))], 1⟩ : Nat → St) (fun m => m ≤ ts.length ∧ ∀ j z, j < m → ts[j]? = some z → (fun t => !termOk t) z = false) (fun m => ts.length - m) 0 ⟨⟨rfl, ⟨rfl, trivial⟩⟩, ⟨rfl, trivial⟩, rfl⟩ (by exact ⟨Nat.zero_le _, fun j z h => by omega⟩) ?_
        rintro m hI ih0
        try dsimp only at hI ih0
        obtain ⟨i1, i2⟩ := hI
        refine t_seq ?_
        refine t_seq ?_
        refine t_region ?_
        refine r_op (o_move rfl rfl) ?_
        refine r_op (o_fieldb rfl (off := 1) (by kernel_rfl) rfl) ?_
        refine r_op (o_load1b rfl (by kernel_rfl) rfl rfl rfl) ?_
        refine r_op (o_len rfl rfl rfl) ?_
        refine r_op (o_bin rfl rfl rfl rfl) ?_
        refine r_end ?_
        refine t_cond rfl (fun h7 => ?_) (fun h7 => ?_)
        ·
          have h7' := of_decide_eq_true h7
          refine t_skip ?_
          refine t_seq ?_
          refine t_block ?_
          refine t_seq ?_
          refine t_region ?_
          refine r_op (o_fieldb rfl (off := 1) (by kernel_rfl) rfl) ?_
          refine r_op (o_load1b rfl (by kernel_rfl) rfl rfl rfl) ?_
          refine r_op (o_move rfl rfl) ?_
          obtain ⟨z8, hz9, b10⟩ := at_get (xs := ts) (n := (m : Int)) (by omega) (by omega)
          refine r_op (o_index rfl (by kernel_rfl) rfl rfl b10 hz9) ?_
          refine r_op (o_load1 rfl (by kernel_rfl) rfl rfl) ?_
          refine r_op (o_call 1 1 false (Go.Proofs.enters_of Tryz.func121 (by kernel_rfl) rfl) (c_spec_l1In (z8) (-10) (4)) rfl (.cons rfl (.c .t0) (.cons rfl (.c .t0) (.cons rfl (.c .t0) .nil))) rfl rfl rfl) ?_
          refine r_op (o_not rfl rfl) ?_
          refine r_end ?_
          refine t_cond rfl (fun h11 => ?_) (fun h11 => ?_)
          ·
            have h11' := of_decide_eq_false (bnt h11)
            refine t_seq ?_
            refine t_region ?_
            refine r_op (o_assign rfl rfl) ?_
            refine r_end ?_
            refine t_ret Tryz.func115 (.tmp rfl .nil) rfl fun E S w u hI hd => ?_
            refine post_mk hI hd ?_ trivial rfl rfl rfl <;> clear hI hd <;> (try clear ih0)
            all_goals (refine scB ?_; (rw [atom_yes (by assumption) (by simp only [IntKind.wrap_i64] at *; omega) (by assumption) (by omega), any_true (p := fun t => !termOk t) (by assumption) (by simp only [termOk, Bool.not_eq_true']; exact decide_eq_false (by assumption))]; rfl))
          ·
            have h11' := of_decide_eq_true (bnf h11)
            refine t_skip ?_
            refine t_endblock ?_
            refine t_region ?_
            refine r_op (o_move rfl rfl) ?_
            refine r_op (o_bin rfl rfl rfl rfl) ?_
            refine r_op (o_assign rfl rfl) ?_
            refine r_end ?_
            refine t_le ?_ (ih0 (m + 1) (by (try dsimp only); omega) (by (try dsimp only); exact ⟨by omega, no_step i2 (by assumption) rfl (by simp only [termOk, Bool.not_eq_false']; exact decide_eq_true (by assumption))⟩))
            exact ⟨⟨rfl, ⟨(eqI (wr64 (by omega) (by omega))), trivial⟩⟩, ⟨rfl, trivial⟩, rfl⟩
        ·
          have h7' := of_decide_eq_false h7
          refine t_exit rfl ?_
          refine t_seq ?_
          refine t_region ?_
          refine r_op (o_assign rfl rfl) ?_
          refine r_end ?_
          refine t_ret Tryz.func115 (.tmp rfl .nil) rfl fun E S w u hI hd => ?_
          refine post_mk hI hd ?_ trivial rfl rfl rfl <;> clear hI hd <;> (try clear ih0)
          all_goals (refine scB ?_; (rw [atom_yes (by assumption) (by simp only [IntKind.wrap_i64] at *; omega) (by assumption) (by omega), any_false (p := fun t => !termOk t) i2 (by omega)]; rfl))
    ·
      have g2' := of_decide_eq_false (bnt g2)
      refine d_guard 14 rfl rfl (by kernel_rfl) (by kernel_rfl) (by kernel_rfl) rfl rfl (v := .c .top) (nc g2) (nc g2) (fun _ => ?_)
      refine d_guard 15 rfl rfl (by kernel_rfl) (by kernel_rfl) (by kernel_rfl) rfl rfl (v := .c .top) (nc g2) (nc g2) (fun _ => ?_)
      refine d_guard 16 rfl rfl (by kernel_rfl) (by kernel_rfl) (by kernel_rfl) rfl rfl (v := .c .top) (nc g2) (nc g2) (fun _ => ?_)
      refine d_guard 17 rfl rfl (by kernel_rfl) (by kernel_rfl) (by kernel_rfl) rfl rfl (v := .c .top) (nc g2) (nc g2) (fun _ => ?_)
      refine d_guard 18 rfl rfl (by kernel_rfl) (by kernel_rfl) (by kernel_rfl) rfl rfl (v := .c .top) (nc g2) (nc g2) (fun _ => ?_)
      refine d_guard 19 rfl rfl (by kernel_rfl) (by kernel_rfl) (by kernel_rfl) rfl rfl (v := .c .top) (nc g2) (nc g2) (fun _ => ?_)
      refine d_guard 20 rfl rfl (by kernel_rfl) (by kernel_rfl) (by kernel_rfl) rfl rfl (v := .c .top) (nc g2) (nc g2) (fun _ => ?_)
      refine d_guard 21 rfl rfl (by kernel_rfl) (by kernel_rfl) (by kernel_rfl) rfl rfl (v := .c .top) (nc g2) (nc g2) (fun _ => ?_)
      refine d_guard 22 rfl rfl (by kernel_rfl) (by kernel_rfl) (by kernel_rfl) rfl rfl (v := .c .top) (nc g2) (nc g2) (fun _ => ?_)
      refine d_take 23 rfl rfl (by kernel_rfl) (by kernel_rfl) (by kernel_rfl) (p_pickT rfl g2 rfl) ?_
      refine d_end (by kernel_rfl) ?_
      refine t_cond rfl (fun _ => ?_) (nc rfl)
      refine t_seq ?_
      refine t_region ?_
      refine r_op (o_assign rfl rfl) ?_
      refine r_end ?_
      refine t_ret Tryz.func115 (.tmp rfl .nil) rfl fun E S w u hI hd => ?_
      refine post_mk hI hd ?_ trivial rfl rfl rfl <;> clear hI hd <;> (try clear ih0)
      all_goals (refine scB ?_; (rw [atom_no2 (by simp only [IntKind.wrap_i64] at *; omega)]; done))
  ·
    have g1' := (bnt g1)
    refine d_guard 5 rfl rfl (by kernel_rfl) (by kernel_rfl) (by kernel_rfl) rfl rfl (v := .c .top) (nc g1) (nc g1) (fun _ => ?_)
    refine d_guard 6 rfl rfl (by kernel_rfl) (by kernel_rfl) (by kernel_rfl) rfl rfl (v := .c .top) (nc g1) (nc g1) (fun _ => ?_)
    refine d_guard 7 rfl rfl (by kernel_rfl) (by kernel_rfl) (by kernel_rfl) rfl rfl (v := .c .top) (nc g1) (nc g1) (fun _ => ?_)
    refine d_guard 8 rfl rfl (by kernel_rfl) (by kernel_rfl) (by kernel_rfl) rfl rfl (v := .c .top) (nc g1) (nc g1) (fun _ => ?_)
    refine d_guard 9 rfl rfl (by kernel_rfl) (by kernel_rfl) (by kernel_rfl) rfl rfl (v := .c .top) (nc g1) (nc g1) (fun _ => ?_)
    refine d_guard 10 rfl rfl (by kernel_rfl) (by kernel_rfl) (by kernel_rfl) rfl rfl (v := .c .top) (nc g1) (nc g1) (fun _ => ?_)
    refine d_take 11 rfl rfl (by kernel_rfl) (by kernel_rfl) (by kernel_rfl) (p_pickT rfl g1 rfl) ?_
    refine d_take 12 rfl rfl (by kernel_rfl) (by kernel_rfl) (by kernel_rfl) (p_move rfl) ?_
    refine d_guard 13 rfl rfl (by kernel_rfl) (by kernel_rfl) (by kernel_rfl) rfl rfl (v := .c .top) (nc rfl) (nc rfl) (fun _ => ?_)
    refine d_guard 14 rfl rfl (by kernel_rfl) (by kernel_rfl) (by kernel_rfl) rfl rfl (v := .c .top) (nc rfl) (nc rfl) (fun _ => ?_)
    refine d_guard 15 rfl rfl (by kernel_rfl) (by kernel_rfl) (by kernel_rfl) rfl rfl (v := .c .top) (nc rfl) (nc rfl) (fun _ => ?_)
    refine d_guard 16 rfl rfl (by kernel_rfl) (by kernel_rfl) (by kernel_rfl) rfl rfl (v := .c .top) (nc rfl) (nc rfl) (fun _ => ?_)
    refine d_guard 17 rfl rfl (by kernel_rfl) (by kernel_rfl) (by kernel_rfl) rfl rfl (v := .c .top) (nc rfl) (nc rfl) (fun _ => ?_)
    refine d_guard 18 rfl rfl (by kernel_rfl) (by kernel_rfl) (by kernel_rfl) rfl rfl (v := .c .top) (nc rfl) (nc rfl) (fun _ => ?_)
    refine d_guard 19 rfl rfl (by kernel_rfl) (by kernel_rfl) (by kernel_rfl) rfl rfl (v := .c .top) (nc rfl) (nc rfl) (fun _ => ?_)
    refine d_guard 20 rfl rfl (by kernel_rfl) (by kernel_rfl) (by kernel_rfl) rfl rfl (v := .c .top) (nc rfl) (nc rfl) (fun _ => ?_)
    refine d_guard 21 rfl rfl (by kernel_rfl) (by kernel_rfl) (by kernel_rfl) rfl rfl (v := .c .top) (nc rfl) (nc rfl) (fun _ => ?_)
    refine d_guard 22 rfl rfl (by kernel_rfl) (by kernel_rfl) (by kernel_rfl) rfl rfl (v := .c .top) (nc rfl) (nc rfl) (fun _ => ?_)
    refine d_take 23 rfl rfl (by kernel_rfl) (by kernel_rfl) (by kernel_rfl) (p_pickT rfl rfl rfl) ?_
    refine d_end (by kernel_rfl) ?_
    refine t_cond rfl (fun _ => ?_) (nc rfl)
    refine t_seq ?_
    refine t_region ?_
    refine r_op (o_assign rfl rfl) ?_
    refine r_end ?_
    refine t_ret Tryz.func115 (.tmp rfl .nil) rfl fun E S w u hI hd => ?_
    refine post_mk hI hd ?_ trivial rfl rfl rfl <;> clear hI hd <;> (try clear ih0)
    all_goals (refine scB ?_; (rw [atom_no1 (by assumption)]; done))
set_option maxHeartbeats 1000000 in
set_option maxRecDepth 10000 in
theorem c_spec_NullNumber (v : Int) (hv : -9223372036854775808 ≤ v) (hv2 : v ≤ 9223372036854775807) : Pu Tryz.prog 88 [.c (.t none (.v (.int .i64 (v))))] [] 0 (.tup [(false, [.t none (.v (.int .i64 (if -40 ≤ v ∧ v ≤ -1 then -1 - v else 0)))]), (false, [.t none (.v (.bool (decide (-40 ≤ v ∧ v ≤ -1))))])]) := by
  refine pu_enter Tryz.func88 rfl (Nat.le_of_ble_eq_true rfl) fun w S => ?_
  refine t_seq ?_
  refine t_region ?_
  refine r_op (o_assign rfl rfl) ?_
  refine r_op (o_assign rfl rfl) ?_
  refine r_end ?_
  refine t_seq ?_
  refine t_seq ?_
  refine t_region ?_
  refine r_op (o_move rfl rfl) ?_
  refine r_op (o_bin rfl rfl rfl rfl) ?_
  refine r_op (o_move rfl rfl) ?_
  refine r_guard rfl rfl rfl (fun g1 => ?_) (fun g1 => ?_)
  ·
    have g1' := of_decide_eq_false g1
    refine r_op (o_move rfl rfl) ?_
    refine r_guard rfl rfl rfl (fun _ => ?_) (ncf g1)
    refine r_op (o_bin rfl rfl rfl rfl) ?_
    refine r_guard rfl rfl rfl (fun _ => ?_) (ncf g1)
    refine r_op (o_call 0 0 false (Go.Proofs.enters_of Tryz.func121 (by kernel_rfl) rfl) (c_spec_l1In (IntKind.i64.wrap ((-1) - v)) (0) (39)) rfl (.cons rfl (.c .t0) (.cons rfl (.c .t0) (.cons rfl (.c .t0) .nil))) rfl rfl rfl) ?_
    refine r_guard rfl rfl rfl (fun _ => ?_) (ncf g1)
    refine r_op (o_not rfl rfl) ?_
    refine r_op (o_pickF rfl rfl g1 rfl) ?_
    refine r_end ?_
    refine t_cond rfl (fun h2 => ?_) (fun h2 => ?_)
    ·
      have h2' := of_decide_eq_false (bnt h2)
      refine t_seq ?_
      refine t_region ?_
      refine r_op (o_assign rfl rfl) ?_
      refine r_op (o_assign rfl rfl) ?_
      refine r_end ?_
      refine t_ret Tryz.func88 (.tmp rfl (.tmp rfl .nil)) rfl fun E S w u hI hd => ?_
      refine post_mk hI hd ?_ trivial rfl rfl rfl <;> clear hI hd
      all_goals (((have hn : ¬(-40 ≤ v ∧ v ≤ -1) := by (simp only [IntKind.wrap_i64] at *; omega)); (simp [hn]; done)))
    ·
      have h2' := of_decide_eq_true (bnf h2)
      refine t_skip ?_
      refine t_seq ?_
      refine t_region ?_
      refine r_op (o_move rfl rfl) ?_
      refine r_op (o_bin rfl rfl rfl rfl) ?_
      refine r_op (o_assign rfl rfl) ?_
      refine r_op (o_assign rfl rfl) ?_
      refine r_end ?_
      refine t_ret Tryz.func88 (.tmp rfl (.tmp rfl .nil)) rfl fun E S w u hI hd => ?_
      refine post_mk hI hd ?_ trivial rfl rfl rfl <;> clear hI hd
      all_goals (((have hn : (-40 ≤ v ∧ v ≤ -1) := by (simp only [IntKind.wrap_i64] at *; omega)); (have e : IntKind.i64.wrap (-1 - v) = -1 - v := wr64 (by omega) (by omega)); (simp [hn, e]; done)))
  ·
    have g1' := of_decide_eq_true g1
    refine r_guard rfl rfl rfl (nc g1) (fun _ => ?_)
    refine r_guard rfl rfl rfl (nc g1) (fun _ => ?_)
    refine r_guard rfl rfl rfl (nc g1) (fun _ => ?_)
    refine r_op (o_pickT rfl rfl g1 rfl) ?_
    refine r_end ?_
    refine t_cond rfl (fun _ => ?_) (nc rfl)
    refine t_seq ?_
    refine t_region ?_
    refine r_op (o_assign rfl rfl) ?_
    refine r_op (o_assign rfl rfl) ?_
    refine r_end ?_
    refine t_ret Tryz.func88 (.tmp rfl (.tmp rfl .nil)) rfl fun E S w u hI hd => ?_
    refine post_mk hI hd ?_ trivial rfl rfl rfl <;> clear hI hd
    all_goals (((have hn : ¬(-40 ≤ v ∧ v ≤ -1) := by (simp only [IntKind.wrap_i64] at *; omega)); (simp [hn]; done)))
set_option maxHeartbeats 1000000 in
set_option maxRecDepth 10000 in
theorem c_spec_IsValidValue (v : Int) (hv : -9223372036854775808 ≤ v) (hv2 : v ≤ 9223372036854775807) : Pu Tryz.prog 62 [.c (.t none (.v (.int .i64 (v))))] [] 0 (.c (.t none (.v (.bool (decide (-40 ≤ v ∧ v ≤ 9)))))) := by
  refine pu_enter Tryz.func62 rfl (Nat.le_of_ble_eq_true rfl) fun w S => ?_
  refine t_seq ?_
  refine t_region ?_
  refine r_op (o_assign rfl rfl) ?_
  refine r_end ?_
  refine t_seq ?_
  refine t_region ?_
  refine r_op (o_move rfl rfl) ?_
  refine r_op (o_call 0 0 false (Go.Proofs.enters_of Tryz.func88 (by kernel_rfl) rfl) (c_spec_NullNumber (v) (by omega) (by omega)) rfl (.cons rfl (.c .t0) .nil) rfl rfl rfl) ?_
  refine r_op (o_move rfl rfl) ?_
  refine r_op (o_extract rfl rfl rfl rfl) ?_
  refine r_op (o_extract rfl rfl rfl rfl) ?_
  refine r_op (o_assign rfl rfl) ?_
  refine r_op (o_assign rfl rfl) ?_
  refine r_end ?_
  refine t_seq ?_
  refine t_region ?_
  refine r_op (o_move rfl rfl) ?_
  refine r_op (o_move rfl rfl) ?_
  refine r_guard rfl rfl rfl (fun g1 => ?_) (fun g1 => ?_)
  ·
    have g1' := of_decide_eq_false g1
    refine r_op (o_move rfl rfl) ?_
    refine r_guard rfl rfl rfl (fun _ => ?_) (ncf g1)
    refine r_op (o_call 0 0 false (Go.Proofs.enters_of Tryz.func121 (by kernel_rfl) rfl) (c_spec_l1In (v) (0) (9)) rfl (.cons rfl (.c .t0) (.cons rfl (.c .t0) (.cons rfl (.c .t0) .nil))) rfl rfl rfl) ?_
    refine r_op (o_pickF rfl rfl g1 rfl) ?_
    refine r_op (o_assign rfl rfl) ?_
    refine r_end ?_
    refine t_ret Tryz.func62 (.tmp rfl .nil) rfl fun E S w u hI hd => ?_
    refine post_mk hI hd ?_ trivial rfl rfl rfl <;> clear hI hd
    all_goals ((exact scD (by omega)))
  ·
    have g1' := of_decide_eq_true g1
    refine r_guard rfl rfl rfl (nc g1) (fun _ => ?_)
    refine r_op (o_pickT rfl rfl g1 rfl) ?_
    refine r_op (o_assign rfl rfl) ?_
    refine r_end ?_
    refine t_ret Tryz.func62 (.tmp rfl .nil) rfl fun E S w u hI hd => ?_
    refine post_mk hI hd ?_ trivial rfl rfl rfl <;> clear hI hd
    all_goals ((exact scTrue (by omega)))
set_option maxHeartbeats 1000000 in
set_option maxRecDepth 10000 in
theorem c_spec_IsValidFact (rs : List (List UInt8 × Int × Bool)) (r : Int) (ts : List Int) (hrs : rs.length ≤ 4611686018427387904) (hts : ts.length ≤ 4611686018427387904) (ho : ∀ x ∈ ts, okI x) : Pu Tryz.prog 74 [.c (.t none (.sl 3 (enS3 encS encI encB) (rs))), .agg [.t none (.v (.int .i64 (r))), .t none (.sl 1 encI (ts))]] [] 0 (.c (.t none (.v (.bool (factOk rs r ts))))) := by
  refine pu_enter Tryz.func74 rfl (Nat.le_of_ble_eq_true rfl) fun w S => ?_
  refine t_seq ?_
  refine t_region ?_
  refine r_op (o_box 0 rfl rfl rfl rfl) ?_
  refine r_op (o_assign rfl rfl) ?_
  refine r_end ?_
  refine t_seq ?_
  refine t_seq ?_
  refine t_draw (fun _ => true) (by kernel_rfl) ?_
  refine d_take 0 rfl rfl (by kernel_rfl) (by kernel_rfl) (by kernel_rfl) (p_move rfl) ?_
  refine d_only 1 rfl (by kernel_rfl) rfl (o_call 1 1 false (Go.Proofs.enters_of Tryz.func76 (by kernel_rfl) rfl) (c_spec_AreValidRelations (rs) (by omega)) rfl (.cons rfl (.c .t0) .nil) rfl rfl rfl) ?_
  refine d_take 2 rfl rfl (by kernel_rfl) (by kernel_rfl) (by kernel_rfl) (p_not rfl) ?_
  refine d_take 3 rfl rfl (by kernel_rfl) (by kernel_rfl) (by kernel_rfl) (p_move rfl) ?_
  refine d_guard 4 rfl rfl (by kernel_rfl) (by kernel_rfl) (by kernel_rfl) rfl rfl (fun _ => p_fieldb (off := 0) (by kernel_rfl) rfl) (fun g1 => ?_) (fun g1 => ?_)
  ·
    have g1' := (bnf g1)
    refine d_guard 5 rfl rfl (by kernel_rfl) (by kernel_rfl) (by kernel_rfl) rfl rfl (fun _ => p_load1b (by kernel_rfl) rfl rfl rfl) (fun _ => ?_) (ncf g1)
    refine d_guard 6 rfl rfl (by kernel_rfl) (by kernel_rfl) (by kernel_rfl) rfl rfl (fun _ => p_move rfl) (fun _ => ?_) (ncf g1)
    refine d_guard 7 rfl rfl (by kernel_rfl) (by kernel_rfl) (by kernel_rfl) rfl rfl (fun _ => p_len rfl rfl) (fun _ => ?_) (ncf g1)
    refine d_guard 8 rfl rfl (by kernel_rfl) (by kernel_rfl) (by kernel_rfl) rfl rfl (fun _ => p_bin rfl rfl rfl) (fun _ => ?_) (ncf g1)
    refine d_onlyG 9 rfl rfl (by kernel_rfl) rfl rfl rfl (fun _ => (o_call 1 1 false (Go.Proofs.enters_of Tryz.func121 (by kernel_rfl) rfl) (c_spec_l1In (r) (0) (IntKind.i64.wrap (((rs).length : Int) - 1))) rfl (.cons rfl (.c .t0) (.cons rfl (.c .t0) (.cons rfl (.c .t0) .nil))) rfl rfl rfl)) (fun _ => ?_) (ncf g1)
    refine d_guard 10 rfl rfl (by kernel_rfl) (by kernel_rfl) (by kernel_rfl) rfl rfl (fun _ => p_not rfl) (fun _ => ?_) (ncf g1)
    refine d_take 11 rfl rfl (by kernel_rfl) (by kernel_rfl) (by kernel_rfl) (p_pickF rfl g1 rfl) ?_
    refine d_take 12 rfl rfl (by kernel_rfl) (by kernel_rfl) (by kernel_rfl) (p_move rfl) ?_
    refine d_guard 13 rfl rfl (by kernel_rfl) (by kernel_rfl) (by kernel_rfl) rfl rfl (fun _ => p_fieldb (off := 1) (by kernel_rfl) rfl) (fun g2 => ?_) (fun g2 => ?_)
    ·
      have g2' := of_decide_eq_true (bnf g2)
      refine d_guard 14 rfl rfl (by kernel_rfl) (by kernel_rfl) (by kernel_rfl) rfl rfl (fun _ => p_load1b (by kernel_rfl) rfl rfl rfl) (fun _ => ?_) (ncf g2)
      refine d_guard 15 rfl rfl (by kernel_rfl) (by kernel_rfl) (by kernel_rfl) rfl rfl (fun _ => p_len rfl rfl) (fun _ => ?_) (ncf g2)
      refine d_guard 16 rfl rfl (by kernel_rfl) (by kernel_rfl) (by kernel_rfl) rfl rfl (fun _ => p_move rfl) (fun _ => ?_) (ncf g2)
      refine d_guard 17 rfl rfl (by kernel_rfl) (by kernel_rfl) (by kernel_rfl) rfl rfl (fun _ => p_fieldb (off := 0) (by kernel_rfl) rfl) (fun _ => ?_) (ncf g2)
      refine d_guard 18 rfl rfl (by kernel_rfl) (by kernel_rfl) (by kernel_rfl) rfl rfl (fun _ => p_load1b (by kernel_rfl) rfl rfl rfl) (fun _ => ?_) (ncf g2)
      obtain ⟨z3, hz4, b5⟩ := at_get (xs := rs) (n := r) (by omega) (by (simp only [IntKind.wrap_i64] at *; omega))
      refine d_guard 19 rfl rfl (by kernel_rfl) (by kernel_rfl) (by kernel_rfl) rfl rfl (fun _ => p_index (by kernel_rfl) rfl rfl b5 hz4) (fun _ => ?_) (ncf g2)
      refine d_guard 20 rfl rfl (by kernel_rfl) (by kernel_rfl) (by kernel_rfl) rfl rfl (fun _ => p_field (off := 1) (by kernel_rfl) rfl) (fun _ => ?_) (ncf g2)
      refine d_guard 21 rfl rfl (by kernel_rfl) (by kernel_rfl) (by kernel_rfl) rfl rfl (fun _ => p_load1 (by kernel_rfl) rfl rfl) (fun _ => ?_) (ncf g2)
      refine d_guard 22 rfl rfl (by kernel_rfl) (by kernel_rfl) (by kernel_rfl) rfl rfl (fun _ => p_bin rfl rfl rfl) (fun _ => ?_) (ncf g2)
      refine d_take 23 rfl rfl (by kernel_rfl) (by kernel_rfl) (by kernel_rfl) (p_pickF rfl g2 rfl) ?_
      refine d_end (by kernel_rfl) ?_
      refine t_cond rfl (fun h6 => ?_) (fun h6 => ?_)
      ·
        have h6' := of_decide_eq_true h6
        refine t_seq ?_
        refine t_region ?_
        refine r_op (o_assign rfl rfl) ?_
        refine r_end ?_
        refine t_ret Tryz.func74 (.tmp rfl .nil) rfl fun E S w u hI hd => ?_
        refine post_mk hI hd ?_ trivial rfl rfl rfl <;> clear hI hd <;> (try clear ih0)
        all_goals (refine scB ?_; (rw [fact_no3 (by assumption) (by assumption)]; done))
      ·
        have h6' := of_decide_eq_false h6
        refine t_skip ?_
        refine t_seq ?_
        refine t_seq ?_
        refine t_region ?_
        refine r_op (o_assign rfl rfl) ?_
        refine r_end ?_
        refine t_block ?_
        refine t_loopL (fun m => ⟨[(3, some (.c (.ptr 0 0))), (5, some (.c (.t none (.v (.int .i64 ((m : Int)))))))], [(0, some (.box [.t none (.v (.int .i64 (r))), .t none (.sl 1 encI (ts))]))], 1⟩ : Nat → St) (fun m => m ≤ ts.length ∧ ∀ j z, j < m → ts[j]? = some z → (fun t => !valOk t) z = false) (fun m => ts.length - m) 0 ⟨⟨rfl, ⟨rfl, trivial⟩⟩, ⟨rfl, trivial⟩, rfl⟩ (by exact ⟨Nat.zero_le _, fun j z h => by omega⟩) ?_
        rintro m hI ih0
        try dsimp only at hI ih0
        obtain ⟨i1, i2⟩ := hI
        refine t_seq ?_
        refine t_seq ?_
        refine t_region ?_
        refine r_op (o_move rfl rfl) ?_
        refine r_op (o_fieldb rfl (off := 1) (by kernel_rfl) rfl) ?_
        refine r_op (o_load1b rfl (by kernel_rfl) rfl rfl rfl) ?_
        refine r_op (o_len rfl rfl rfl) ?_
        refine r_op (o_bin rfl rfl rfl rfl) ?_
        refine r_end ?_
        refine t_cond rfl (fun h7 => ?_) (fun h7 => ?_)
        ·
          have h7' := of_decide_eq_true h7
          refine t_skip ?_
          refine t_seq ?_
          refine t_block ?_
          refine t_seq ?_
          refine t_region ?_
          refine r_op (o_fieldb rfl (off := 1) (by kernel_rfl) rfl) ?_
          refine r_op (o_load1b rfl (by kernel_rfl) rfl rfl rfl) ?_
          refine r_op (o_move rfl rfl) ?_
          obtain ⟨z8, hz9, b10⟩ := at_get (xs := ts) (n := (m : Int)) (by omega) (by omega)
          refine r_op (o_index rfl (by kernel_rfl) rfl rfl b10 hz9) ?_
          refine r_op (o_load1 rfl (by kernel_rfl) rfl rfl) ?_
          refine r_op (o_call 1 1 false (Go.Proofs.enters_of Tryz.func62 (by kernel_rfl) rfl) (c_spec_IsValidValue (z8) (by exact (ho _ (List.mem_of_getElem? (by assumption))).1) (by exact (ho _ (List.mem_of_getElem? (by assumption))).2)) rfl (.cons rfl (.c .t0) .nil) rfl rfl rfl) ?_
          refine r_op (o_not rfl rfl) ?_
          refine r_end ?_
          refine t_cond rfl (fun h11 => ?_) (fun h11 => ?_)
          ·
            have h11' := of_decide_eq_false (bnt h11)
            refine t_seq ?_
            refine t_region ?_
            refine r_op (o_assign rfl rfl) ?_
            refine r_end ?_
            refine t_ret Tryz.func74 (.tmp rfl .nil) rfl fun E S w u hI hd => ?_
            refine post_mk hI hd ?_ trivial rfl rfl rfl <;> clear hI hd <;> (try clear ih0)
            all_goals (refine scB ?_; (rw [fact_yes (by assumption) (by simp only [IntKind.wrap_i64] at *; omega) (by assumption) (by omega), any_true (p := fun t => !valOk t) (by assumption) (by simp only [valOk, Bool.not_eq_true']; exact decide_eq_false (by assumption))]; rfl))
          ·
            have h11' := of_decide_eq_true (bnf h11)
            refine t_skip ?_
            refine t_endblock ?_
            refine t_region ?_
            refine r_op (o_move rfl rfl) ?_
            refine r_op (o_bin rfl rfl rfl rfl) ?_
            refine r_op (o_assign rfl rfl) ?_
            refine r_end ?_
            refine t_le ?_ (ih0 (m + 1) (by (try dsimp only); omega) (by (try dsimp only); exact ⟨by omega, no_step i2 (by assumption) rfl (by simp only [valOk, Bool.not_eq_false']; exact decide_eq_true (by assumption))⟩))
            exact ⟨⟨rfl, ⟨(eqI (wr64 (by omega) (by omega))), trivial⟩⟩, ⟨rfl, trivial⟩, rfl⟩
        ·
          have h7' := of_decide_eq_false h7
          refine t_exit rfl ?_
          refine t_seq ?_
          refine t_region ?_
          refine r_op (o_assign rfl rfl) ?_
          refine r_end ?_
          refine t_ret Tryz.func74 (.tmp rfl .nil) rfl fun E S w u hI hd => ?_
          refine post_mk hI hd ?_ trivial rfl rfl rfl <;> clear hI hd <;> (try clear ih0)
          all_goals (refine scB ?_; (rw [fact_yes (by assumption) (by simp only [IntKind.wrap_i64] at *; omega) (by assumption) (by omega), any_false (p := fun t => !valOk t) i2 (by omega)]; rfl))
    ·
      have g2' := of_decide_eq_false (bnt g2)
      refine d_guard 14 rfl rfl (by kernel_rfl) (by kernel_rfl) (by kernel_rfl) rfl rfl (v := .c .top) (nc g2) (nc g2) (fun _ => ?_)
      refine d_guard 15 rfl rfl (by kernel_rfl) (by kernel_rfl) (by kernel_rfl) rfl rfl (v := .c .top) (nc g2) (nc g2) (fun _ => ?_)
      refine d_guard 16 rfl rfl (by kernel_rfl) (by kernel_rfl) (by kernel_rfl) rfl rfl (v := .c .top) (nc g2) (nc g2) (fun _ => ?_)
      refine d_guard 17 rfl rfl (by kernel_rfl) (by kernel_rfl) (by kernel_rfl) rfl rfl (v := .c .top) (nc g2) (nc g2) (fun _ => ?_)
      refine d_guard 18 rfl rfl (by kernel_rfl) (by kernel_rfl) (by kernel_rfl) rfl rfl (v := .c .top) (nc g2) (nc g2) (fun _ => ?_)
      refine d_guard 19 rfl rfl (by kernel_rfl) (by kernel_rfl) (by kernel_rfl) rfl rfl (v := .c .top) (nc g2) (nc g2) (fun _ => ?_)
      refine d_guard 20 rfl rfl (by kernel_rfl) (by kernel_rfl) (by kernel_rfl) rfl rfl (v := .c .top) (nc g2) (nc g2) (fun _ => ?_)
      refine d_guard 21 rfl rfl (by kernel_rfl) (by kernel_rfl) (by kernel_rfl) rfl rfl (v := .c .top) (nc g2) (nc g2) (fun _ => ?_)
      refine d_guard 22 rfl rfl (by kernel_rfl) (by kernel_rfl) (by kernel_rfl) rfl rfl (v := .c .top) (nc g2) (nc g2) (fun _ => ?_)
      refine d_take 23 rfl rfl (by kernel_rfl) (by kernel_rfl) (by kernel_rfl) (p_pickT rfl g2 rfl) ?_
      refine d_end (by kernel_rfl) ?_
      refine t_cond rfl (fun _ => ?_) (nc rfl)
      refine t_seq ?_
      refine t_region ?_
      refine r_op (o_assign rfl rfl) ?_
      refine r_end ?_
      refine t_ret Tryz.func74 (.tmp rfl .nil) rfl fun E S w u hI hd => ?_
      refine post_mk hI hd ?_ trivial rfl rfl rfl <;> clear hI hd <;> (try clear ih0)
      all_goals (refine scB ?_; (rw [fact_no2 (by simp only [IntKind.wrap_i64] at *; omega)]; done))
  ·
    have g1' := (bnt g1)
    refine d_guard 5 rfl rfl (by kernel_rfl) (by kernel_rfl) (by kernel_rfl) rfl rfl (v := .c .top) (nc g1) (nc g1) (fun _ => ?_)
    refine d_guard 6 rfl rfl (by kernel_rfl) (by kernel_rfl) (by kernel_rfl) rfl rfl (v := .c .top) (nc g1) (nc g1) (fun _ => ?_)
    refine d_guard 7 rfl rfl (by kernel_rfl) (by kernel_rfl) (by kernel_rfl) rfl rfl (v := .c .top) (nc g1) (nc g1) (fun _ => ?_)
    refine d_guard 8 rfl rfl (by kernel_rfl) (by kernel_rfl) (by kernel_rfl) rfl rfl (v := .c .top) (nc g1) (nc g1) (fun _ => ?_)
    refine d_guard 9 rfl rfl (by kernel_rfl) (by kernel_rfl) (by kernel_rfl) rfl rfl (v := .c .top) (nc g1) (nc g1) (fun _ => ?_)
    refine d_guard 10 rfl rfl (by kernel_rfl) (by kernel_rfl) (by kernel_rfl) rfl rfl (v := .c .top) (nc g1) (nc g1) (fun _ => ?_)
    refine d_take 11 rfl rfl (by kernel_rfl) (by kernel_rfl) (by kernel_rfl) (p_pickT rfl g1 rfl) ?_
    refine d_take 12 rfl rfl (by kernel_rfl) (by kernel_rfl) (by kernel_rfl) (p_move rfl) ?_
    refine d_guard 13 rfl rfl (by kernel_rfl) (by kernel_rfl) (by kernel_rfl) rfl rfl (v := .c .top) (nc rfl) (nc rfl) (fun _ => ?_)
    refine d_guard 14 rfl rfl (by kernel_rfl) (by kernel_rfl) (by kernel_rfl) rfl rfl (v := .c .top) (nc rfl) (nc rfl) (fun _ => ?_)
    refine d_guard 15 rfl rfl (by kernel_rfl) (by kernel_rfl) (by kernel_rfl) rfl rfl (v := .c .top) (nc rfl) (nc rfl) (fun _ => ?_)
    refine d_guard 16 rfl rfl (by kernel_rfl) (by kernel_rfl) (by kernel_rfl) rfl rfl (v := .c .top) (nc rfl) (nc rfl) (fun _ => ?_)
    refine d_guard 17 rfl rfl (by kernel_rfl) (by kernel_rfl) (by kernel_rfl) rfl rfl (v := .c .top) (nc rfl) (nc rfl) (fun _ => ?_)
    refine d_guard 18 rfl rfl (by kernel_rfl) (by kernel_rfl) (by kernel_rfl) rfl rfl (v := .c .top) (nc rfl) (nc rfl) (fun _ => ?_)
    refine d_guard 19 rfl rfl (by kernel_rfl) (by kernel_rfl) (by kernel_rfl) rfl rfl (v := .c .top) (nc rfl) (nc rfl) (fun _ => ?_)
    refine d_guard 20 rfl rfl (by kernel_rfl) (by kernel_rfl) (by kernel_rfl) rfl rfl (v := .c .top) (nc rfl) (nc rfl) (fun _ => ?_)
    refine d_guard 21 rfl rfl (by kernel_rfl) (by kernel_rfl) (by kernel_rfl) rfl rfl (v := .c .top) (nc rfl) (nc rfl) (fun _ => ?_)
    refine d_guard 22 rfl rfl (by kernel_rfl) (by kernel_rfl) (by kernel_rfl) rfl rfl (v := .c .top) (nc rfl) (nc rfl) (fun _ => ?_)
    refine d_take 23 rfl rfl (by kernel_rfl) (by kernel_rfl) (by kernel_rfl) (p_pickT rfl rfl rfl) ?_
    refine d_end (by kernel_rfl) ?_
    refine t_cond rfl (fun _ => ?_) (nc rfl)
    refine t_seq ?_
    refine t_region ?_
    refine r_op (o_assign rfl rfl) ?_
    refine r_end ?_
    refine t_ret Tryz.func74 (.tmp rfl .nil) rfl fun E S w u hI hd => ?_
    refine post_mk hI hd ?_ trivial rfl rfl rfl <;> clear hI hd <;> (try clear ih0)
    all_goals (refine scB ?_; (rw [fact_no1 (by assumption)]; done))
set_option maxHeartbeats 1000000 in
set_option maxRecDepth 10000 in
theorem c_spec_NullsOfFact (r : Int) (l : List Int) (hl : l.length ≤ 1048576) (ho : ∀ x ∈ l, okI x) : Pu Tryz.prog 75 [.agg [.t none (.v (.int .i64 (r))), .t none (.sl 1 encI (l))]] [(1, some (.row none 3 true 1 encI (setI (nulV l))))] 2 (.c (.own 1)) := by
  refine pu_enter Tryz.func75 rfl (Nat.le_of_ble_eq_true rfl) fun w S => ?_
  refine t_seq ?_
  refine t_region ?_
  refine r_op (o_box 0 rfl rfl rfl rfl) ?_
  refine r_op (o_assign rfl rfl) ?_
  refine r_end ?_
  refine t_seq ?_
  refine t_region ?_
  refine r_op (o_lit0 1 (e := 3) (sz := 1) (zs := [.int .i64 (0)]) encI rfl rfl (by kernel_rfl) rfl) ?_
  refine r_op (o_assign rfl rfl) ?_
  refine r_end ?_
  refine t_seq ?_
  refine t_seq ?_
  refine t_region ?_
  refine r_op (o_assign rfl rfl) ?_
  refine r_end ?_
  refine t_block ?_
  refine t_loopL (fun m => ⟨[(1, some (.c (.ptr 0 0))), (2, some (.c (.t none (.v (.slice none 0 0))))), (3, some (.c (.own 1))), (4, some (.c (.t none (.v (.int .i64 ((m : Int)))))))], [(0, some (.box [.t none (.v (.int .i64 (r))), .t none (.sl 1 encI (l))])), (1, some (.row none 3 true 1 encI (setI (nulV (l.take m)))))], 2⟩ : Nat → St) (fun m => m ≤ l.length) (fun m => l.length - m) 0 ⟨⟨rfl, ⟨rfl, ⟨rfl, ⟨rfl, trivial⟩⟩⟩⟩, ⟨rfl, ⟨rfl, trivial⟩⟩, rfl⟩ (by exact Nat.zero_le _) ?_
  rintro m hI ih0
  try dsimp only at hI ih0
  have i1 := hI; have q1 := setI_len (nulV (l.take m)); have q2 := nulV_part l m
  refine t_seq ?_
  refine t_seq ?_
  refine t_region ?_
  refine r_op (o_move rfl rfl) ?_
  refine r_op (o_fieldb rfl (off := 1) (by kernel_rfl) rfl) ?_
  refine r_op (o_load1b rfl (by kernel_rfl) rfl rfl rfl) ?_
  refine r_op (o_len rfl rfl rfl) ?_
  refine r_op (o_bin rfl rfl rfl rfl) ?_
  refine r_end ?_
  refine t_cond rfl (fun h1 => ?_) (fun h1 => ?_)
  ·
    have h1' := of_decide_eq_true h1
    refine t_skip ?_
    refine t_seq ?_
    refine t_block ?_
    refine t_seq ?_
    refine t_region ?_
    refine r_op (o_fieldb rfl (off := 1) (by kernel_rfl) rfl) ?_
    refine r_op (o_load1b rfl (by kernel_rfl) rfl rfl rfl) ?_
    refine r_op (o_move rfl rfl) ?_
    obtain ⟨z2, hz3, b4⟩ := at_get (xs := l) (n := (m : Int)) (by omega) (by omega)
    refine r_op (o_index rfl (by kernel_rfl) rfl rfl b4 hz3) ?_
    refine r_op (o_load1 rfl (by kernel_rfl) rfl rfl) ?_
    refine r_op (o_call 2 2 false (Go.Proofs.enters_of Tryz.func88 (by kernel_rfl) rfl) (c_spec_NullNumber (z2) (by exact (ho _ (List.mem_of_getElem? (by assumption))).1) (by exact (ho _ (List.mem_of_getElem? (by assumption))).2)) rfl (.cons rfl (.c .t0) .nil) rfl rfl rfl) ?_
    refine r_op (o_move rfl rfl) ?_
    refine r_op (o_extract rfl rfl rfl rfl) ?_
    refine r_op (o_extract rfl rfl rfl rfl) ?_
    refine r_op (o_assign rfl rfl) ?_
    refine r_op (o_assign rfl rfl) ?_
    refine r_end ?_
    refine t_seq ?_
    refine t_region ?_
    refine r_op (o_move rfl rfl) ?_
    refine r_end ?_
    refine t_cond rfl (fun h5 => ?_) (fun h5 => ?_)
    ·
      have h5' := of_decide_eq_true h5
      refine t_region ?_
      refine r_op (o_move rfl rfl) ?_
      refine r_op (o_move rfl rfl) ?_
      refine r_op (o_callC 1 (l' := putI (setI (nulV (l.take m))) (if -40 ≤ (z2) ∧ (z2) ≤ -1 then -1 - (z2) else 0)) (Go.Proofs.enters_of Tryz.func127 (by kernel_rfl) rfl) (fun U => c_spec_l4Put U  (setI (nulV (l.take m))) (if -40 ≤ (z2) ∧ (z2) ≤ -1 then -1 - (z2) else 0) (by omega)) rfl rfl (.cons rfl (.own rfl) (.cons rfl .t0 .nil))) ?_
      refine r_op (o_assign rfl rfl) ?_
      refine r_end ?_
      refine t_endblock ?_
      refine t_region ?_
      refine r_op (o_move rfl rfl) ?_
      refine r_op (o_bin rfl rfl rfl rfl) ?_
      refine r_op (o_assign rfl rfl) ?_
      refine r_end ?_
      refine t_le ?_ (ih0 (m + 1) (by (try dsimp only); omega) (by (try dsimp only); omega))
      exact ⟨⟨rfl, ⟨rfl, ⟨rfl, ⟨(eqI (wr64 (by omega) (by omega))), trivial⟩⟩⟩⟩, ⟨rfl, ⟨(eqR (by (rw [nulV_more (by assumption) (by assumption), setI_snoc]; done))), trivial⟩⟩, rfl⟩
    ·
      have h5' := of_decide_eq_false h5
      refine t_skip ?_
      refine t_endblock ?_
      refine t_region ?_
      refine r_op (o_move rfl rfl) ?_
      refine r_op (o_bin rfl rfl rfl rfl) ?_
      refine r_op (o_assign rfl rfl) ?_
      refine r_end ?_
      refine t_le ?_ (ih0 (m + 1) (by (try dsimp only); omega) (by (try dsimp only); omega))
      exact ⟨⟨rfl, ⟨rfl, ⟨rfl, ⟨(eqI (wr64 (by omega) (by omega))), trivial⟩⟩⟩⟩, ⟨rfl, ⟨(eqR (by (rw [nulV_same (by assumption) (by assumption)]; done))), trivial⟩⟩, rfl⟩
  ·
    have h1' := of_decide_eq_false h1
    refine t_exit rfl ?_
    refine t_seq ?_
    refine t_region ?_
    refine r_op (o_move rfl rfl) ?_
    refine r_op (o_assign rfl rfl) ?_
    refine r_end ?_
    refine t_ret Tryz.func75 (.tmp rfl .nil) rfl fun E S w u hI hd => ?_
    refine post_mk hI hd ?_ ⟨eqR ?_, trivial⟩ rfl rfl rfl <;> clear hI hd <;> (try clear ih0)
    all_goals first | rfl | ((rw [nulV_end (by omega)]))
end Go.Eng
