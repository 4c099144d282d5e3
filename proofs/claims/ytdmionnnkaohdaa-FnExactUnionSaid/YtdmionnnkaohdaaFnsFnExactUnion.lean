/- What the functions that FnExactUnion reaches answer. -/
import Derived.Test.YtdmionnnkaohdaaFnsFnExactUnionp0
import Derived.Test.YtdmionnnkaohdaaEngZj
import Derived.Test.YtdmionnnkaohdaaChecked
set_option linter.unusedVariables false
set_option linter.unusedSimpArgs false
namespace Go.Eng
open Go Go.RowKit Go.Proofs
set_option maxHeartbeats 1000000 in
set_option maxRecDepth 10000 in
theorem c_impl_NullNumber (v : Int) (hv : -9223372036854775808 ≤ v) (hv2 : v ≤ 9223372036854775807) : Pu Try.prog 73 [.c (.t none (.v (.int .i64 (v))))] [] 0 (.tup [(false, [.t none (.v (.int .i64 (if -40 ≤ v ∧ v ≤ -1 then -1 - v else 0)))]), (false, [.t none (.v (.bool (decide (-40 ≤ v ∧ v ≤ -1))))])]) := by
  refine pu_enter Try.func73 rfl (Nat.le_of_ble_eq_true rfl) fun w S => ?_
  refine t_seq ?_
  refine t_region ?_
  refine r_op (o_assign rfl rfl) ?_
  refine r_op (o_assign rfl rfl) ?_
  refine r_end ?_
  refine t_seq ?_
  refine t_seq ?_
  refine t_region ?_
  refine r_op (o_move rfl rfl) ?_
  refine r_op (o_bin rfl rfl rfl rfl) ?_
  refine r_op (o_call 0 0 false (Go.Proofs.enters_of Try.func81 (by kernel_rfl) rfl) (c_impl_within (IntKind.i64.wrap ((-1) - v)) (0) (39)) rfl (.cons rfl (.c .t0) (.cons rfl (.c .t0) (.cons rfl (.c .t0) .nil))) rfl rfl rfl) ?_
  refine r_op (o_not rfl rfl) ?_
  refine r_end ?_
  refine t_cond rfl (fun h1 => ?_) (fun h1 => ?_)
  ·
    have h1' := h1
    try simp only [decide_eq_true_eq, decide_eq_false_iff_not, Bool.not_eq_true', Bool.not_eq_false', Bool.not_false, Bool.not_true] at h1'
    refine t_seq ?_
    refine t_region ?_
    refine r_op (o_assign rfl rfl) ?_
    refine r_op (o_assign rfl rfl) ?_
    refine r_end ?_
    refine t_ret Try.func73 (.tmp rfl (.tmp rfl .nil)) rfl fun E S w u hI hd => ?_
    refine post_mk hI hd ?_ trivial rfl rfl rfl <;> clear hI hd
    all_goals first | rfl | (first | (have hn : ¬(-40 ≤ v ∧ v ≤ -1) := by (simp only [IntKind.wrap_i64] at *; omega)); (simp [hn]; done) | (have hn : (-40 ≤ v ∧ v ≤ -1) := by (simp only [IntKind.wrap_i64] at *; omega)); (have e : IntKind.i64.wrap (-1 - v) = -1 - v := wr64 (by omega) (by omega)); (simp [hn, e]; done))
  ·
    have h1' := h1
    try simp only [decide_eq_true_eq, decide_eq_false_iff_not, Bool.not_eq_true', Bool.not_eq_false', Bool.not_false, Bool.not_true] at h1'
    refine t_skip ?_
    refine t_seq ?_
    refine t_region ?_
    refine r_op (o_move rfl rfl) ?_
    refine r_op (o_bin rfl rfl rfl rfl) ?_
    refine r_op (o_assign rfl rfl) ?_
    refine r_op (o_assign rfl rfl) ?_
    refine r_end ?_
    refine t_ret Try.func73 (.tmp rfl (.tmp rfl .nil)) rfl fun E S w u hI hd => ?_
    refine post_mk hI hd ?_ trivial rfl rfl rfl <;> clear hI hd
    all_goals first | rfl | (first | (have hn : ¬(-40 ≤ v ∧ v ≤ -1) := by (simp only [IntKind.wrap_i64] at *; omega)); (simp [hn]; done) | (have hn : (-40 ≤ v ∧ v ≤ -1) := by (simp only [IntKind.wrap_i64] at *; omega)); (have e : IntKind.i64.wrap (-1 - v) = -1 - v := wr64 (by omega) (by omega)); (simp [hn, e]; done))
set_option maxHeartbeats 1000000 in
set_option maxRecDepth 10000 in
theorem c_impl_IsValidValue (v : Int) : Pu Try.prog 79 [.c (.t none (.v (.int .i64 (v))))] [] 0 (.c (.t none (.v (.bool (decide (-40 ≤ v ∧ v ≤ 9)))))) := by
  refine pu_enter Try.func79 rfl (Nat.le_of_ble_eq_true rfl) fun w S => ?_
  refine t_seq ?_
  refine t_region ?_
  refine r_op (o_assign rfl rfl) ?_
  refine r_end ?_
  refine t_seq ?_
  refine t_region ?_
  refine r_op (o_move rfl rfl) ?_
  refine r_op (o_call 0 0 false (Go.Proofs.enters_of Try.func81 (by kernel_rfl) rfl) (c_impl_within (v) (-40) (9)) rfl (.cons rfl (.c .t0) (.cons rfl (.c .t0) (.cons rfl (.c .t0) .nil))) rfl rfl rfl) ?_
  refine r_op (o_assign rfl rfl) ?_
  refine r_end ?_
  refine t_ret Try.func79 (.tmp rfl .nil) rfl fun E S w u hI hd => ?_
  refine post_mk hI hd ?_ trivial rfl rfl rfl <;> clear hI hd
  all_goals first | rfl | (rfl)
set_option maxHeartbeats 1000000 in
set_option maxRecDepth 10000 in
theorem c_impl_IsValidUnionFind (l : List Int) (hl : l.length ≤ 4611686018427387904) (ho : ∀ x ∈ l, okI x) : Pu Try.prog 35 [.agg [.t none (.sl 1 encI (l))]] [] 0 (.c (.t none (.v (.bool (ufOk l))))) := by
  refine pu_enter Try.func35 rfl (Nat.le_of_ble_eq_true rfl) fun w S => ?_
  refine t_seq ?_
  refine t_region ?_
  refine r_op (o_box 0 rfl rfl rfl rfl) ?_
  refine r_op (o_assign rfl rfl) ?_
  refine r_end ?_
  refine t_seq ?_
  refine t_seq ?_
  refine t_region ?_
  refine r_op (o_fieldb rfl (off := 0) (by kernel_rfl) rfl) ?_
  refine r_op (o_load1b rfl (by kernel_rfl) rfl rfl rfl) ?_
  refine r_op (o_len rfl rfl rfl) ?_
  refine r_op (o_move rfl rfl) ?_
  refine r_end ?_
  refine t_block ?_
  refine t_loopL (fun m => ⟨[(1, some (.c (.ptr 0 0))), (8, some (.c (.t none (.sl 1 encI (l))))), (9, some (.c (.t none (.v (.int .i64 (((l).length : Int))))))), (10, some (.c (.t none (.v (.int .i64 ((m : Int)))))))], [(0, some (.box [.t none (.sl 1 encI (l))]))], 1⟩ : Nat → St) (fun m => m ≤ l.length ∧ ∀ j, j < m → ufStep l j = true) (fun m => l.length - m) 0 ⟨⟨rfl, ⟨rfl, ⟨rfl, ⟨rfl, trivial⟩⟩⟩⟩, ⟨rfl, trivial⟩, rfl⟩ (by exact ⟨Nat.zero_le _, fun j h => by omega⟩) ?_
  rintro m hI ih0
  try dsimp only at hI ih0
  obtain ⟨i1, i2⟩ := hI
  refine t_seq ?_
  refine t_region ?_
  refine r_op (o_bin rfl rfl rfl rfl) ?_
  refine r_end ?_
  refine t_seq ?_
  refine t_cond rfl (fun h1 => ?_) (fun h1 => ?_)
  ·
    have h1' := h1
    try simp only [decide_eq_true_eq, decide_eq_false_iff_not, Bool.not_eq_true', Bool.not_eq_false', Bool.not_false, Bool.not_true] at h1'
    refine t_skip ?_
    refine t_seq ?_
    refine t_block ?_
    refine t_seq ?_
    refine t_region ?_
    refine r_op (o_move rfl rfl) ?_
    obtain ⟨z2, hz3, b4⟩ := at_get (xs := l) (n := (m : Int)) (by first | omega | exact (ho _ (List.mem_of_getElem? (by assumption))).1 | exact (ho _ (List.mem_of_getElem? (by assumption))).2 | (split at * <;> omega)) (by first | omega | exact (ho _ (List.mem_of_getElem? (by assumption))).1 | exact (ho _ (List.mem_of_getElem? (by assumption))).2 | (split at * <;> omega))
    refine r_op (o_index rfl (by kernel_rfl) rfl rfl b4 hz3) ?_
    refine r_op (o_load1 rfl (by kernel_rfl) rfl rfl) ?_
    refine r_op (o_assign rfl rfl) ?_
    refine r_op (o_assign rfl rfl) ?_
    refine r_end ?_
    refine t_seq ?_
    refine t_region ?_
    refine r_op (o_move rfl rfl) ?_
    refine r_op (o_call 1 1 false (Go.Proofs.enters_of Try.func73 (by kernel_rfl) rfl) (c_impl_NullNumber (z2) (by first | omega | exact (ho _ (List.mem_of_getElem? (by assumption))).1 | exact (ho _ (List.mem_of_getElem? (by assumption))).2 | (split at * <;> omega)) (by first | omega | exact (ho _ (List.mem_of_getElem? (by assumption))).1 | exact (ho _ (List.mem_of_getElem? (by assumption))).2 | (split at * <;> omega))) rfl (.cons rfl (.c .t0) .nil) rfl rfl rfl) ?_
    refine r_op (o_move rfl rfl) ?_
    refine r_op (o_extract rfl rfl rfl rfl) ?_
    refine r_op (o_extract rfl rfl rfl rfl) ?_
    refine r_op (o_assign rfl rfl) ?_
    refine r_op (o_assign rfl rfl) ?_
    refine r_end ?_
    refine t_seq ?_
    refine t_region ?_
    refine r_op (o_move rfl rfl) ?_
    refine r_op (o_call 1 1 false (Go.Proofs.enters_of Try.func79 (by kernel_rfl) rfl) (c_impl_IsValidValue (z2)) rfl (.cons rfl (.c .t0) .nil) rfl rfl rfl) ?_
    refine r_op (o_not rfl rfl) ?_
    refine r_op (o_move rfl rfl) ?_
    refine r_guard rfl rfl rfl (fun g5 => ?_) (fun g5 => ?_)
    ·
      have g5' := g5
      try simp only [decide_eq_true_eq, decide_eq_false_iff_not, Bool.not_eq_true', Bool.not_eq_false', Bool.not_false, Bool.not_true] at g5'
      refine r_op (o_move rfl rfl) ?_
      refine r_guard rfl rfl rfl (fun _ => ?_) (fun h' => (Bool.noConfusion (g5.symm.trans h')))
      refine r_op (o_move rfl rfl) ?_
      refine r_guard rfl rfl rfl (fun g6 => ?_) (fun g6 => ?_)
      ·
        have g6' := g6
        try simp only [decide_eq_true_eq, decide_eq_false_iff_not, Bool.not_eq_true', Bool.not_eq_false', Bool.not_false, Bool.not_true] at g6'
        refine r_op (o_move rfl rfl) ?_
        refine r_guard rfl rfl rfl (fun _ => ?_) (fun h' => (Bool.noConfusion (g6.symm.trans h')))
        refine r_op (o_move rfl rfl) ?_
        refine r_guard rfl rfl rfl (fun _ => ?_) (fun h' => (Bool.noConfusion (g6.symm.trans h')))
        refine r_op (o_bin rfl rfl rfl rfl) ?_
        refine r_guard rfl rfl rfl (fun _ => ?_) (fun h' => (Bool.noConfusion (g6.symm.trans h')))
        refine r_op (o_move rfl rfl) ?_
        refine r_guard rfl rfl rfl (fun g7 => ?_) (fun g7 => ?_)
        ·
          have g7' := g7
          try simp only [decide_eq_true_eq, decide_eq_false_iff_not, Bool.not_eq_true', Bool.not_eq_false', Bool.not_false, Bool.not_true] at g7'
          refine r_op (o_fieldb rfl (off := 0) (by kernel_rfl) rfl) ?_
          refine r_guard rfl rfl rfl (fun _ => ?_) (fun h' => (Bool.noConfusion (g7.symm.trans h')))
          refine r_op (o_load1b rfl (by kernel_rfl) rfl rfl rfl) ?_
          refine r_guard rfl rfl rfl (fun _ => ?_) (fun h' => (Bool.noConfusion (g7.symm.trans h')))
          refine r_op (o_move rfl rfl) ?_
          refine r_guard rfl rfl rfl (fun _ => ?_) (fun h' => (Bool.noConfusion (g7.symm.trans h')))
          obtain ⟨z8, hz9, b10⟩ := at_get (xs := l) (n := if -40 ≤ (z2) ∧ (z2) ≤ -1 then -1 - (z2) else 0) (by first | omega | exact (ho _ (List.mem_of_getElem? (by assumption))).1 | exact (ho _ (List.mem_of_getElem? (by assumption))).2 | (split at * <;> omega)) (by first | omega | exact (ho _ (List.mem_of_getElem? (by assumption))).1 | exact (ho _ (List.mem_of_getElem? (by assumption))).2 | (split at * <;> omega))
          refine r_op (o_index rfl (by kernel_rfl) rfl rfl b10 hz9) ?_
          refine r_guard rfl rfl rfl (fun _ => ?_) (fun h' => (Bool.noConfusion (g7.symm.trans h')))
          refine r_op (o_load1 rfl (by kernel_rfl) rfl rfl) ?_
          refine r_guard rfl rfl rfl (fun _ => ?_) (fun h' => (Bool.noConfusion (g7.symm.trans h')))
          refine r_op (o_move rfl rfl) ?_
          refine r_guard rfl rfl rfl (fun _ => ?_) (fun h' => (Bool.noConfusion (g7.symm.trans h')))
          refine r_op (o_bin rfl rfl rfl rfl) ?_
          refine r_guard rfl rfl rfl (fun _ => ?_) (fun h' => (Bool.noConfusion (g6.symm.trans h')))
          refine r_op (o_pickF rfl rfl g7 rfl) ?_
          refine r_guard rfl rfl rfl (fun _ => ?_) (fun h' => (Bool.noConfusion (g5.symm.trans h')))
          refine r_op (o_pickT rfl rfl g6 rfl) ?_
          refine r_op (o_pickF rfl rfl g5 rfl) ?_
          refine r_end ?_
          refine t_cond rfl (fun h11 => ?_) (fun h11 => ?_)
          ·
            have h11' := h11
            try simp only [decide_eq_true_eq, decide_eq_false_iff_not, Bool.not_eq_true', Bool.not_eq_false', Bool.not_false, Bool.not_true] at h11'
            refine t_seq ?_
            refine t_region ?_
            refine r_op (o_assign rfl rfl) ?_
            refine r_end ?_
            refine t_ret Try.func35 (.tmp rfl .nil) rfl fun E S w u hI hd => ?_
            refine post_mk hI hd ?_ trivial rfl rfl rfl <;> clear hI hd <;> (try clear ih0)
            all_goals first | rfl | (refine scB ?_; first | (rw [ufOk_not (m := m) (by omega) (by first | exact ufStep_bad (m := m) (by assumption) (by omega) | exact ufStep_far (m := m) (by assumption) (by omega) (by omega) | exact ufStep_const (m := m) (by assumption) (by omega) (by omega) | (rw [ufStep_rep (m := m) (by assumption) (by assumption) (by omega) (by omega) (by omega) (by omega)]; first | exact decide_eq_true (by omega) | exact decide_eq_false (by omega)))]; done) | (rw [ufOk_end (m := m) i2 (by omega)]; exact decide_eq_decide.2 (by omega)))
          ·
            have h11' := h11
            try simp only [decide_eq_true_eq, decide_eq_false_iff_not, Bool.not_eq_true', Bool.not_eq_false', Bool.not_false, Bool.not_true] at h11'
            refine t_skip ?_
            refine t_endblock ?_
            refine t_region ?_
            refine r_op (o_bin rfl rfl rfl rfl) ?_
            refine r_op (o_move rfl rfl) ?_
            refine r_end ?_
            refine t_le ?_ (ih0 (m + 1) (by (try dsimp only); omega) (by (try dsimp only); exact ⟨by omega, step_all i2 (by first | exact ufStep_bad (m := m) (by assumption) (by omega) | exact ufStep_far (m := m) (by assumption) (by omega) (by omega) | exact ufStep_const (m := m) (by assumption) (by omega) (by omega) | (rw [ufStep_rep (m := m) (by assumption) (by assumption) (by omega) (by omega) (by omega) (by omega)]; first | exact decide_eq_true (by omega) | exact decide_eq_false (by omega)))⟩))
            exact ⟨⟨rfl, ⟨rfl, ⟨rfl, ⟨(eqI (wr64 (by omega) (by omega))), trivial⟩⟩⟩⟩, ⟨rfl, trivial⟩, rfl⟩
        ·
          have g7' := g7
          try simp only [decide_eq_true_eq, decide_eq_false_iff_not, Bool.not_eq_true', Bool.not_eq_false', Bool.not_false, Bool.not_true] at g7'
          refine r_guard rfl rfl rfl (fun h' => (Bool.noConfusion (g7.symm.trans h'))) (fun _ => ?_)
          refine r_guard rfl rfl rfl (fun h' => (Bool.noConfusion (g7.symm.trans h'))) (fun _ => ?_)
          refine r_guard rfl rfl rfl (fun h' => (Bool.noConfusion (g7.symm.trans h'))) (fun _ => ?_)
          refine r_guard rfl rfl rfl (fun h' => (Bool.noConfusion (g7.symm.trans h'))) (fun _ => ?_)
          refine r_guard rfl rfl rfl (fun h' => (Bool.noConfusion (g7.symm.trans h'))) (fun _ => ?_)
          refine r_guard rfl rfl rfl (fun h' => (Bool.noConfusion (g7.symm.trans h'))) (fun _ => ?_)
          refine r_guard rfl rfl rfl (fun _ => ?_) (fun h' => (Bool.noConfusion (g6.symm.trans h')))
          refine r_op (o_pickT rfl rfl g7 rfl) ?_
          refine r_guard rfl rfl rfl (fun _ => ?_) (fun h' => (Bool.noConfusion (g5.symm.trans h')))
          refine r_op (o_pickT rfl rfl g6 rfl) ?_
          refine r_op (o_pickF rfl rfl g5 rfl) ?_
          refine r_end ?_
          refine t_cond rfl (fun _ => ?_) (fun h' => Bool.noConfusion (rfl.symm.trans h'))
          refine t_seq ?_
          refine t_region ?_
          refine r_op (o_assign rfl rfl) ?_
          refine r_end ?_
          refine t_ret Try.func35 (.tmp rfl .nil) rfl fun E S w u hI hd => ?_
          refine post_mk hI hd ?_ trivial rfl rfl rfl <;> clear hI hd <;> (try clear ih0)
          all_goals first | rfl | (refine scB ?_; first | (rw [ufOk_not (m := m) (by omega) (by first | exact ufStep_bad (m := m) (by assumption) (by omega) | exact ufStep_far (m := m) (by assumption) (by omega) (by omega) | exact ufStep_const (m := m) (by assumption) (by omega) (by omega) | (rw [ufStep_rep (m := m) (by assumption) (by assumption) (by omega) (by omega) (by omega) (by omega)]; first | exact decide_eq_true (by omega) | exact decide_eq_false (by omega)))]; done) | (rw [ufOk_end (m := m) i2 (by omega)]; exact decide_eq_decide.2 (by omega)))
      ·
        have g6' := g6
        try simp only [decide_eq_true_eq, decide_eq_false_iff_not, Bool.not_eq_true', Bool.not_eq_false', Bool.not_false, Bool.not_true] at g6'
        refine r_guard rfl rfl rfl (fun h' => (Bool.noConfusion (g6.symm.trans h'))) (fun _ => ?_)
        refine r_guard rfl rfl rfl (fun h' => (Bool.noConfusion (g6.symm.trans h'))) (fun _ => ?_)
        refine r_guard rfl rfl rfl (fun h' => (Bool.noConfusion (g6.symm.trans h'))) (fun _ => ?_)
        refine r_skip rfl rfl rfl ?_
        refine r_skip rfl rfl rfl ?_
        refine r_skip rfl rfl rfl ?_
        refine r_skip rfl rfl rfl ?_
        refine r_skip rfl rfl rfl ?_
        refine r_skip rfl rfl rfl ?_
        refine r_skip rfl rfl rfl ?_
        refine r_guard rfl rfl rfl (fun h' => (Bool.noConfusion (g6.symm.trans h'))) (fun _ => ?_)
        refine r_guard rfl rfl rfl (fun _ => ?_) (fun h' => (Bool.noConfusion (g5.symm.trans h')))
        refine r_op (o_pickF rfl rfl g6 rfl) ?_
        refine r_op (o_pickF rfl rfl g5 rfl) ?_
        refine r_end ?_
        refine t_cond rfl (fun h' => Bool.noConfusion (rfl.symm.trans h')) (fun _ => ?_)
        refine t_skip ?_
        refine t_endblock ?_
        refine t_region ?_
        refine r_op (o_bin rfl rfl rfl rfl) ?_
        refine r_op (o_move rfl rfl) ?_
        refine r_end ?_
        refine t_le ?_ (ih0 (m + 1) (by (try dsimp only); omega) (by (try dsimp only); exact ⟨by omega, step_all i2 (by first | exact ufStep_bad (m := m) (by assumption) (by omega) | exact ufStep_far (m := m) (by assumption) (by omega) (by omega) | exact ufStep_const (m := m) (by assumption) (by omega) (by omega) | (rw [ufStep_rep (m := m) (by assumption) (by assumption) (by omega) (by omega) (by omega) (by omega)]; first | exact decide_eq_true (by omega) | exact decide_eq_false (by omega)))⟩))
        exact ⟨⟨rfl, ⟨rfl, ⟨rfl, ⟨(eqI (wr64 (by omega) (by omega))), trivial⟩⟩⟩⟩, ⟨rfl, trivial⟩, rfl⟩
    ·
      have g5' := g5
      try simp only [decide_eq_true_eq, decide_eq_false_iff_not, Bool.not_eq_true', Bool.not_eq_false', Bool.not_false, Bool.not_true] at g5'
      refine r_guard rfl rfl rfl (fun h' => (Bool.noConfusion (g5.symm.trans h'))) (fun _ => ?_)
      refine r_skip rfl rfl rfl ?_
      refine r_skip rfl rfl rfl ?_
      refine r_skip rfl rfl rfl ?_
      refine r_skip rfl rfl rfl ?_
      refine r_skip rfl rfl rfl ?_
      refine r_skip rfl rfl rfl ?_
      refine r_skip rfl rfl rfl ?_
      refine r_skip rfl rfl rfl ?_
      refine r_skip rfl rfl rfl ?_
      refine r_skip rfl rfl rfl ?_
      refine r_skip rfl rfl rfl ?_
      refine r_skip rfl rfl rfl ?_
      refine r_guard rfl rfl rfl (fun h' => (Bool.noConfusion (g5.symm.trans h'))) (fun _ => ?_)
      refine r_op (o_pickT rfl rfl g5 rfl) ?_
      refine r_end ?_
      refine t_cond rfl (fun _ => ?_) (fun h' => Bool.noConfusion (rfl.symm.trans h'))
      refine t_seq ?_
      refine t_region ?_
      refine r_op (o_assign rfl rfl) ?_
      refine r_end ?_
      refine t_ret Try.func35 (.tmp rfl .nil) rfl fun E S w u hI hd => ?_
      refine post_mk hI hd ?_ trivial rfl rfl rfl <;> clear hI hd <;> (try clear ih0)
      all_goals first | rfl | (refine scB ?_; first | (rw [ufOk_not (m := m) (by omega) (by first | exact ufStep_bad (m := m) (by assumption) (by omega) | exact ufStep_far (m := m) (by assumption) (by omega) (by omega) | exact ufStep_const (m := m) (by assumption) (by omega) (by omega) | (rw [ufStep_rep (m := m) (by assumption) (by assumption) (by omega) (by omega) (by omega) (by omega)]; first | exact decide_eq_true (by omega) | exact decide_eq_false (by omega)))]; done) | (rw [ufOk_end (m := m) i2 (by omega)]; exact decide_eq_decide.2 (by omega)))
  ·
    have h1' := h1
    try simp only [decide_eq_true_eq, decide_eq_false_iff_not, Bool.not_eq_true', Bool.not_eq_false', Bool.not_false, Bool.not_true] at h1'
    refine t_exit rfl ?_
    refine t_seq ?_
    refine t_region ?_
    refine r_op (o_fieldb rfl (off := 0) (by kernel_rfl) rfl) ?_
    refine r_op (o_load1b rfl (by kernel_rfl) rfl rfl rfl) ?_
    refine r_op (o_len rfl rfl rfl) ?_
    refine r_op (o_bin rfl rfl rfl rfl) ?_
    refine r_op (o_assign rfl rfl) ?_
    refine r_end ?_
    refine t_ret Try.func35 (.tmp rfl .nil) rfl fun E S w u hI hd => ?_
    refine post_mk hI hd ?_ trivial rfl rfl rfl <;> clear hI hd <;> (try clear ih0)
    all_goals first | rfl | (refine scB ?_; first | (rw [ufOk_not (m := m) (by omega) (by first | exact ufStep_bad (m := m) (by assumption) (by omega) | exact ufStep_far (m := m) (by assumption) (by omega) (by omega) | exact ufStep_const (m := m) (by assumption) (by omega) (by omega) | (rw [ufStep_rep (m := m) (by assumption) (by assumption) (by omega) (by omega) (by omega) (by omega)]; first | exact decide_eq_true (by omega) | exact decide_eq_false (by omega)))]; done) | (rw [ufOk_end (m := m) i2 (by omega)]; exact decide_eq_decide.2 (by omega)))
set_option maxHeartbeats 1000000 in
set_option maxRecDepth 10000 in
theorem c_impl_Find (l : List Int) (v : Int) (hl : l.length ≤ 4611686018427387904) (ho : ∀ x ∈ l, okI x) (hv : okI v) : Pu Try.prog 28 [.agg [.t none (.sl 1 encI (l))], .c (.t none (.v (.int .i64 (v))))] [] 0 (.c (.t none (.v (.int .i64 (findU l v))))) := by
  refine pu_enter Try.func28 rfl (Nat.le_of_ble_eq_true rfl) fun w S => ?_
  have hv1 := hv.1; have hv2 := hv.2
  refine t_seq ?_
  refine t_region ?_
  refine r_op (o_box 0 rfl rfl rfl rfl) ?_
  refine r_op (o_assign rfl rfl) ?_
  refine r_end ?_
  refine t_seq ?_
  refine t_region ?_
  refine r_op (o_move rfl rfl) ?_
  refine r_op (o_call 1 1 false (Go.Proofs.enters_of Try.func73 (by kernel_rfl) rfl) (c_impl_NullNumber (v) (by first | omega | assumption) (by first | omega | assumption)) rfl (.cons rfl (.c .t0) .nil) rfl rfl rfl) ?_
  refine r_op (o_move rfl rfl) ?_
  refine r_op (o_extract rfl rfl rfl rfl) ?_
  refine r_op (o_extract rfl rfl rfl rfl) ?_
  refine r_op (o_assign rfl rfl) ?_
  refine r_op (o_assign rfl rfl) ?_
  refine r_end ?_
  refine t_seq ?_
  refine t_seq ?_
  refine t_region ?_
  refine r_op (o_move rfl rfl) ?_
  refine r_op (o_not rfl rfl) ?_
  refine r_op (o_move rfl rfl) ?_
  refine r_guard rfl rfl rfl (fun g1 => ?_) (fun g1 => ?_)
  ·
    have g1' := g1
    try simp only [decide_eq_true_eq, decide_eq_false_iff_not, Bool.not_eq_true', Bool.not_eq_false', Bool.not_false, Bool.not_true] at g1'
    refine r_op (o_move rfl rfl) ?_
    refine r_guard rfl rfl rfl (fun _ => ?_) (fun h' => (Bool.noConfusion (g1.symm.trans h')))
    refine r_op (o_fieldb rfl (off := 0) (by kernel_rfl) rfl) ?_
    refine r_guard rfl rfl rfl (fun _ => ?_) (fun h' => (Bool.noConfusion (g1.symm.trans h')))
    refine r_op (o_load1b rfl (by kernel_rfl) rfl rfl rfl) ?_
    refine r_guard rfl rfl rfl (fun _ => ?_) (fun h' => (Bool.noConfusion (g1.symm.trans h')))
    refine r_op (o_len rfl rfl rfl) ?_
    refine r_guard rfl rfl rfl (fun _ => ?_) (fun h' => (Bool.noConfusion (g1.symm.trans h')))
    refine r_op (o_bin rfl rfl rfl rfl) ?_
    refine r_op (o_pickF rfl rfl g1 rfl) ?_
    refine r_op (o_move rfl rfl) ?_
    refine r_guard rfl rfl rfl (fun g2 => ?_) (fun g2 => ?_)
    ·
      have g2' := g2
      try simp only [decide_eq_true_eq, decide_eq_false_iff_not, Bool.not_eq_true', Bool.not_eq_false', Bool.not_false, Bool.not_true] at g2'
      refine r_op (o_loadAb rfl (n := 1) (by kernel_rfl) (by kernel_rfl) rfl rfl rfl) ?_
      refine r_guard rfl rfl rfl (fun _ => ?_) (fun h' => (Bool.noConfusion (g2.symm.trans h')))
      refine r_op (o_call 1 1 false (Go.Proofs.enters_of Try.func35 (by kernel_rfl) rfl) (c_impl_IsValidUnionFind (l) (by first | omega | assumption) (by first | omega | assumption)) rfl (.cons rfl (.agg (.cons .t0 .nil)) .nil) rfl rfl rfl) ?_
      refine r_guard rfl rfl rfl (fun _ => ?_) (fun h' => (Bool.noConfusion (g2.symm.trans h')))
      refine r_op (o_not rfl rfl) ?_
      refine r_op (o_pickF rfl rfl g2 rfl) ?_
      refine r_end ?_
      refine t_cond rfl (fun h3 => ?_) (fun h3 => ?_)
      ·
        have h3' := h3
        try simp only [decide_eq_true_eq, decide_eq_false_iff_not, Bool.not_eq_true', Bool.not_eq_false', Bool.not_false, Bool.not_true] at h3'
        refine t_seq ?_
        refine t_region ?_
        refine r_op (o_move rfl rfl) ?_
        refine r_op (o_assign rfl rfl) ?_
        refine r_end ?_
        refine t_ret Try.func28 (.tmp rfl .nil) rfl fun E S w u hI hd => ?_
        refine post_mk hI hd ?_ trivial rfl rfl rfl <;> clear hI hd
        all_goals first | rfl | (refine scI ?_; first | (rw [findU_at (l := l) (v := v) (by omega) (by omega) (by assumption) (n := if -40 ≤ v ∧ v ≤ -1 then -1 - v else 0) (by omega) (by assumption)]; done) | (rw [findU_no]; intro q; first | omega | (have q3 := q.2.2; simp_all; done)))
      ·
        have h3' := h3
        try simp only [decide_eq_true_eq, decide_eq_false_iff_not, Bool.not_eq_true', Bool.not_eq_false', Bool.not_false, Bool.not_true] at h3'
        refine t_skip ?_
        refine t_seq ?_
        refine t_region ?_
        refine r_op (o_fieldb rfl (off := 0) (by kernel_rfl) rfl) ?_
        refine r_op (o_load1b rfl (by kernel_rfl) rfl rfl rfl) ?_
        refine r_op (o_move rfl rfl) ?_
        obtain ⟨z4, hz5, b6⟩ := at_get (xs := l) (n := if -40 ≤ (v) ∧ (v) ≤ -1 then -1 - (v) else 0) (by first | omega | assumption) (by first | omega | assumption)
        refine r_op (o_index rfl (by kernel_rfl) rfl rfl b6 hz5) ?_
        refine r_op (o_load1 rfl (by kernel_rfl) rfl rfl) ?_
        refine r_op (o_assign rfl rfl) ?_
        refine r_end ?_
        refine t_ret Try.func28 (.tmp rfl .nil) rfl fun E S w u hI hd => ?_
        refine post_mk hI hd ?_ trivial rfl rfl rfl <;> clear hI hd
        all_goals first | rfl | (refine scI ?_; first | (rw [findU_at (l := l) (v := v) (by omega) (by omega) (by assumption) (n := if -40 ≤ v ∧ v ≤ -1 then -1 - v else 0) (by omega) (by assumption)]; done) | (rw [findU_no]; intro q; first | omega | (have q3 := q.2.2; simp_all; done)))
    ·
      have g2' := g2
      try simp only [decide_eq_true_eq, decide_eq_false_iff_not, Bool.not_eq_true', Bool.not_eq_false', Bool.not_false, Bool.not_true] at g2'
      refine r_guard rfl rfl rfl (fun h' => (Bool.noConfusion (g2.symm.trans h'))) (fun _ => ?_)
      refine r_guard rfl rfl rfl (fun h' => (Bool.noConfusion (g2.symm.trans h'))) (fun _ => ?_)
      refine r_op (o_pickT rfl rfl g2 rfl) ?_
      refine r_end ?_
      refine t_cond rfl (fun _ => ?_) (fun h' => Bool.noConfusion (rfl.symm.trans h'))
      refine t_seq ?_
      refine t_region ?_
      refine r_op (o_move rfl rfl) ?_
      refine r_op (o_assign rfl rfl) ?_
      refine r_end ?_
      refine t_ret Try.func28 (.tmp rfl .nil) rfl fun E S w u hI hd => ?_
      refine post_mk hI hd ?_ trivial rfl rfl rfl <;> clear hI hd
      all_goals first | rfl | (refine scI ?_; first | (rw [findU_at (l := l) (v := v) (by omega) (by omega) (by assumption) (n := if -40 ≤ v ∧ v ≤ -1 then -1 - v else 0) (by omega) (by assumption)]; done) | (rw [findU_no]; intro q; first | omega | (have q3 := q.2.2; simp_all; done)))
  ·
    have g1' := g1
    try simp only [decide_eq_true_eq, decide_eq_false_iff_not, Bool.not_eq_true', Bool.not_eq_false', Bool.not_false, Bool.not_true] at g1'
    refine r_guard rfl rfl rfl (fun h' => (Bool.noConfusion (g1.symm.trans h'))) (fun _ => ?_)
    refine r_guard rfl rfl rfl (fun h' => (Bool.noConfusion (g1.symm.trans h'))) (fun _ => ?_)
    refine r_guard rfl rfl rfl (fun h' => (Bool.noConfusion (g1.symm.trans h'))) (fun _ => ?_)
    refine r_guard rfl rfl rfl (fun h' => (Bool.noConfusion (g1.symm.trans h'))) (fun _ => ?_)
    refine r_op (o_pickT rfl rfl g1 rfl) ?_
    refine r_op (o_move rfl rfl) ?_
    refine r_guard rfl rfl rfl (fun h' => (Bool.noConfusion (rfl.symm.trans h'))) (fun _ => ?_)
    refine r_guard rfl rfl rfl (fun h' => (Bool.noConfusion (rfl.symm.trans h'))) (fun _ => ?_)
    refine r_guard rfl rfl rfl (fun h' => (Bool.noConfusion (rfl.symm.trans h'))) (fun _ => ?_)
    refine r_op (o_pickT rfl rfl rfl rfl) ?_
    refine r_end ?_
    refine t_cond rfl (fun _ => ?_) (fun h' => Bool.noConfusion (rfl.symm.trans h'))
    refine t_seq ?_
    refine t_region ?_
    refine r_op (o_move rfl rfl) ?_
    refine r_op (o_assign rfl rfl) ?_
    refine r_end ?_
    refine t_ret Try.func28 (.tmp rfl .nil) rfl fun E S w u hI hd => ?_
    refine post_mk hI hd ?_ trivial rfl rfl rfl <;> clear hI hd
    all_goals first | rfl | (refine scI ?_; first | (rw [findU_at (l := l) (v := v) (by omega) (by omega) (by assumption) (n := if -40 ≤ v ∧ v ≤ -1 then -1 - v else 0) (by omega) (by assumption)]; done) | (rw [findU_no]; intro q; first | omega | (have q3 := q.2.2; simp_all; done)))
set_option maxHeartbeats 1000000 in
set_option maxRecDepth 10000 in
theorem c_impl_isMember (l : List Int) (v : Int) (hl : l.length ≤ 4611686018427387904) (ho : ∀ x ∈ l, okI x) (hv : okI v) : Pu Try.prog 67 [.agg [.t none (.sl 1 encI (l))], .c (.t none (.v (.int .i64 (v))))] [] 0 (.c (.t none (.v (.bool (memU l v))))) := by
  refine pu_enter Try.func67 rfl (Nat.le_of_ble_eq_true rfl) fun w S => ?_
  have hv1 := hv.1; have hv2 := hv.2
  refine t_seq ?_
  refine t_region ?_
  refine r_op (o_box 0 rfl rfl rfl rfl) ?_
  refine r_op (o_assign rfl rfl) ?_
  refine r_end ?_
  refine t_seq ?_
  refine t_region ?_
  refine r_op (o_move rfl rfl) ?_
  refine r_op (o_call 1 1 false (Go.Proofs.enters_of Try.func73 (by kernel_rfl) rfl) (c_impl_NullNumber (v) (by first | omega | assumption) (by first | omega | assumption)) rfl (.cons rfl (.c .t0) .nil) rfl rfl rfl) ?_
  refine r_op (o_move rfl rfl) ?_
  refine r_op (o_extract rfl rfl rfl rfl) ?_
  refine r_op (o_extract rfl rfl rfl rfl) ?_
  refine r_op (o_assign rfl rfl) ?_
  refine r_op (o_assign rfl rfl) ?_
  refine r_end ?_
  refine t_seq ?_
  refine t_region ?_
  refine r_op (o_move rfl rfl) ?_
  refine r_op (o_call 1 1 false (Go.Proofs.enters_of Try.func79 (by kernel_rfl) rfl) (c_impl_IsValidValue (v)) rfl (.cons rfl (.c .t0) .nil) rfl rfl rfl) ?_
  refine r_op (o_move rfl rfl) ?_
  refine r_guard rfl rfl rfl (fun g1 => ?_) (fun g1 => ?_)
  ·
    have g1' := g1
    try simp only [decide_eq_true_eq, decide_eq_false_iff_not, Bool.not_eq_true', Bool.not_eq_false', Bool.not_false, Bool.not_true] at g1'
    refine r_op (o_move rfl rfl) ?_
    refine r_guard rfl rfl rfl (fun _ => ?_) (fun h' => (Bool.noConfusion (g1.symm.trans h')))
    refine r_op (o_not rfl rfl) ?_
    refine r_guard rfl rfl rfl (fun _ => ?_) (fun h' => (Bool.noConfusion (g1.symm.trans h')))
    refine r_op (o_move rfl rfl) ?_
    refine r_guard rfl rfl rfl (fun g2 => ?_) (fun g2 => ?_)
    ·
      have g2' := g2
      try simp only [decide_eq_true_eq, decide_eq_false_iff_not, Bool.not_eq_true', Bool.not_eq_false', Bool.not_false, Bool.not_true] at g2'
      refine r_op (o_move rfl rfl) ?_
      refine r_guard rfl rfl rfl (fun _ => ?_) (fun h' => (Bool.noConfusion (g2.symm.trans h')))
      refine r_op (o_fieldb rfl (off := 0) (by kernel_rfl) rfl) ?_
      refine r_guard rfl rfl rfl (fun _ => ?_) (fun h' => (Bool.noConfusion (g2.symm.trans h')))
      refine r_op (o_load1b rfl (by kernel_rfl) rfl rfl rfl) ?_
      refine r_guard rfl rfl rfl (fun _ => ?_) (fun h' => (Bool.noConfusion (g2.symm.trans h')))
      refine r_op (o_len rfl rfl rfl) ?_
      refine r_guard rfl rfl rfl (fun _ => ?_) (fun h' => (Bool.noConfusion (g2.symm.trans h')))
      refine r_op (o_bin rfl rfl rfl rfl) ?_
      refine r_guard rfl rfl rfl (fun _ => ?_) (fun h' => (Bool.noConfusion (g1.symm.trans h')))
      refine r_op (o_pickF rfl rfl g2 rfl) ?_
      refine r_op (o_pickT rfl rfl g1 rfl) ?_
      refine r_op (o_assign rfl rfl) ?_
      refine r_end ?_
      refine t_ret Try.func67 (.tmp rfl .nil) rfl fun E S w u hI hd => ?_
      refine post_mk hI hd ?_ trivial rfl rfl rfl <;> clear hI hd
      all_goals first | rfl | (refine scB ?_; first | (rw [memU_of (by omega) (by omega)]; done) | (rw [memU_not (by omega)]; done) | (unfold memU; grind))
    ·
      have g2' := g2
      try simp only [decide_eq_true_eq, decide_eq_false_iff_not, Bool.not_eq_true', Bool.not_eq_false', Bool.not_false, Bool.not_true] at g2'
      refine r_guard rfl rfl rfl (fun h' => (Bool.noConfusion (g2.symm.trans h'))) (fun _ => ?_)
      refine r_guard rfl rfl rfl (fun h' => (Bool.noConfusion (g2.symm.trans h'))) (fun _ => ?_)
      refine r_guard rfl rfl rfl (fun h' => (Bool.noConfusion (g2.symm.trans h'))) (fun _ => ?_)
      refine r_guard rfl rfl rfl (fun h' => (Bool.noConfusion (g2.symm.trans h'))) (fun _ => ?_)
      refine r_guard rfl rfl rfl (fun _ => ?_) (fun h' => (Bool.noConfusion (g1.symm.trans h')))
      refine r_op (o_pickT rfl rfl g2 rfl) ?_
      refine r_op (o_pickT rfl rfl g1 rfl) ?_
      refine r_op (o_assign rfl rfl) ?_
      refine r_end ?_
      refine t_ret Try.func67 (.tmp rfl .nil) rfl fun E S w u hI hd => ?_
      refine post_mk hI hd ?_ trivial rfl rfl rfl <;> clear hI hd
      all_goals first | rfl | (refine scB ?_; first | (rw [memU_of (by omega) (by omega)]; done) | (rw [memU_not (by omega)]; done) | (unfold memU; grind))
  ·
    have g1' := g1
    try simp only [decide_eq_true_eq, decide_eq_false_iff_not, Bool.not_eq_true', Bool.not_eq_false', Bool.not_false, Bool.not_true] at g1'
    refine r_guard rfl rfl rfl (fun h' => (Bool.noConfusion (g1.symm.trans h'))) (fun _ => ?_)
    refine r_guard rfl rfl rfl (fun h' => (Bool.noConfusion (g1.symm.trans h'))) (fun _ => ?_)
    refine r_skip rfl rfl rfl ?_
    refine r_skip rfl rfl rfl ?_
    refine r_skip rfl rfl rfl ?_
    refine r_skip rfl rfl rfl ?_
    refine r_skip rfl rfl rfl ?_
    refine r_guard rfl rfl rfl (fun h' => (Bool.noConfusion (g1.symm.trans h'))) (fun _ => ?_)
    refine r_op (o_pickF rfl rfl g1 rfl) ?_
    refine r_op (o_assign rfl rfl) ?_
    refine r_end ?_
    refine t_ret Try.func67 (.tmp rfl .nil) rfl fun E S w u hI hd => ?_
    refine post_mk hI hd ?_ trivial rfl rfl rfl <;> clear hI hd
    all_goals first | rfl | (refine scB ?_; first | (rw [memU_of (by omega) (by omega)]; done) | (rw [memU_not (by omega)]; done) | (unfold memU; grind))
set_option maxHeartbeats 1000000 in
set_option maxRecDepth 10000 in
theorem c_impl_IsNull (v : Int) : Pu Try.prog 68 [.c (.t none (.v (.int .i64 (v))))] [] 0 (.c (.t none (.v (.bool (decide (v < 0)))))) := by
  refine pu_enter Try.func68 rfl (Nat.le_of_ble_eq_true rfl) fun w S => ?_
  refine t_seq ?_
  refine t_region ?_
  refine r_op (o_assign rfl rfl) ?_
  refine r_end ?_
  refine t_seq ?_
  refine t_region ?_
  refine r_op (o_move rfl rfl) ?_
  refine r_op (o_bin rfl rfl rfl rfl) ?_
  refine r_op (o_assign rfl rfl) ?_
  refine r_end ?_
  refine t_ret Try.func68 (.tmp rfl .nil) rfl fun E S w u hI hd => ?_
  refine post_mk hI hd ?_ trivial rfl rfl rfl <;> clear hI hd
  all_goals first | rfl | (rfl)
set_option maxHeartbeats 1000000 in
set_option maxRecDepth 10000 in
theorem c_impl_Union (l : List Int) (a b : Int) (hl : l.length ≤ 1048576) (ho : ∀ x ∈ l, okI x) (ha : okI a) (hb : okI b) : Pu Try.prog 19 [.agg [.t none (.sl 1 encI (l))], .c (.t none (.v (.int .i64 (a)))), .c (.t none (.v (.int .i64 (b))))] [(2, some (.row none 3 true 1 encI (uniL l a b)))] 3 (.tup [(true, [.own 2]), (false, [.t none (.v (.int .i64 (uniC l a b)))])]) := by
  refine pu_enter Try.func19 rfl (Nat.le_of_ble_eq_true rfl) fun w S => ?_
  have ha1 := ha.1; have ha2 := ha.2; have hb1 := hb.1; have hb2 := hb.2
  refine t_seq ?_
  refine t_region ?_
  refine r_op (o_box 0 rfl rfl rfl rfl) ?_
  refine r_op (o_alloc 1 (zs := [.slice none 0 0]) rfl rfl (by kernel_rfl) rfl) ?_
  refine r_op (o_assign rfl rfl) ?_
  refine r_end ?_
  refine t_seq ?_
  refine t_region ?_
  refine r_op (o_fieldb rfl (off := 0) (by kernel_rfl) rfl) ?_
  refine r_op (o_load1b rfl (by kernel_rfl) rfl rfl rfl) ?_
  refine r_op (o_call 2 3 false (Go.Proofs.enters_of Try.func66 (by kernel_rfl) rfl) (c_slices_Clone___int_int_ (l) (by first | omega | assumption | (simp; omega))) rfl (.cons rfl (.c .t0) .nil) rfl rfl rfl) ?_
  refine r_op (o_build rfl (pl := [(0, 1)]) (zs := [.slice none 0 0]) (by kernel_rfl) (by kernel_rfl) rfl rfl rfl) ?_
  refine r_op (o_alloc 3 (zs := [.slice none 0 0]) rfl rfl (by kernel_rfl) rfl) ?_
  refine r_op (o_storeb (n := 1) (by kernel_rfl) rfl rfl rfl rfl rfl rfl) ?_
  refine r_end ?_
  refine t_seq ?_
  refine t_draw (fun _ => true) (by kernel_rfl) ?_
  refine d_take 0 rfl rfl (by kernel_rfl) (by kernel_rfl) (by kernel_rfl) (p_loadAb (n := 1) (by kernel_rfl) (by kernel_rfl) rfl rfl rfl) ?_
  refine d_take 1 rfl rfl (by kernel_rfl) (by kernel_rfl) (by kernel_rfl) (p_move rfl) ?_
  refine d_take 3 rfl rfl (by kernel_rfl) (by kernel_rfl) (by kernel_rfl) (p_loadAb (n := 1) (by kernel_rfl) (by kernel_rfl) rfl rfl rfl) ?_
  refine d_take 4 rfl rfl (by kernel_rfl) (by kernel_rfl) (by kernel_rfl) (p_move rfl) ?_
  refine d_only 2 rfl (by kernel_rfl) rfl (o_call 4 4 false (Go.Proofs.enters_of Try.func28 (by kernel_rfl) rfl) (c_impl_Find (l) (a) (by first | omega | assumption | (simp; omega)) (by first | omega | assumption | (simp; omega)) (by first | omega | assumption | (simp; omega))) rfl (.cons rfl (.agg (.cons .t0 .nil)) (.cons rfl (.c .t0) .nil)) rfl rfl rfl) ?_
  refine d_only 5 rfl (by kernel_rfl) rfl (o_call 4 4 false (Go.Proofs.enters_of Try.func28 (by kernel_rfl) rfl) (c_impl_Find (l) (b) (by first | omega | assumption | (simp; omega)) (by first | omega | assumption | (simp; omega)) (by first | omega | assumption | (simp; omega))) rfl (.cons rfl (.agg (.cons .t0 .nil)) (.cons rfl (.c .t0) .nil)) rfl rfl rfl) ?_
  refine d_take 6 rfl rfl (by kernel_rfl) (by kernel_rfl) (by kernel_rfl) (p_assign rfl) ?_
  refine d_take 7 rfl rfl (by kernel_rfl) (by kernel_rfl) (by kernel_rfl) (p_assign rfl) ?_
  refine d_end (by kernel_rfl) ?_
  refine t_seq ?_
  refine t_block ?_
  refine t_seq ?_
  refine t_region ?_
  refine r_op (o_loadAb rfl (n := 1) (by kernel_rfl) (by kernel_rfl) rfl rfl rfl) ?_
  refine r_op (o_call 4 4 false (Go.Proofs.enters_of Try.func35 (by kernel_rfl) rfl) (c_impl_IsValidUnionFind (l) (by first | omega | assumption | (simp; omega)) (by first | omega | assumption | (simp; omega))) rfl (.cons rfl (.agg (.cons .t0 .nil)) .nil) rfl rfl rfl) ?_
  refine r_op (o_not rfl rfl) ?_
  refine r_op (o_move rfl rfl) ?_
  refine r_guard rfl rfl rfl (fun g1 => ?_) (fun g1 => ?_)
  ·
    have g1' := g1
    try simp only [decide_eq_true_eq, decide_eq_false_iff_not, Bool.not_eq_true', Bool.not_eq_false', Bool.not_false, Bool.not_true] at g1'
    refine r_op (o_loadAb rfl (n := 1) (by kernel_rfl) (by kernel_rfl) rfl rfl rfl) ?_
    refine r_guard rfl rfl rfl (fun _ => ?_) (fun h' => (Bool.noConfusion (g1.symm.trans h')))
    refine r_op (o_move rfl rfl) ?_
    refine r_guard rfl rfl rfl (fun _ => ?_) (fun h' => (Bool.noConfusion (g1.symm.trans h')))
    refine r_op (o_call 4 4 false (Go.Proofs.enters_of Try.func67 (by kernel_rfl) rfl) (c_impl_isMember (l) (a) (by first | omega | assumption | (simp; omega)) (by first | omega | assumption | (simp; omega)) (by first | omega | assumption | (simp; omega))) rfl (.cons rfl (.agg (.cons .t0 .nil)) (.cons rfl (.c .t0) .nil)) rfl rfl rfl) ?_
    refine r_guard rfl rfl rfl (fun _ => ?_) (fun h' => (Bool.noConfusion (g1.symm.trans h')))
    refine r_op (o_not rfl rfl) ?_
    refine r_op (o_pickF rfl rfl g1 rfl) ?_
    refine r_op (o_move rfl rfl) ?_
    refine r_guard rfl rfl rfl (fun g2 => ?_) (fun g2 => ?_)
    ·
      have g2' := g2
      try simp only [decide_eq_true_eq, decide_eq_false_iff_not, Bool.not_eq_true', Bool.not_eq_false', Bool.not_false, Bool.not_true] at g2'
      refine r_op (o_loadAb rfl (n := 1) (by kernel_rfl) (by kernel_rfl) rfl rfl rfl) ?_
      refine r_guard rfl rfl rfl (fun _ => ?_) (fun h' => (Bool.noConfusion (g2.symm.trans h')))
      refine r_op (o_move rfl rfl) ?_
      refine r_guard rfl rfl rfl (fun _ => ?_) (fun h' => (Bool.noConfusion (g2.symm.trans h')))
      refine r_op (o_call 4 4 false (Go.Proofs.enters_of Try.func67 (by kernel_rfl) rfl) (c_impl_isMember (l) (b) (by first | omega | assumption | (simp; omega)) (by first | omega | assumption | (simp; omega)) (by first | omega | assumption | (simp; omega))) rfl (.cons rfl (.agg (.cons .t0 .nil)) (.cons rfl (.c .t0) .nil)) rfl rfl rfl) ?_
      refine r_guard rfl rfl rfl (fun _ => ?_) (fun h' => (Bool.noConfusion (g2.symm.trans h')))
      refine r_op (o_not rfl rfl) ?_
      refine r_op (o_pickF rfl rfl g2 rfl) ?_
      refine r_op (o_assign rfl rfl) ?_
      refine r_end ?_
      refine t_cond rfl (fun h3 => ?_) (fun h3 => ?_)
      ·
        have h3' := h3
        try simp only [decide_eq_true_eq, decide_eq_false_iff_not, Bool.not_eq_true', Bool.not_eq_false', Bool.not_false, Bool.not_true] at h3'
        refine t_seq ?_
        refine t_region ?_
        refine r_op (o_loadAb rfl (n := 1) (by kernel_rfl) (by kernel_rfl) rfl rfl rfl) ?_
        refine r_op (o_storeb (n := 1) (by kernel_rfl) rfl rfl rfl rfl rfl rfl) ?_
        refine r_op (o_assign rfl rfl) ?_
        refine r_end ?_
        refine t_ret Try.func19 (.cells (n := 1) (by kernel_rfl) (by kernel_rfl) rfl rfl rfl (.tmp rfl .nil)) rfl fun E S w u hI hd => ?_
        refine post_mk hI hd ?_ ⟨eqR ?_, trivial⟩ rfl rfl rfl <;> clear hI hd <;> (try clear ih0)
        all_goals first | rfl | (clear ho ha hb; first | ((have UC : uniC l a b = 2 := by (first | exact uniC_bad (.inl (by assumption)) | exact uniC_bad (.inr (.inl (by first | assumption | exact memU_not (by omega)))) | exact uniC_bad (.inr (.inr (by first | assumption | exact memU_not (by omega)))) | exact uniC_same (by assumption) (by first | assumption | exact memU_of (by omega) (by omega)) (by first | assumption | exact memU_of (by omega) (by omega)) (by omega) | exact uniC_const (by assumption) (by first | assumption | exact memU_of (by omega) (by omega)) (by first | assumption | exact memU_of (by omega) (by omega)) (by omega) (by omega) | exact uniC_done (by assumption) (by first | assumption | exact memU_of (by omega) (by omega)) (by first | assumption | exact memU_of (by omega) (by omega)) (by omega) (by omega))); first | exact tupU UC | exact uniL_keep UC (by decide)) | ((have UC : uniC l a b = 0 := by (first | exact uniC_bad (.inl (by assumption)) | exact uniC_bad (.inr (.inl (by first | assumption | exact memU_not (by omega)))) | exact uniC_bad (.inr (.inr (by first | assumption | exact memU_not (by omega)))) | exact uniC_same (by assumption) (by first | assumption | exact memU_of (by omega) (by omega)) (by first | assumption | exact memU_of (by omega) (by omega)) (by omega) | exact uniC_const (by assumption) (by first | assumption | exact memU_of (by omega) (by omega)) (by first | assumption | exact memU_of (by omega) (by omega)) (by omega) (by omega) | exact uniC_done (by assumption) (by first | assumption | exact memU_of (by omega) (by omega)) (by first | assumption | exact memU_of (by omega) (by omega)) (by omega) (by omega))); first | exact tupU UC | exact uniL_keep UC (by decide)) | ((have UC : uniC l a b = 1 := by (first | exact uniC_bad (.inl (by assumption)) | exact uniC_bad (.inr (.inl (by first | assumption | exact memU_not (by omega)))) | exact uniC_bad (.inr (.inr (by first | assumption | exact memU_not (by omega)))) | exact uniC_same (by assumption) (by first | assumption | exact memU_of (by omega) (by omega)) (by first | assumption | exact memU_of (by omega) (by omega)) (by omega) | exact uniC_const (by assumption) (by first | assumption | exact memU_of (by omega) (by omega)) (by first | assumption | exact memU_of (by omega) (by omega)) (by omega) (by omega) | exact uniC_done (by assumption) (by first | assumption | exact memU_of (by omega) (by omega)) (by first | assumption | exact memU_of (by omega) (by omega)) (by omega) (by omega))); first | exact tupU UC | exact uniL_done UC (by omega)))
      ·
        have h3' := h3
        try simp only [decide_eq_true_eq, decide_eq_false_iff_not, Bool.not_eq_true', Bool.not_eq_false', Bool.not_false, Bool.not_true] at h3'
        refine t_seq ?_
        refine t_region ?_
        refine r_op (o_move rfl rfl) ?_
        refine r_op (o_move rfl rfl) ?_
        refine r_op (o_bin rfl rfl rfl rfl) ?_
        refine r_op (o_assign rfl rfl) ?_
        refine r_end ?_
        refine t_cond rfl (fun h4 => ?_) (fun h4 => ?_)
        ·
          have h4' := h4
          try simp only [decide_eq_true_eq, decide_eq_false_iff_not, Bool.not_eq_true', Bool.not_eq_false', Bool.not_false, Bool.not_true] at h4'
          refine t_seq ?_
          refine t_region ?_
          refine r_op (o_loadAb rfl (n := 1) (by kernel_rfl) (by kernel_rfl) rfl rfl rfl) ?_
          refine r_op (o_storeb (n := 1) (by kernel_rfl) rfl rfl rfl rfl rfl rfl) ?_
          refine r_op (o_assign rfl rfl) ?_
          refine r_end ?_
          refine t_ret Try.func19 (.cells (n := 1) (by kernel_rfl) (by kernel_rfl) rfl rfl rfl (.tmp rfl .nil)) rfl fun E S w u hI hd => ?_
          refine post_mk hI hd ?_ ⟨eqR ?_, trivial⟩ rfl rfl rfl <;> clear hI hd <;> (try clear ih0)
          all_goals first | rfl | (clear ho ha hb; first | ((have UC : uniC l a b = 2 := by (first | exact uniC_bad (.inl (by assumption)) | exact uniC_bad (.inr (.inl (by first | assumption | exact memU_not (by omega)))) | exact uniC_bad (.inr (.inr (by first | assumption | exact memU_not (by omega)))) | exact uniC_same (by assumption) (by first | assumption | exact memU_of (by omega) (by omega)) (by first | assumption | exact memU_of (by omega) (by omega)) (by omega) | exact uniC_const (by assumption) (by first | assumption | exact memU_of (by omega) (by omega)) (by first | assumption | exact memU_of (by omega) (by omega)) (by omega) (by omega) | exact uniC_done (by assumption) (by first | assumption | exact memU_of (by omega) (by omega)) (by first | assumption | exact memU_of (by omega) (by omega)) (by omega) (by omega))); first | exact tupU UC | exact uniL_keep UC (by decide)) | ((have UC : uniC l a b = 0 := by (first | exact uniC_bad (.inl (by assumption)) | exact uniC_bad (.inr (.inl (by first | assumption | exact memU_not (by omega)))) | exact uniC_bad (.inr (.inr (by first | assumption | exact memU_not (by omega)))) | exact uniC_same (by assumption) (by first | assumption | exact memU_of (by omega) (by omega)) (by first | assumption | exact memU_of (by omega) (by omega)) (by omega) | exact uniC_const (by assumption) (by first | assumption | exact memU_of (by omega) (by omega)) (by first | assumption | exact memU_of (by omega) (by omega)) (by omega) (by omega) | exact uniC_done (by assumption) (by first | assumption | exact memU_of (by omega) (by omega)) (by first | assumption | exact memU_of (by omega) (by omega)) (by omega) (by omega))); first | exact tupU UC | exact uniL_keep UC (by decide)) | ((have UC : uniC l a b = 1 := by (first | exact uniC_bad (.inl (by assumption)) | exact uniC_bad (.inr (.inl (by first | assumption | exact memU_not (by omega)))) | exact uniC_bad (.inr (.inr (by first | assumption | exact memU_not (by omega)))) | exact uniC_same (by assumption) (by first | assumption | exact memU_of (by omega) (by omega)) (by first | assumption | exact memU_of (by omega) (by omega)) (by omega) | exact uniC_const (by assumption) (by first | assumption | exact memU_of (by omega) (by omega)) (by first | assumption | exact memU_of (by omega) (by omega)) (by omega) (by omega) | exact uniC_done (by assumption) (by first | assumption | exact memU_of (by omega) (by omega)) (by first | assumption | exact memU_of (by omega) (by omega)) (by omega) (by omega))); first | exact tupU UC | exact uniL_done UC (by omega)))
        ·
          have h4' := h4
          try simp only [decide_eq_true_eq, decide_eq_false_iff_not, Bool.not_eq_true', Bool.not_eq_false', Bool.not_false, Bool.not_true] at h4'
          refine t_seq ?_
          refine t_region ?_
          refine r_op (o_move rfl rfl) ?_
          refine r_op (o_call 4 4 false (Go.Proofs.enters_of Try.func68 (by kernel_rfl) rfl) (c_impl_IsNull (findU (l) (a))) rfl (.cons rfl (.c .t0) .nil) rfl rfl rfl) ?_
          refine r_op (o_not rfl rfl) ?_
          refine r_op (o_move rfl rfl) ?_
          refine r_guard rfl rfl rfl (fun g5 => ?_) (fun g5 => ?_)
          ·
            have g5' := g5
            try simp only [decide_eq_true_eq, decide_eq_false_iff_not, Bool.not_eq_true', Bool.not_eq_false', Bool.not_false, Bool.not_true] at g5'
            refine r_op (o_move rfl rfl) ?_
            refine r_guard rfl rfl rfl (fun _ => ?_) (fun h' => (Bool.noConfusion (g5.symm.trans h')))
            refine r_op (o_call 4 4 false (Go.Proofs.enters_of Try.func68 (by kernel_rfl) rfl) (c_impl_IsNull (findU (l) (b))) rfl (.cons rfl (.c .t0) .nil) rfl rfl rfl) ?_
            refine r_guard rfl rfl rfl (fun _ => ?_) (fun h' => (Bool.noConfusion (g5.symm.trans h')))
            refine r_op (o_not rfl rfl) ?_
            refine r_op (o_pickT rfl rfl g5 rfl) ?_
            refine r_op (o_assign rfl rfl) ?_
            refine r_end ?_
            refine t_cond rfl (fun h6 => ?_) (fun h6 => ?_)
            ·
              have h6' := h6
              try simp only [decide_eq_true_eq, decide_eq_false_iff_not, Bool.not_eq_true', Bool.not_eq_false', Bool.not_false, Bool.not_true] at h6'
              refine t_seq ?_
              refine t_region ?_
              refine r_op (o_loadAb rfl (n := 1) (by kernel_rfl) (by kernel_rfl) rfl rfl rfl) ?_
              refine r_op (o_storeb (n := 1) (by kernel_rfl) rfl rfl rfl rfl rfl rfl) ?_
              refine r_op (o_assign rfl rfl) ?_
              refine r_end ?_
              refine t_ret Try.func19 (.cells (n := 1) (by kernel_rfl) (by kernel_rfl) rfl rfl rfl (.tmp rfl .nil)) rfl fun E S w u hI hd => ?_
              refine post_mk hI hd ?_ ⟨eqR ?_, trivial⟩ rfl rfl rfl <;> clear hI hd <;> (try clear ih0)
              all_goals first | rfl | (clear ho ha hb; first | ((have UC : uniC l a b = 2 := by (first | exact uniC_bad (.inl (by assumption)) | exact uniC_bad (.inr (.inl (by first | assumption | exact memU_not (by omega)))) | exact uniC_bad (.inr (.inr (by first | assumption | exact memU_not (by omega)))) | exact uniC_same (by assumption) (by first | assumption | exact memU_of (by omega) (by omega)) (by first | assumption | exact memU_of (by omega) (by omega)) (by omega) | exact uniC_const (by assumption) (by first | assumption | exact memU_of (by omega) (by omega)) (by first | assumption | exact memU_of (by omega) (by omega)) (by omega) (by omega) | exact uniC_done (by assumption) (by first | assumption | exact memU_of (by omega) (by omega)) (by first | assumption | exact memU_of (by omega) (by omega)) (by omega) (by omega))); first | exact tupU UC | exact uniL_keep UC (by decide)) | ((have UC : uniC l a b = 0 := by (first | exact uniC_bad (.inl (by assumption)) | exact uniC_bad (.inr (.inl (by first | assumption | exact memU_not (by omega)))) | exact uniC_bad (.inr (.inr (by first | assumption | exact memU_not (by omega)))) | exact uniC_same (by assumption) (by first | assumption | exact memU_of (by omega) (by omega)) (by first | assumption | exact memU_of (by omega) (by omega)) (by omega) | exact uniC_const (by assumption) (by first | assumption | exact memU_of (by omega) (by omega)) (by first | assumption | exact memU_of (by omega) (by omega)) (by omega) (by omega) | exact uniC_done (by assumption) (by first | assumption | exact memU_of (by omega) (by omega)) (by first | assumption | exact memU_of (by omega) (by omega)) (by omega) (by omega))); first | exact tupU UC | exact uniL_keep UC (by decide)) | ((have UC : uniC l a b = 1 := by (first | exact uniC_bad (.inl (by assumption)) | exact uniC_bad (.inr (.inl (by first | assumption | exact memU_not (by omega)))) | exact uniC_bad (.inr (.inr (by first | assumption | exact memU_not (by omega)))) | exact uniC_same (by assumption) (by first | assumption | exact memU_of (by omega) (by omega)) (by first | assumption | exact memU_of (by omega) (by omega)) (by omega) | exact uniC_const (by assumption) (by first | assumption | exact memU_of (by omega) (by omega)) (by first | assumption | exact memU_of (by omega) (by omega)) (by omega) (by omega) | exact uniC_done (by assumption) (by first | assumption | exact memU_of (by omega) (by omega)) (by first | assumption | exact memU_of (by omega) (by omega)) (by omega) (by omega))); first | exact tupU UC | exact uniL_done UC (by omega)))
            ·
              have h6' := h6
              try simp only [decide_eq_true_eq, decide_eq_false_iff_not, Bool.not_eq_true', Bool.not_eq_false', Bool.not_false, Bool.not_true] at h6'
              refine t_skip ?_
              refine t_endblock ?_
              refine t_seq ?_
              refine t_region ?_
              refine r_op (o_move rfl rfl) ?_
              refine r_op (o_move rfl rfl) ?_
              refine r_op (o_min rfl rfl rfl) ?_
              refine r_op (o_move rfl rfl) ?_
              refine r_op (o_move rfl rfl) ?_
              refine r_op (o_max rfl rfl rfl) ?_
              refine r_op (o_assign rfl rfl) ?_
              refine r_op (o_assign rfl rfl) ?_
              refine r_end ?_
              refine t_seq ?_
              refine t_seq ?_
              refine t_region ?_
              refine r_op (o_fieldb rfl (off := 0) (by kernel_rfl) rfl) ?_
              refine r_op (o_load1b rfl (by kernel_rfl) rfl rfl rfl) ?_
              refine r_op (o_leno rfl rfl rfl rfl) ?_
              refine r_op (o_move rfl rfl) ?_
              refine r_end ?_
              refine t_block ?_
              refine t_loopL (fun m => ⟨[(6, some (.c (.ptr 1 0))), (7, some (.c (.t none (.v (.int .i64 (0)))))), (8, some (.c (.ptr 3 0))), (11, some (.c (.t none (.v (.int .i64 (if (findU (l) (b)) < (findU (l) (a)) then (findU (l) (b)) else (findU (l) (a)))))))), (12, some (.c (.t none (.v (.int .i64 (if (findU (l) (a)) < (findU (l) (b)) then (findU (l) (b)) else (findU (l) (a)))))))), (64, some (.c (.own 2))), (65, some (.c (.t none (.v (.int .i64 ((((l)).length : Int))))))), (66, some (.c (.t none (.v (.int .i64 ((m : Int)))))))], [(0, some (.box [.t none (.sl 1 encI (l))])), (1, some (.box [.t none (.v (.slice none 0 0))])), (2, some (.row none 3 true 1 encI ((l.take m).map (repU (findU l a) (findU l b)) ++ l.drop m))), (3, some (.box [.own 2]))], 4⟩ : Nat → St) (fun m => m ≤ l.length) (fun m => l.length - m) 0 ⟨⟨rfl, ⟨rfl, ⟨rfl, ⟨rfl, ⟨rfl, ⟨rfl, ⟨rfl, ⟨rfl, trivial⟩⟩⟩⟩⟩⟩⟩⟩, ⟨rfl, ⟨rfl, ⟨(eqR (by simp)), ⟨rfl, trivial⟩⟩⟩⟩, rfl⟩ (by exact Nat.zero_le _) ?_
              rintro m hI ih0
              try dsimp only at hI ih0
              have i1 := hI; have hlen : ((l.take m).map (repU (findU l a) (findU l b)) ++ l.drop m).length = l.length := by (simp; omega)
              refine t_seq ?_
              refine t_region ?_
              refine r_op (o_bin rfl rfl rfl rfl) ?_
              refine r_end ?_
              refine t_seq ?_
              refine t_cond rfl (fun h7 => ?_) (fun h7 => ?_)
              ·
                have h7' := h7
                try simp only [decide_eq_true_eq, decide_eq_false_iff_not, Bool.not_eq_true', Bool.not_eq_false', Bool.not_false, Bool.not_true] at h7'
                refine t_skip ?_
                refine t_seq ?_
                refine t_block ?_
                refine t_seq ?_
                refine t_region ?_
                refine r_op (o_move rfl rfl) ?_
                obtain ⟨z8, hz9, b10⟩ := at_get (xs := (l.take m).map (repU (findU l a) (findU l b)) ++ l.drop m) (n := (m : Int)) (by first | omega | assumption | (simp; omega)) (by first | omega | assumption | (simp; omega))
                refine r_op (o_indexo rfl (by kernel_rfl) rfl rfl rfl b10 (at_lt b10 hz9)) ?_
                refine r_op (o_load1o rfl (by kernel_rfl) rfl rfl rfl hz9) ?_
                refine r_op (o_assign rfl rfl) ?_
                refine r_op (o_assign rfl rfl) ?_
                refine r_end ?_
                refine t_seq ?_
                refine t_region ?_
                refine r_op (o_move rfl rfl) ?_
                refine r_op (o_move rfl rfl) ?_
                refine r_op (o_bin rfl rfl rfl rfl) ?_
                refine r_end ?_
                refine t_cond rfl (fun h11 => ?_) (fun h11 => ?_)
                ·
                  have h11' := h11
                  try simp only [decide_eq_true_eq, decide_eq_false_iff_not, Bool.not_eq_true', Bool.not_eq_false', Bool.not_false, Bool.not_true] at h11'
                  refine t_region ?_
                  refine r_op (o_fieldb rfl (off := 0) (by kernel_rfl) rfl) ?_
                  refine r_op (o_load1b rfl (by kernel_rfl) rfl rfl rfl) ?_
                  refine r_op (o_move rfl rfl) ?_
                  refine r_op (o_move rfl rfl) ?_
                  refine r_op (o_indexo rfl (by kernel_rfl) rfl rfl rfl b10 (at_lt b10 hz9)) ?_
                  refine r_op (o_storeo (if (findU (l) (a)) < (findU (l) (b)) then (findU (l) (b)) else (findU (l) (a))) (n := 1) (by kernel_rfl) rfl rfl hz9 rfl rfl rfl rfl (.cons .sc .nil) rfl (fun j h1 h2 => by simp at h1 h2; omega)) ?_
                  refine r_end ?_
                  refine t_endblock ?_
                  refine t_region ?_
                  refine r_op (o_bin rfl rfl rfl rfl) ?_
                  refine r_op (o_move rfl rfl) ?_
                  refine r_end ?_
                  refine t_le ?_ (ih0 (m + 1) (by (try dsimp only); omega) (by (try dsimp only); omega))
                  exact ⟨⟨rfl, ⟨rfl, ⟨rfl, ⟨rfl, ⟨rfl, ⟨rfl, ⟨rfl, ⟨(eqI (wr64 (by omega) (by omega))), trivial⟩⟩⟩⟩⟩⟩⟩⟩, ⟨rfl, ⟨rfl, ⟨(eqR (by have ma := map_at (l := l) (m := m) hz9 i1; first | exact map_set (f := repU (findU l a) (findU l b)) ma (repU_hit (by assumption)) | exact map_skip (f := repU (findU l a) (findU l b)) ma (repU_miss (by assumption)))), ⟨rfl, trivial⟩⟩⟩⟩, rfl⟩
                ·
                  have h11' := h11
                  try simp only [decide_eq_true_eq, decide_eq_false_iff_not, Bool.not_eq_true', Bool.not_eq_false', Bool.not_false, Bool.not_true] at h11'
                  refine t_skip ?_
                  refine t_endblock ?_
                  refine t_region ?_
                  refine r_op (o_bin rfl rfl rfl rfl) ?_
                  refine r_op (o_move rfl rfl) ?_
                  refine r_end ?_
                  refine t_le ?_ (ih0 (m + 1) (by (try dsimp only); omega) (by (try dsimp only); omega))
                  exact ⟨⟨rfl, ⟨rfl, ⟨rfl, ⟨rfl, ⟨rfl, ⟨rfl, ⟨rfl, ⟨(eqI (wr64 (by omega) (by omega))), trivial⟩⟩⟩⟩⟩⟩⟩⟩, ⟨rfl, ⟨rfl, ⟨(eqR (by have ma := map_at (l := l) (m := m) hz9 i1; first | exact map_set (f := repU (findU l a) (findU l b)) ma (repU_hit (by assumption)) | exact map_skip (f := repU (findU l a) (findU l b)) ma (repU_miss (by assumption)))), ⟨rfl, trivial⟩⟩⟩⟩, rfl⟩
              ·
                have h7' := h7
                try simp only [decide_eq_true_eq, decide_eq_false_iff_not, Bool.not_eq_true', Bool.not_eq_false', Bool.not_false, Bool.not_true] at h7'
                refine t_exit rfl ?_
                refine t_seq ?_
                refine t_region ?_
                refine r_op (o_loadAb rfl (n := 1) (by kernel_rfl) (by kernel_rfl) rfl rfl rfl) ?_
                refine r_op (o_storeb (n := 1) (by kernel_rfl) rfl rfl rfl rfl rfl rfl) ?_
                refine r_op (o_assign rfl rfl) ?_
                refine r_end ?_
                refine t_ret Try.func19 (.cells (n := 1) (by kernel_rfl) (by kernel_rfl) rfl rfl rfl (.tmp rfl .nil)) rfl fun E S w u hI hd => ?_
                refine post_mk hI hd ?_ ⟨eqR ?_, trivial⟩ rfl rfl rfl <;> clear hI hd <;> (try clear ih0)
                all_goals first | rfl | (clear ho ha hb; first | ((have UC : uniC l a b = 2 := by (first | exact uniC_bad (.inl (by assumption)) | exact uniC_bad (.inr (.inl (by first | assumption | exact memU_not (by omega)))) | exact uniC_bad (.inr (.inr (by first | assumption | exact memU_not (by omega)))) | exact uniC_same (by assumption) (by first | assumption | exact memU_of (by omega) (by omega)) (by first | assumption | exact memU_of (by omega) (by omega)) (by omega) | exact uniC_const (by assumption) (by first | assumption | exact memU_of (by omega) (by omega)) (by first | assumption | exact memU_of (by omega) (by omega)) (by omega) (by omega) | exact uniC_done (by assumption) (by first | assumption | exact memU_of (by omega) (by omega)) (by first | assumption | exact memU_of (by omega) (by omega)) (by omega) (by omega))); first | exact tupU UC | exact uniL_keep UC (by decide)) | ((have UC : uniC l a b = 0 := by (first | exact uniC_bad (.inl (by assumption)) | exact uniC_bad (.inr (.inl (by first | assumption | exact memU_not (by omega)))) | exact uniC_bad (.inr (.inr (by first | assumption | exact memU_not (by omega)))) | exact uniC_same (by assumption) (by first | assumption | exact memU_of (by omega) (by omega)) (by first | assumption | exact memU_of (by omega) (by omega)) (by omega) | exact uniC_const (by assumption) (by first | assumption | exact memU_of (by omega) (by omega)) (by first | assumption | exact memU_of (by omega) (by omega)) (by omega) (by omega) | exact uniC_done (by assumption) (by first | assumption | exact memU_of (by omega) (by omega)) (by first | assumption | exact memU_of (by omega) (by omega)) (by omega) (by omega))); first | exact tupU UC | exact uniL_keep UC (by decide)) | ((have UC : uniC l a b = 1 := by (first | exact uniC_bad (.inl (by assumption)) | exact uniC_bad (.inr (.inl (by first | assumption | exact memU_not (by omega)))) | exact uniC_bad (.inr (.inr (by first | assumption | exact memU_not (by omega)))) | exact uniC_same (by assumption) (by first | assumption | exact memU_of (by omega) (by omega)) (by first | assumption | exact memU_of (by omega) (by omega)) (by omega) | exact uniC_const (by assumption) (by first | assumption | exact memU_of (by omega) (by omega)) (by first | assumption | exact memU_of (by omega) (by omega)) (by omega) (by omega) | exact uniC_done (by assumption) (by first | assumption | exact memU_of (by omega) (by omega)) (by first | assumption | exact memU_of (by omega) (by omega)) (by omega) (by omega))); first | exact tupU UC | exact uniL_done UC (by omega)))
          ·
            have g5' := g5
            try simp only [decide_eq_true_eq, decide_eq_false_iff_not, Bool.not_eq_true', Bool.not_eq_false', Bool.not_false, Bool.not_true] at g5'
            refine r_guard rfl rfl rfl (fun h' => (Bool.noConfusion (g5.symm.trans h'))) (fun _ => ?_)
            refine r_guard rfl rfl rfl (fun h' => (Bool.noConfusion (g5.symm.trans h'))) (fun _ => ?_)
            refine r_op (o_pickF rfl rfl g5 rfl) ?_
            refine r_op (o_assign rfl rfl) ?_
            refine r_end ?_
            refine t_cond rfl (fun h' => Bool.noConfusion (rfl.symm.trans h')) (fun _ => ?_)
            refine t_skip ?_
            refine t_endblock ?_
            refine t_seq ?_
            refine t_region ?_
            refine r_op (o_move rfl rfl) ?_
            refine r_op (o_move rfl rfl) ?_
            refine r_op (o_min rfl rfl rfl) ?_
            refine r_op (o_move rfl rfl) ?_
            refine r_op (o_move rfl rfl) ?_
            refine r_op (o_max rfl rfl rfl) ?_
            refine r_op (o_assign rfl rfl) ?_
            refine r_op (o_assign rfl rfl) ?_
            refine r_end ?_
            refine t_seq ?_
            refine t_seq ?_
            refine t_region ?_
            refine r_op (o_fieldb rfl (off := 0) (by kernel_rfl) rfl) ?_
            refine r_op (o_load1b rfl (by kernel_rfl) rfl rfl rfl) ?_
            refine r_op (o_leno rfl rfl rfl rfl) ?_
            refine r_op (o_move rfl rfl) ?_
            refine r_end ?_
            refine t_block ?_
            refine t_loopL (fun m => ⟨[(6, some (.c (.ptr 1 0))), (7, some (.c (.t none (.v (.int .i64 (0)))))), (8, some (.c (.ptr 3 0))), (11, some (.c (.t none (.v (.int .i64 (if (findU (l) (b)) < (findU (l) (a)) then (findU (l) (b)) else (findU (l) (a)))))))), (12, some (.c (.t none (.v (.int .i64 (if (findU (l) (a)) < (findU (l) (b)) then (findU (l) (b)) else (findU (l) (a)))))))), (64, some (.c (.own 2))), (65, some (.c (.t none (.v (.int .i64 ((((l)).length : Int))))))), (66, some (.c (.t none (.v (.int .i64 ((m : Int)))))))], [(0, some (.box [.t none (.sl 1 encI (l))])), (1, some (.box [.t none (.v (.slice none 0 0))])), (2, some (.row none 3 true 1 encI ((l.take m).map (repU (findU l a) (findU l b)) ++ l.drop m))), (3, some (.box [.own 2]))], 4⟩ : Nat → St) (fun m => m ≤ l.length) (fun m => l.length - m) 0 ⟨⟨rfl, ⟨rfl, ⟨rfl, ⟨rfl, ⟨rfl, ⟨rfl, ⟨rfl, ⟨rfl, trivial⟩⟩⟩⟩⟩⟩⟩⟩, ⟨rfl, ⟨rfl, ⟨(eqR (by simp)), ⟨rfl, trivial⟩⟩⟩⟩, rfl⟩ (by exact Nat.zero_le _) ?_
            rintro m hI ih0
            try dsimp only at hI ih0
            have i1 := hI; have hlen : ((l.take m).map (repU (findU l a) (findU l b)) ++ l.drop m).length = l.length := by (simp; omega)
            refine t_seq ?_
            refine t_region ?_
            refine r_op (o_bin rfl rfl rfl rfl) ?_
            refine r_end ?_
            refine t_seq ?_
            refine t_cond rfl (fun h12 => ?_) (fun h12 => ?_)
            ·
              have h12' := h12
              try simp only [decide_eq_true_eq, decide_eq_false_iff_not, Bool.not_eq_true', Bool.not_eq_false', Bool.not_false, Bool.not_true] at h12'
              refine t_skip ?_
              refine t_seq ?_
              refine t_block ?_
              refine t_seq ?_
              refine t_region ?_
              refine r_op (o_move rfl rfl) ?_
              obtain ⟨z13, hz14, b15⟩ := at_get (xs := (l.take m).map (repU (findU l a) (findU l b)) ++ l.drop m) (n := (m : Int)) (by first | omega | assumption | (simp; omega)) (by first | omega | assumption | (simp; omega))
              refine r_op (o_indexo rfl (by kernel_rfl) rfl rfl rfl b15 (at_lt b15 hz14)) ?_
              refine r_op (o_load1o rfl (by kernel_rfl) rfl rfl rfl hz14) ?_
              refine r_op (o_assign rfl rfl) ?_
              refine r_op (o_assign rfl rfl) ?_
              refine r_end ?_
              refine t_seq ?_
              refine t_region ?_
              refine r_op (o_move rfl rfl) ?_
              refine r_op (o_move rfl rfl) ?_
              refine r_op (o_bin rfl rfl rfl rfl) ?_
              refine r_end ?_
              refine t_cond rfl (fun h16 => ?_) (fun h16 => ?_)
              ·
                have h16' := h16
                try simp only [decide_eq_true_eq, decide_eq_false_iff_not, Bool.not_eq_true', Bool.not_eq_false', Bool.not_false, Bool.not_true] at h16'
                refine t_region ?_
                refine r_op (o_fieldb rfl (off := 0) (by kernel_rfl) rfl) ?_
                refine r_op (o_load1b rfl (by kernel_rfl) rfl rfl rfl) ?_
                refine r_op (o_move rfl rfl) ?_
                refine r_op (o_move rfl rfl) ?_
                refine r_op (o_indexo rfl (by kernel_rfl) rfl rfl rfl b15 (at_lt b15 hz14)) ?_
                refine r_op (o_storeo (if (findU (l) (a)) < (findU (l) (b)) then (findU (l) (b)) else (findU (l) (a))) (n := 1) (by kernel_rfl) rfl rfl hz14 rfl rfl rfl rfl (.cons .sc .nil) rfl (fun j h1 h2 => by simp at h1 h2; omega)) ?_
                refine r_end ?_
                refine t_endblock ?_
                refine t_region ?_
                refine r_op (o_bin rfl rfl rfl rfl) ?_
                refine r_op (o_move rfl rfl) ?_
                refine r_end ?_
                refine t_le ?_ (ih0 (m + 1) (by (try dsimp only); omega) (by (try dsimp only); omega))
                exact ⟨⟨rfl, ⟨rfl, ⟨rfl, ⟨rfl, ⟨rfl, ⟨rfl, ⟨rfl, ⟨(eqI (wr64 (by omega) (by omega))), trivial⟩⟩⟩⟩⟩⟩⟩⟩, ⟨rfl, ⟨rfl, ⟨(eqR (by have ma := map_at (l := l) (m := m) hz14 i1; first | exact map_set (f := repU (findU l a) (findU l b)) ma (repU_hit (by assumption)) | exact map_skip (f := repU (findU l a) (findU l b)) ma (repU_miss (by assumption)))), ⟨rfl, trivial⟩⟩⟩⟩, rfl⟩
              ·
                have h16' := h16
                try simp only [decide_eq_true_eq, decide_eq_false_iff_not, Bool.not_eq_true', Bool.not_eq_false', Bool.not_false, Bool.not_true] at h16'
                refine t_skip ?_
                refine t_endblock ?_
                refine t_region ?_
                refine r_op (o_bin rfl rfl rfl rfl) ?_
                refine r_op (o_move rfl rfl) ?_
                refine r_end ?_
                refine t_le ?_ (ih0 (m + 1) (by (try dsimp only); omega) (by (try dsimp only); omega))
                exact ⟨⟨rfl, ⟨rfl, ⟨rfl, ⟨rfl, ⟨rfl, ⟨rfl, ⟨rfl, ⟨(eqI (wr64 (by omega) (by omega))), trivial⟩⟩⟩⟩⟩⟩⟩⟩, ⟨rfl, ⟨rfl, ⟨(eqR (by have ma := map_at (l := l) (m := m) hz14 i1; first | exact map_set (f := repU (findU l a) (findU l b)) ma (repU_hit (by assumption)) | exact map_skip (f := repU (findU l a) (findU l b)) ma (repU_miss (by assumption)))), ⟨rfl, trivial⟩⟩⟩⟩, rfl⟩
            ·
              have h12' := h12
              try simp only [decide_eq_true_eq, decide_eq_false_iff_not, Bool.not_eq_true', Bool.not_eq_false', Bool.not_false, Bool.not_true] at h12'
              refine t_exit rfl ?_
              refine t_seq ?_
              refine t_region ?_
              refine r_op (o_loadAb rfl (n := 1) (by kernel_rfl) (by kernel_rfl) rfl rfl rfl) ?_
              refine r_op (o_storeb (n := 1) (by kernel_rfl) rfl rfl rfl rfl rfl rfl) ?_
              refine r_op (o_assign rfl rfl) ?_
              refine r_end ?_
              refine t_ret Try.func19 (.cells (n := 1) (by kernel_rfl) (by kernel_rfl) rfl rfl rfl (.tmp rfl .nil)) rfl fun E S w u hI hd => ?_
              refine post_mk hI hd ?_ ⟨eqR ?_, trivial⟩ rfl rfl rfl <;> clear hI hd <;> (try clear ih0)
              all_goals first | rfl | (clear ho ha hb; first | ((have UC : uniC l a b = 2 := by (first | exact uniC_bad (.inl (by assumption)) | exact uniC_bad (.inr (.inl (by first | assumption | exact memU_not (by omega)))) | exact uniC_bad (.inr (.inr (by first | assumption | exact memU_not (by omega)))) | exact uniC_same (by assumption) (by first | assumption | exact memU_of (by omega) (by omega)) (by first | assumption | exact memU_of (by omega) (by omega)) (by omega) | exact uniC_const (by assumption) (by first | assumption | exact memU_of (by omega) (by omega)) (by first | assumption | exact memU_of (by omega) (by omega)) (by omega) (by omega) | exact uniC_done (by assumption) (by first | assumption | exact memU_of (by omega) (by omega)) (by first | assumption | exact memU_of (by omega) (by omega)) (by omega) (by omega))); first | exact tupU UC | exact uniL_keep UC (by decide)) | ((have UC : uniC l a b = 0 := by (first | exact uniC_bad (.inl (by assumption)) | exact uniC_bad (.inr (.inl (by first | assumption | exact memU_not (by omega)))) | exact uniC_bad (.inr (.inr (by first | assumption | exact memU_not (by omega)))) | exact uniC_same (by assumption) (by first | assumption | exact memU_of (by omega) (by omega)) (by first | assumption | exact memU_of (by omega) (by omega)) (by omega) | exact uniC_const (by assumption) (by first | assumption | exact memU_of (by omega) (by omega)) (by first | assumption | exact memU_of (by omega) (by omega)) (by omega) (by omega) | exact uniC_done (by assumption) (by first | assumption | exact memU_of (by omega) (by omega)) (by first | assumption | exact memU_of (by omega) (by omega)) (by omega) (by omega))); first | exact tupU UC | exact uniL_keep UC (by decide)) | ((have UC : uniC l a b = 1 := by (first | exact uniC_bad (.inl (by assumption)) | exact uniC_bad (.inr (.inl (by first | assumption | exact memU_not (by omega)))) | exact uniC_bad (.inr (.inr (by first | assumption | exact memU_not (by omega)))) | exact uniC_same (by assumption) (by first | assumption | exact memU_of (by omega) (by omega)) (by first | assumption | exact memU_of (by omega) (by omega)) (by omega) | exact uniC_const (by assumption) (by first | assumption | exact memU_of (by omega) (by omega)) (by first | assumption | exact memU_of (by omega) (by omega)) (by omega) (by omega) | exact uniC_done (by assumption) (by first | assumption | exact memU_of (by omega) (by omega)) (by first | assumption | exact memU_of (by omega) (by omega)) (by omega) (by omega))); first | exact tupU UC | exact uniL_done UC (by omega)))
    ·
      have g2' := g2
      try simp only [decide_eq_true_eq, decide_eq_false_iff_not, Bool.not_eq_true', Bool.not_eq_false', Bool.not_false, Bool.not_true] at g2'
      refine r_guard rfl rfl rfl (fun h' => (Bool.noConfusion (g2.symm.trans h'))) (fun _ => ?_)
      refine r_guard rfl rfl rfl (fun h' => (Bool.noConfusion (g2.symm.trans h'))) (fun _ => ?_)
      refine r_guard rfl rfl rfl (fun h' => (Bool.noConfusion (g2.symm.trans h'))) (fun _ => ?_)
      refine r_op (o_pickT rfl rfl g2 rfl) ?_
      refine r_op (o_assign rfl rfl) ?_
      refine r_end ?_
      refine t_cond rfl (fun _ => ?_) (fun h' => Bool.noConfusion (rfl.symm.trans h'))
      refine t_seq ?_
      refine t_region ?_
      refine r_op (o_loadAb rfl (n := 1) (by kernel_rfl) (by kernel_rfl) rfl rfl rfl) ?_
      refine r_op (o_storeb (n := 1) (by kernel_rfl) rfl rfl rfl rfl rfl rfl) ?_
      refine r_op (o_assign rfl rfl) ?_
      refine r_end ?_
      refine t_ret Try.func19 (.cells (n := 1) (by kernel_rfl) (by kernel_rfl) rfl rfl rfl (.tmp rfl .nil)) rfl fun E S w u hI hd => ?_
      refine post_mk hI hd ?_ ⟨eqR ?_, trivial⟩ rfl rfl rfl <;> clear hI hd <;> (try clear ih0)
      all_goals first | rfl | (clear ho ha hb; first | ((have UC : uniC l a b = 2 := by (first | exact uniC_bad (.inl (by assumption)) | exact uniC_bad (.inr (.inl (by first | assumption | exact memU_not (by omega)))) | exact uniC_bad (.inr (.inr (by first | assumption | exact memU_not (by omega)))) | exact uniC_same (by assumption) (by first | assumption | exact memU_of (by omega) (by omega)) (by first | assumption | exact memU_of (by omega) (by omega)) (by omega) | exact uniC_const (by assumption) (by first | assumption | exact memU_of (by omega) (by omega)) (by first | assumption | exact memU_of (by omega) (by omega)) (by omega) (by omega) | exact uniC_done (by assumption) (by first | assumption | exact memU_of (by omega) (by omega)) (by first | assumption | exact memU_of (by omega) (by omega)) (by omega) (by omega))); first | exact tupU UC | exact uniL_keep UC (by decide)) | ((have UC : uniC l a b = 0 := by (first | exact uniC_bad (.inl (by assumption)) | exact uniC_bad (.inr (.inl (by first | assumption | exact memU_not (by omega)))) | exact uniC_bad (.inr (.inr (by first | assumption | exact memU_not (by omega)))) | exact uniC_same (by assumption) (by first | assumption | exact memU_of (by omega) (by omega)) (by first | assumption | exact memU_of (by omega) (by omega)) (by omega) | exact uniC_const (by assumption) (by first | assumption | exact memU_of (by omega) (by omega)) (by first | assumption | exact memU_of (by omega) (by omega)) (by omega) (by omega) | exact uniC_done (by assumption) (by first | assumption | exact memU_of (by omega) (by omega)) (by first | assumption | exact memU_of (by omega) (by omega)) (by omega) (by omega))); first | exact tupU UC | exact uniL_keep UC (by decide)) | ((have UC : uniC l a b = 1 := by (first | exact uniC_bad (.inl (by assumption)) | exact uniC_bad (.inr (.inl (by first | assumption | exact memU_not (by omega)))) | exact uniC_bad (.inr (.inr (by first | assumption | exact memU_not (by omega)))) | exact uniC_same (by assumption) (by first | assumption | exact memU_of (by omega) (by omega)) (by first | assumption | exact memU_of (by omega) (by omega)) (by omega) | exact uniC_const (by assumption) (by first | assumption | exact memU_of (by omega) (by omega)) (by first | assumption | exact memU_of (by omega) (by omega)) (by omega) (by omega) | exact uniC_done (by assumption) (by first | assumption | exact memU_of (by omega) (by omega)) (by first | assumption | exact memU_of (by omega) (by omega)) (by omega) (by omega))); first | exact tupU UC | exact uniL_done UC (by omega)))
  ·
    have g1' := g1
    try simp only [decide_eq_true_eq, decide_eq_false_iff_not, Bool.not_eq_true', Bool.not_eq_false', Bool.not_false, Bool.not_true] at g1'
    refine r_guard rfl rfl rfl (fun h' => (Bool.noConfusion (g1.symm.trans h'))) (fun _ => ?_)
    refine r_guard rfl rfl rfl (fun h' => (Bool.noConfusion (g1.symm.trans h'))) (fun _ => ?_)
    refine r_guard rfl rfl rfl (fun h' => (Bool.noConfusion (g1.symm.trans h'))) (fun _ => ?_)
    refine r_op (o_pickT rfl rfl g1 rfl) ?_
    refine r_op (o_move rfl rfl) ?_
    refine r_guard rfl rfl rfl (fun h' => (Bool.noConfusion (rfl.symm.trans h'))) (fun _ => ?_)
    refine r_guard rfl rfl rfl (fun h' => (Bool.noConfusion (rfl.symm.trans h'))) (fun _ => ?_)
    refine r_guard rfl rfl rfl (fun h' => (Bool.noConfusion (rfl.symm.trans h'))) (fun _ => ?_)
    refine r_guard rfl rfl rfl (fun h' => (Bool.noConfusion (rfl.symm.trans h'))) (fun _ => ?_)
    refine r_op (o_pickT rfl rfl rfl rfl) ?_
    refine r_op (o_assign rfl rfl) ?_
    refine r_end ?_
    refine t_cond rfl (fun _ => ?_) (fun h' => Bool.noConfusion (rfl.symm.trans h'))
    refine t_seq ?_
    refine t_region ?_
    refine r_op (o_loadAb rfl (n := 1) (by kernel_rfl) (by kernel_rfl) rfl rfl rfl) ?_
    refine r_op (o_storeb (n := 1) (by kernel_rfl) rfl rfl rfl rfl rfl rfl) ?_
    refine r_op (o_assign rfl rfl) ?_
    refine r_end ?_
    refine t_ret Try.func19 (.cells (n := 1) (by kernel_rfl) (by kernel_rfl) rfl rfl rfl (.tmp rfl .nil)) rfl fun E S w u hI hd => ?_
    refine post_mk hI hd ?_ ⟨eqR ?_, trivial⟩ rfl rfl rfl <;> clear hI hd <;> (try clear ih0)
    all_goals first | rfl | (clear ho ha hb; first | ((have UC : uniC l a b = 2 := by (first | exact uniC_bad (.inl (by assumption)) | exact uniC_bad (.inr (.inl (by first | assumption | exact memU_not (by omega)))) | exact uniC_bad (.inr (.inr (by first | assumption | exact memU_not (by omega)))) | exact uniC_same (by assumption) (by first | assumption | exact memU_of (by omega) (by omega)) (by first | assumption | exact memU_of (by omega) (by omega)) (by omega) | exact uniC_const (by assumption) (by first | assumption | exact memU_of (by omega) (by omega)) (by first | assumption | exact memU_of (by omega) (by omega)) (by omega) (by omega) | exact uniC_done (by assumption) (by first | assumption | exact memU_of (by omega) (by omega)) (by first | assumption | exact memU_of (by omega) (by omega)) (by omega) (by omega))); first | exact tupU UC | exact uniL_keep UC (by decide)) | ((have UC : uniC l a b = 0 := by (first | exact uniC_bad (.inl (by assumption)) | exact uniC_bad (.inr (.inl (by first | assumption | exact memU_not (by omega)))) | exact uniC_bad (.inr (.inr (by first | assumption | exact memU_not (by omega)))) | exact uniC_same (by assumption) (by first | assumption | exact memU_of (by omega) (by omega)) (by first | assumption | exact memU_of (by omega) (by omega)) (by omega) | exact uniC_const (by assumption) (by first | assumption | exact memU_of (by omega) (by omega)) (by first | assumption | exact memU_of (by omega) (by omega)) (by omega) (by omega) | exact uniC_done (by assumption) (by first | assumption | exact memU_of (by omega) (by omega)) (by first | assumption | exact memU_of (by omega) (by omega)) (by omega) (by omega))); first | exact tupU UC | exact uniL_keep UC (by decide)) | ((have UC : uniC l a b = 1 := by (first | exact uniC_bad (.inl (by assumption)) | exact uniC_bad (.inr (.inl (by first | assumption | exact memU_not (by omega)))) | exact uniC_bad (.inr (.inr (by first | assumption | exact memU_not (by omega)))) | exact uniC_same (by assumption) (by first | assumption | exact memU_of (by omega) (by omega)) (by first | assumption | exact memU_of (by omega) (by omega)) (by omega) | exact uniC_const (by assumption) (by first | assumption | exact memU_of (by omega) (by omega)) (by first | assumption | exact memU_of (by omega) (by omega)) (by omega) (by omega) | exact uniC_done (by assumption) (by first | assumption | exact memU_of (by omega) (by omega)) (by first | assumption | exact memU_of (by omega) (by omega)) (by omega) (by omega))); first | exact tupU UC | exact uniL_done UC (by omega)))
set_option maxHeartbeats 1000000 in
set_option maxRecDepth 10000 in
theorem c_laws_eqIntS (a b : List Int) (ha : a.length < 4611686018427387904) : Pu Try.prog 44 [.c (.t none (.sl 1 encI (a))), .c (.t none (.sl 1 encI (b)))] [] 0 (.c (.t none (.v (.bool (decide (a = b)))))) := by
  refine pu_enter Try.func44 rfl (Nat.le_of_ble_eq_true rfl) fun w S => ?_
  refine t_seq ?_
  refine t_region ?_
  refine r_op (o_assign rfl rfl) ?_
  refine r_end ?_
  refine t_seq ?_
  refine t_seq ?_
  refine t_region ?_
  refine r_op (o_move rfl rfl) ?_
  refine r_op (o_len rfl rfl rfl) ?_
  refine r_op (o_move rfl rfl) ?_
  refine r_op (o_len rfl rfl rfl) ?_
  refine r_op (o_bin rfl rfl rfl rfl) ?_
  refine r_end ?_
  refine t_cond rfl (fun h1 => ?_) (fun h1 => ?_)
  ·
    have h1' := h1
    try simp only [decide_eq_true_eq, decide_eq_false_iff_not, Bool.not_eq_true', Bool.not_eq_false', Bool.not_false, Bool.not_true] at h1'
    refine t_seq ?_
    refine t_region ?_
    refine r_op (o_assign rfl rfl) ?_
    refine r_end ?_
    refine t_ret Try.func44 (.tmp rfl .nil) rfl fun E S w u hI hd => ?_
    refine post_mk hI hd ?_ trivial rfl rfl rfl <;> clear hI hd <;> (try clear ih0)
    all_goals first | rfl | ((have : a ≠ b := by rintro rfl; simp at *); simp [this])
  ·
    have h1' := h1
    try simp only [decide_eq_true_eq, decide_eq_false_iff_not, Bool.not_eq_true', Bool.not_eq_false', Bool.not_false, Bool.not_true] at h1'
    refine t_skip ?_
    refine t_seq ?_
    refine t_seq ?_
    refine t_region ?_
    refine r_op (o_assign rfl rfl) ?_
    refine r_end ?_
    refine t_block ?_
    refine t_loopL (fun m => ⟨[(0, some (.c (.t none (.sl 1 encI (a))))), (1, some (.c (.t none (.sl 1 encI (b))))), (5, some (.c (.t none (.v (.int .i64 ((m : Int)))))))], [], 0⟩ : Nat → St) (fun m => m ≤ a.length ∧ a.length = b.length ∧ a.take m = b.take m) (fun m => a.length - m) 0 ⟨⟨rfl, ⟨rfl, ⟨rfl, trivial⟩⟩⟩, trivial, rfl⟩ (by exact ⟨Nat.zero_le _, by omega, rfl⟩) ?_
    rintro m hI ih0
    try dsimp only at hI ih0
    obtain ⟨i1, i2, i3⟩ := hI
    refine t_seq ?_
    refine t_seq ?_
    refine t_region ?_
    refine r_op (o_move rfl rfl) ?_
    refine r_op (o_move rfl rfl) ?_
    refine r_op (o_len rfl rfl rfl) ?_
    refine r_op (o_bin rfl rfl rfl rfl) ?_
    refine r_end ?_
    refine t_cond rfl (fun h2 => ?_) (fun h2 => ?_)
    ·
      have h2' := h2
      try simp only [decide_eq_true_eq, decide_eq_false_iff_not, Bool.not_eq_true', Bool.not_eq_false', Bool.not_false, Bool.not_true] at h2'
      refine t_skip ?_
      refine t_seq ?_
      refine t_block ?_
      refine t_seq ?_
      refine t_draw (fun _ => true) (by kernel_rfl) ?_
      refine d_take 0 rfl rfl (by kernel_rfl) (by kernel_rfl) (by kernel_rfl) (p_move rfl) ?_
      refine d_take 1 rfl rfl (by kernel_rfl) (by kernel_rfl) (by kernel_rfl) (p_move rfl) ?_
      obtain ⟨z3, hz4, b5⟩ := at_get (xs := a) (n := (m : Int)) (by first | omega | (simp; omega)) (by first | omega | (simp; omega))
      refine d_take 2 rfl rfl (by kernel_rfl) (by kernel_rfl) (by kernel_rfl) (p_index (by kernel_rfl) rfl rfl b5 hz4) ?_
      refine d_take 3 rfl rfl (by kernel_rfl) (by kernel_rfl) (by kernel_rfl) (p_load1 (by kernel_rfl) rfl rfl) ?_
      refine d_take 4 rfl rfl (by kernel_rfl) (by kernel_rfl) (by kernel_rfl) (p_move rfl) ?_
      refine d_take 5 rfl rfl (by kernel_rfl) (by kernel_rfl) (by kernel_rfl) (p_move rfl) ?_
      obtain ⟨z6, hz7, b8⟩ := at_get (xs := b) (n := (m : Int)) (by first | omega | (simp; omega)) (by first | omega | (simp; omega))
      refine d_take 6 rfl rfl (by kernel_rfl) (by kernel_rfl) (by kernel_rfl) (p_index (by kernel_rfl) rfl rfl b8 hz7) ?_
      refine d_take 7 rfl rfl (by kernel_rfl) (by kernel_rfl) (by kernel_rfl) (p_load1 (by kernel_rfl) rfl rfl) ?_
      refine d_take 8 rfl rfl (by kernel_rfl) (by kernel_rfl) (by kernel_rfl) (p_bin rfl rfl rfl) ?_
      refine d_end (by kernel_rfl) ?_
      refine t_cond rfl (fun h9 => ?_) (fun h9 => ?_)
      ·
        have h9' := h9
        try simp only [decide_eq_true_eq, decide_eq_false_iff_not, Bool.not_eq_true', Bool.not_eq_false', Bool.not_false, Bool.not_true] at h9'
        refine t_seq ?_
        refine t_region ?_
        refine r_op (o_assign rfl rfl) ?_
        refine r_end ?_
        refine t_ret Try.func44 (.tmp rfl .nil) rfl fun E S w u hI hd => ?_
        refine post_mk hI hd ?_ trivial rfl rfl rfl <;> clear hI hd <;> (try clear ih0)
        all_goals first | rfl | (have := ne_at (a := a) (b := b) (by assumption) (by assumption) (by assumption); simp_all)
      ·
        have h9' := h9
        try simp only [decide_eq_true_eq, decide_eq_false_iff_not, Bool.not_eq_true', Bool.not_eq_false', Bool.not_false, Bool.not_true] at h9'
        refine t_skip ?_
        refine t_endblock ?_
        refine t_region ?_
        refine r_op (o_move rfl rfl) ?_
        refine r_op (o_bin rfl rfl rfl rfl) ?_
        refine r_op (o_assign rfl rfl) ?_
        refine r_end ?_
        refine t_le ?_ (ih0 (m + 1) (by (try dsimp only); omega) (by (try dsimp only); refine ⟨by omega, i2, take_same i3 ?_⟩; simp_all))
        exact ⟨⟨rfl, ⟨rfl, ⟨(eqI (wrS (by omega))), trivial⟩⟩⟩, trivial, rfl⟩
    ·
      have h2' := h2
      try simp only [decide_eq_true_eq, decide_eq_false_iff_not, Bool.not_eq_true', Bool.not_eq_false', Bool.not_false, Bool.not_true] at h2'
      refine t_exit rfl ?_
      refine t_seq ?_
      refine t_region ?_
      refine r_op (o_assign rfl rfl) ?_
      refine r_end ?_
      refine t_ret Try.func44 (.tmp rfl .nil) rfl fun E S w u hI hd => ?_
      refine post_mk hI hd ?_ trivial rfl rfl rfl <;> clear hI hd <;> (try clear ih0)
      all_goals first | rfl | ((obtain rfl : m = a.length := by omega); rw [List.take_length, i2, List.take_length] at i3; simp [i3])
set_option maxHeartbeats 1000000 in
set_option maxRecDepth 10000 in
theorem c_laws_eqUnionFind (a0 : List (Int)) (b0 : List (Int)) (hs : (a0).length ≤ 1048576) : Pu Try.prog 20 [.agg [.t none (.sl 1 encI (a0))], .agg [.t none (.sl 1 encI (b0))]] [] 0 (.c (.t none (.v (.bool (decide (a0 = b0)))))) := by
  refine pu_enter Try.func20 rfl (Nat.le_of_ble_eq_true rfl) fun w S => ?_
  refine t_seq ?_
  refine t_region ?_
  refine r_op (o_box 0 rfl rfl rfl rfl) ?_
  refine r_op (o_box 1 rfl rfl rfl rfl) ?_
  refine r_op (o_assign rfl rfl) ?_
  refine r_end ?_
  refine t_seq ?_
  refine t_seq ?_
  refine t_region ?_
  refine r_op (o_fieldb rfl (off := 0) (by kernel_rfl) rfl) ?_
  refine r_op (o_load1b rfl (by kernel_rfl) rfl rfl rfl) ?_
  refine r_op (o_fieldb rfl (off := 0) (by kernel_rfl) rfl) ?_
  refine r_op (o_load1b rfl (by kernel_rfl) rfl rfl rfl) ?_
  refine r_op (o_call 2 2 false (Go.Proofs.enters_of Try.func44 (by kernel_rfl) rfl) (c_laws_eqIntS (a0) (b0) (by first | omega | (simp; omega))) rfl (.cons rfl (.c .t0) (.cons rfl (.c .t0) .nil)) rfl rfl rfl) ?_
  refine r_op (o_not rfl rfl) ?_
  refine r_end ?_
  refine t_cond rfl (fun h1 => ?_) (fun h1 => ?_)
  ·
    have h1' := h1
    try simp only [decide_eq_true_eq, decide_eq_false_iff_not, Bool.not_eq_true', Bool.not_eq_false', Bool.not_false, Bool.not_true] at h1'
    refine t_seq ?_
    refine t_region ?_
    refine r_op (o_assign rfl rfl) ?_
    refine r_end ?_
    refine t_ret Try.func20 (.tmp rfl .nil) rfl fun E S w u hI hd => ?_
    refine post_mk hI hd ?_ trivial rfl rfl rfl <;> clear hI hd
    all_goals first | rfl | (simp_all)
  ·
    have h1' := h1
    try simp only [decide_eq_true_eq, decide_eq_false_iff_not, Bool.not_eq_true', Bool.not_eq_false', Bool.not_false, Bool.not_true] at h1'
    refine t_skip ?_
    refine t_seq ?_
    refine t_region ?_
    refine r_op (o_assign rfl rfl) ?_
    refine r_end ?_
    refine t_ret Try.func20 (.tmp rfl .nil) rfl fun E S w u hI hd => ?_
    refine post_mk hI hd ?_ trivial rfl rfl rfl <;> clear hI hd
    all_goals first | rfl | (simp_all)
set_option maxHeartbeats 1000000 in
set_option maxRecDepth 10000 in
theorem c_laws_markIntS (U : Nat → Value) (e0 : Nat) (l : List Int) (k : Int) (hk : 0 ≤ k) (hkl : k + l.length < 4611686018427387904) : Mu Try.prog 47 [.c (.own 0), .c (.t none (.v (.int .i64 (k))))] [(0, some (.row (some (U 0)) e0 true 1 encI (l)))] 1 [(0, some (.row (some (U 0)) e0 true 1 encI (seqI k l.length)))] 1 (.c (.t none (.v (.int .i64 (k + l.length))))) := by
  refine mu_enter Try.func47 rfl (Nat.le_of_ble_eq_true rfl) fun w S M => ?_
  refine t_seq ?_
  refine t_region ?_
  refine r_op (o_assign rfl rfl) ?_
  refine r_end ?_
  refine t_seq ?_
  refine t_seq ?_
  refine t_region ?_
  refine r_op (o_assign rfl rfl) ?_
  refine r_end ?_
  refine t_block ?_
  refine t_loopL (fun m => ⟨[(0, some (.c (.own 0))), (1, some (.c (.t none (.v (.int .i64 (k + m)))))), (4, some (.c (.t none (.v (.int .i64 (0)))))), (5, some (.c (.t none (.v (.int .i64 ((m : Int)))))))], [(0, some (.row (some (U 0)) e0 true 1 encI (seqI k m ++ l.drop m)))], 1⟩ : Nat → St) (fun m => m ≤ l.length) (fun m => l.length - m) 0 ⟨⟨rfl, ⟨(eqI (by simp)), ⟨rfl, ⟨rfl, trivial⟩⟩⟩⟩, ⟨(eqR (by simp [seqI])), trivial⟩, rfl⟩ (by simp) ?_
  rintro m hI ih0
  try dsimp only at hI ih0
  have hlen : (seqI k m ++ l.drop m).length = l.length := by simp [seqI_length]; omega
  refine t_seq ?_
  refine t_seq ?_
  refine t_region ?_
  refine r_op (o_move rfl rfl) ?_
  refine r_op (o_move rfl rfl) ?_
  refine r_op (o_leno rfl rfl rfl rfl) ?_
  refine r_op (o_bin rfl rfl rfl rfl) ?_
  refine r_end ?_
  refine t_cond rfl (fun h1 => ?_) (fun h1 => ?_)
  ·
    have h1' := h1
    try simp only [decide_eq_true_eq, decide_eq_false_iff_not, Bool.not_eq_true', Bool.not_eq_false', Bool.not_false, Bool.not_true] at h1'
    refine t_skip ?_
    refine t_seq ?_
    refine t_block ?_
    refine t_seq ?_
    refine t_region ?_
    refine r_op (o_move rfl rfl) ?_
    refine r_op (o_move rfl rfl) ?_
    refine r_op (o_move rfl rfl) ?_
    obtain ⟨z2, hz3, b4⟩ := at_get (xs := seqI k m ++ l.drop m) (n := (m : Int)) (by first | omega | (simp [seqI_length]; omega)) (by first | omega | (simp [seqI_length]; omega))
    refine r_op (o_indexo rfl (by kernel_rfl) rfl rfl rfl b4 (at_lt b4 hz3)) ?_
    refine r_op (o_storeo (k + m) (n := 1) (by kernel_rfl) rfl rfl hz3 rfl rfl rfl rfl (.cons .sc .nil) rfl (fun j h1 h2 => by simp at h1 h2; omega)) ?_
    refine r_end ?_
    refine t_region ?_
    refine r_op (o_move rfl rfl) ?_
    refine r_op (o_bin rfl rfl rfl rfl) ?_
    refine r_op (o_assign rfl rfl) ?_
    refine r_end ?_
    refine t_endblock ?_
    refine t_region ?_
    refine r_op (o_move rfl rfl) ?_
    refine r_op (o_bin rfl rfl rfl rfl) ?_
    refine r_op (o_assign rfl rfl) ?_
    refine r_end ?_
    refine t_le ?_ (ih0 (m + 1) (by (try dsimp only); omega) (by (try dsimp only); omega))
    exact ⟨⟨rfl, ⟨(eqI (by rw [wr64 (by omega) (by omega)]; omega)), ⟨rfl, ⟨(eqI (wrS (by omega))), trivial⟩⟩⟩⟩, ⟨(eqR (seq_set (z := 0) (by omega))), trivial⟩, rfl⟩
  ·
    have h1' := h1
    try simp only [decide_eq_true_eq, decide_eq_false_iff_not, Bool.not_eq_true', Bool.not_eq_false', Bool.not_false, Bool.not_true] at h1'
    refine t_exit rfl ?_
    refine t_seq ?_
    refine t_region ?_
    refine r_op (o_move rfl rfl) ?_
    refine r_op (o_assign rfl rfl) ?_
    refine r_end ?_
    refine t_ret Try.func47 (.tmp rfl .nil) rfl fun E S w u hI hd => ?_
    refine postM_mk hI hd ?_ ⟨eqR ?_, trivial⟩ rfl rfl <;> clear hI hd <;> (try clear ih0)
    all_goals first | rfl | ((obtain rfl : m = l.length := by omega); simp)
set_option maxHeartbeats 1000000 in
set_option maxRecDepth 10000 in
theorem c_laws_markUnionFind (U : Nat → Value) (e0 : Nat) (l : List Int) (k : Int) (hk : 0 ≤ k) (hkl : k + l.length < 4611686018427387904) : Mu Try.prog 21 [.agg [.own 0], .c (.t none (.v (.int .i64 (k))))] [(0, some (.row (some (U 0)) e0 true 1 encI (l)))] 1 [(0, some (.row (some (U 0)) e0 true 1 encI (seqI k l.length)))] 1 (.c (.t none (.v (.int .i64 (k + l.length))))) := by
  refine mu_enter Try.func21 rfl (Nat.le_of_ble_eq_true rfl) fun w S M => ?_
  refine t_seq ?_
  refine t_region ?_
  refine r_op (o_box 1 rfl rfl rfl rfl) ?_
  refine r_op (o_assign rfl rfl) ?_
  refine r_end ?_
  refine t_seq ?_
  refine t_region ?_
  refine r_op (o_fieldb rfl (off := 0) (by kernel_rfl) rfl) ?_
  refine r_op (o_load1b rfl (by kernel_rfl) rfl rfl rfl) ?_
  refine r_op (o_move rfl rfl) ?_
  refine r_op (o_callH [⟨0, (some (U 0)), e0, 1, _, encI, l, seqI (k) (l).length⟩] (Go.Proofs.enters_of Try.func47 (by kernel_rfl) rfl) (fun U => c_laws_markIntS U e0 (l) (k) (by first | omega | (simp; omega)) (by first | omega | (simp; omega))) rfl ⟨rfl, trivial⟩ rfl rfl (.cons rfl (.own rfl) (.cons rfl .t0 .nil)) rfl) ?_
  refine r_op (o_assign rfl rfl) ?_
  refine r_end ?_
  refine t_seq ?_
  refine t_region ?_
  refine r_op (o_move rfl rfl) ?_
  refine r_op (o_assign rfl rfl) ?_
  refine r_end ?_
  refine t_ret Try.func21 (.tmp rfl .nil) rfl fun E S w u hI hd => ?_
  refine postM_mk hI hd ?_ ⟨eqR ?_, trivial⟩ rfl rfl <;> clear hI hd
  all_goals first | rfl | (simp_all <;> omega)
set_option maxHeartbeats 1000000 in
set_option maxRecDepth 10000 in
theorem c_laws_heldIntS (l : List Int) (k : Int) (hk : 0 ≤ k) (hkl : k + l.length < 4611686018427387904) : Pu Try.prog 48 [.c (.t none (.sl 1 encI (l))), .c (.t none (.v (.int .i64 (k))))] [] 0 (.c (.t none (.v (.int .i64 (if l = seqI k l.length then k + l.length else -1))))) := by
  refine pu_enter Try.func48 rfl (Nat.le_of_ble_eq_true rfl) fun w S => ?_
  refine t_seq ?_
  refine t_region ?_
  refine r_op (o_assign rfl rfl) ?_
  refine r_end ?_
  refine t_seq ?_
  refine t_seq ?_
  refine t_region ?_
  refine r_op (o_assign rfl rfl) ?_
  refine r_end ?_
  refine t_block ?_
  refine t_loopL (fun m => ⟨[(0, some (.c (.t none (.sl 1 encI (l))))), (1, some (.c (.t none (.v (.int .i64 (k + m)))))), (5, some (.c (.t none (.v (.int .i64 ((m : Int)))))))], [], 0⟩ : Nat → St) (fun m => m ≤ l.length ∧ l.take m = seqI k m) (fun m => l.length - m) 0 ⟨⟨rfl, ⟨(eqI (by simp)), ⟨rfl, trivial⟩⟩⟩, trivial, rfl⟩ (by exact ⟨Nat.zero_le _, rfl⟩) ?_
  rintro m hI ih0
  try dsimp only at hI ih0
  obtain ⟨i1, i2⟩ := hI
  refine t_seq ?_
  refine t_seq ?_
  refine t_region ?_
  refine r_op (o_move rfl rfl) ?_
  refine r_op (o_move rfl rfl) ?_
  refine r_op (o_len rfl rfl rfl) ?_
  refine r_op (o_bin rfl rfl rfl rfl) ?_
  refine r_end ?_
  refine t_cond rfl (fun h1 => ?_) (fun h1 => ?_)
  ·
    have h1' := h1
    try simp only [decide_eq_true_eq, decide_eq_false_iff_not, Bool.not_eq_true', Bool.not_eq_false', Bool.not_false, Bool.not_true] at h1'
    refine t_skip ?_
    refine t_seq ?_
    refine t_block ?_
    refine t_seq ?_
    refine t_seq ?_
    refine t_region ?_
    refine r_op (o_move rfl rfl) ?_
    refine r_op (o_move rfl rfl) ?_
    obtain ⟨z2, hz3, b4⟩ := at_get (xs := l) (n := (m : Int)) (by first | omega | (simp; omega)) (by first | omega | (simp; omega))
    refine r_op (o_index rfl (by kernel_rfl) rfl rfl b4 hz3) ?_
    refine r_op (o_load1 rfl (by kernel_rfl) rfl rfl) ?_
    refine r_op (o_move rfl rfl) ?_
    refine r_op (o_bin rfl rfl rfl rfl) ?_
    refine r_end ?_
    refine t_cond rfl (fun h5 => ?_) (fun h5 => ?_)
    ·
      have h5' := h5
      try simp only [decide_eq_true_eq, decide_eq_false_iff_not, Bool.not_eq_true', Bool.not_eq_false', Bool.not_false, Bool.not_true] at h5'
      refine t_seq ?_
      refine t_region ?_
      refine r_op (o_assign rfl rfl) ?_
      refine r_end ?_
      refine t_ret Try.func48 (.tmp rfl .nil) rfl fun E S w u hI hd => ?_
      refine post_mk hI hd ?_ trivial rfl rfl rfl <;> clear hI hd <;> (try clear ih0)
      all_goals first | rfl | (rw [if_neg (held_ne i2 (by assumption) (by assumption))])
    ·
      have h5' := h5
      try simp only [decide_eq_true_eq, decide_eq_false_iff_not, Bool.not_eq_true', Bool.not_eq_false', Bool.not_false, Bool.not_true] at h5'
      refine t_skip ?_
      refine t_region ?_
      refine r_op (o_move rfl rfl) ?_
      refine r_op (o_bin rfl rfl rfl rfl) ?_
      refine r_op (o_assign rfl rfl) ?_
      refine r_end ?_
      refine t_endblock ?_
      refine t_region ?_
      refine r_op (o_move rfl rfl) ?_
      refine r_op (o_bin rfl rfl rfl rfl) ?_
      refine r_op (o_assign rfl rfl) ?_
      refine r_end ?_
      refine t_le ?_ (ih0 (m + 1) (by (try dsimp only); omega) (by (try dsimp only); exact ⟨by omega, held_step i2 (by assumption) rfl (by omega)⟩))
      exact ⟨⟨rfl, ⟨(eqI (by rw [wr64 (by omega) (by omega)]; omega)), ⟨(eqI (wrS (by omega))), trivial⟩⟩⟩, trivial, rfl⟩
  ·
    have h1' := h1
    try simp only [decide_eq_true_eq, decide_eq_false_iff_not, Bool.not_eq_true', Bool.not_eq_false', Bool.not_false, Bool.not_true] at h1'
    refine t_exit rfl ?_
    refine t_seq ?_
    refine t_region ?_
    refine r_op (o_move rfl rfl) ?_
    refine r_op (o_assign rfl rfl) ?_
    refine r_end ?_
    refine t_ret Try.func48 (.tmp rfl .nil) rfl fun E S w u hI hd => ?_
    refine post_mk hI hd ?_ trivial rfl rfl rfl <;> clear hI hd <;> (try clear ih0)
    all_goals first | rfl | ((obtain rfl : m = l.length := by omega); rw [List.take_length] at i2; rw [if_pos i2])
set_option maxHeartbeats 1000000 in
set_option maxRecDepth 10000 in
theorem c_laws_heldUnionFind (l : List Int) (k : Int) (hk : 0 ≤ k) (hkl : k + l.length < 4611686018427387904) : Pu Try.prog 22 [.agg [.t none (.sl 1 encI (l))], .c (.t none (.v (.int .i64 (k))))] [] 0 (.c (.t none (.v (.int .i64 (if l = seqI k l.length then k + l.length else -1))))) := by
  refine pu_enter Try.func22 rfl (Nat.le_of_ble_eq_true rfl) fun w S => ?_
  refine t_seq ?_
  refine t_region ?_
  refine r_op (o_box 0 rfl rfl rfl rfl) ?_
  refine r_op (o_assign rfl rfl) ?_
  refine r_end ?_
  refine t_seq ?_
  refine t_region ?_
  refine r_op (o_fieldb rfl (off := 0) (by kernel_rfl) rfl) ?_
  refine r_op (o_load1b rfl (by kernel_rfl) rfl rfl rfl) ?_
  refine r_op (o_move rfl rfl) ?_
  refine r_op (o_call 1 1 false (Go.Proofs.enters_of Try.func48 (by kernel_rfl) rfl) (c_laws_heldIntS (l) (k) (by first | omega | (simp; omega)) (by first | omega | (simp; omega))) rfl (.cons rfl (.c .t0) (.cons rfl (.c .t0) .nil)) rfl rfl rfl) ?_
  refine r_op (o_assign rfl rfl) ?_
  refine r_end ?_
  refine t_seq ?_
  refine t_seq ?_
  refine t_region ?_
  refine r_op (o_move rfl rfl) ?_
  refine r_op (o_bin rfl rfl rfl rfl) ?_
  refine r_end ?_
  refine t_cond rfl (fun h1 => ?_) (fun h1 => ?_)
  ·
    have h1' := h1
    try simp only [decide_eq_true_eq, decide_eq_false_iff_not, Bool.not_eq_true', Bool.not_eq_false', Bool.not_false, Bool.not_true] at h1'
    refine t_seq ?_
    refine t_region ?_
    refine r_op (o_assign rfl rfl) ?_
    refine r_end ?_
    refine t_ret Try.func22 (.tmp rfl .nil) rfl fun E S w u hI hd => ?_
    refine post_mk hI hd ?_ trivial rfl rfl rfl <;> clear hI hd
    all_goals first | rfl | (split at h1' <;> first | omega | simp_all)
  ·
    have h1' := h1
    try simp only [decide_eq_true_eq, decide_eq_false_iff_not, Bool.not_eq_true', Bool.not_eq_false', Bool.not_false, Bool.not_true] at h1'
    refine t_skip ?_
    refine t_seq ?_
    refine t_region ?_
    refine r_op (o_move rfl rfl) ?_
    refine r_op (o_assign rfl rfl) ?_
    refine r_end ?_
    refine t_ret Try.func22 (.tmp rfl .nil) rfl fun E S w u hI hd => ?_
    refine post_mk hI hd ?_ trivial rfl rfl rfl <;> clear hI hd
    all_goals first | rfl | (rfl)
set_option maxHeartbeats 1000000 in
set_option maxRecDepth 10000 in
theorem c_laws_FnExactUnion (l : List Int) (a b : Int) (hl : l.length ≤ 9223372036854775807) (ho : ∀ x ∈ l, okI x) (ha : okI a) (hb : okI b) : Pu Try.prog 4 [.agg [.t none (.sl 1 encI (l))], .c (.t none (.v (.int .i64 (a)))), .c (.t none (.v (.int .i64 (b))))] [] 0 (.c (.t none (.v (.bool (true))))) := by
  refine pu_enter Try.func4 rfl (Nat.le_of_ble_eq_true rfl) fun w S => ?_
  have ul := uni_len l a b
  refine t_seq ?_
  refine t_region ?_
  refine r_op (o_box 0 rfl rfl rfl rfl) ?_
  refine r_op (o_assign rfl rfl) ?_
  refine r_end ?_
  refine t_seq ?_
  refine t_region ?_
  refine r_op (o_assign rfl rfl) ?_
  refine r_end ?_
  refine t_seq ?_
  refine t_region ?_
  refine r_op (o_loadAb rfl (n := 1) (by kernel_rfl) (by kernel_rfl) rfl rfl rfl) ?_
  refine r_op (o_move rfl rfl) ?_
  refine r_op (o_call 1 1 false (Go.Proofs.enters_of Try.func16 (by kernel_rfl) rfl) (c_laws_szUnionFind (l) (1048576) (by first | omega | assumption | exact ⟨hl, ho⟩ | (simp only [seqI_length]; done) | (simp only [seqI_length]; omega)) (by first | omega | assumption | exact ⟨hl, ho⟩ | (simp only [seqI_length]; done) | (simp only [seqI_length]; omega)) (by first | omega | assumption | exact ⟨hl, ho⟩ | (simp only [seqI_length]; done) | (simp only [seqI_length]; omega))) rfl (.cons rfl (.agg (.cons .t0 .nil)) (.cons rfl (.c .t0) .nil)) rfl rfl rfl) ?_
  refine r_op (o_assign rfl rfl) ?_
  refine r_end ?_
  refine t_seq ?_
  refine t_seq ?_
  refine t_region ?_
  refine r_op (o_move rfl rfl) ?_
  refine r_op (o_bin rfl rfl rfl rfl) ?_
  refine r_end ?_
  refine t_cond rfl (fun h1 => ?_) (fun h1 => ?_)
  ·
    have h1' := h1
    try simp only [decide_eq_true_eq, decide_eq_false_iff_not, Bool.not_eq_true', Bool.not_eq_false', Bool.not_false, Bool.not_true] at h1'
    refine t_seq ?_
    refine t_region ?_
    refine r_op (o_assign rfl rfl) ?_
    refine r_end ?_
    refine t_ret Try.func4 (.tmp rfl .nil) rfl fun E S w u hI hd => ?_
    refine post_mk hI hd ?_ trivial rfl rfl rfl <;> clear hI hd
    all_goals first | rfl | (exfalso; first | (simp [seqI_length] at *; done) | (simp [seqI_length] at *; omega))
  ·
    have h1' := h1
    try simp only [decide_eq_true_eq, decide_eq_false_iff_not, Bool.not_eq_true', Bool.not_eq_false', Bool.not_false, Bool.not_true] at h1'
    refine t_skip ?_
    refine t_seq ?_
    refine t_region ?_
    refine r_op (o_loadAb rfl (n := 1) (by kernel_rfl) (by kernel_rfl) rfl rfl rfl) ?_
    refine r_op (o_call 1 5 false (Go.Proofs.enters_of Try.func18 (by kernel_rfl) rfl) (c_laws_toUnionFind (l) (by first | omega | assumption | exact ⟨hl, ho⟩ | (simp only [seqI_length]; done) | (simp only [seqI_length]; omega))) rfl (.cons rfl (.agg (.cons .t0 .nil)) .nil) rfl rfl rfl) ?_
    refine r_op (o_move rfl rfl) ?_
    refine r_op (o_move rfl rfl) ?_
    refine r_op (o_call 5 8 false (Go.Proofs.enters_of Try.func17 (by kernel_rfl) rfl) (c_spec_Union ((l)) (a) (b) (by first | omega | assumption | exact ⟨hl, ho⟩ | (simp only [seqI_length]; done) | (simp only [seqI_length]; omega)) (by first | omega | assumption | exact ⟨hl, ho⟩ | (simp only [seqI_length]; done) | (simp only [seqI_length]; omega)) (by first | omega | assumption | exact ⟨hl, ho⟩ | (simp only [seqI_length]; done) | (simp only [seqI_length]; omega)) (by first | omega | assumption | exact ⟨hl, ho⟩ | (simp only [seqI_length]; done) | (simp only [seqI_length]; omega))) rfl (.cons rfl (.agg (.cons (.own rfl) .nil)) (.cons rfl (.c .t0) (.cons rfl (.c .t0) .nil))) rfl rfl rfl) ?_
    refine r_op (o_move rfl rfl) ?_
    refine r_op (o_extract rfl rfl rfl rfl) ?_
    refine r_op (o_extract rfl rfl rfl rfl) ?_
    refine r_op (o_alloc 8 (zs := [.slice none 0 0]) rfl rfl (by kernel_rfl) rfl) ?_
    refine r_op (o_storeb (n := 1) (by kernel_rfl) rfl rfl rfl rfl rfl rfl) ?_
    refine r_op (o_assign rfl rfl) ?_
    refine r_end ?_
    refine t_seq ?_
    refine t_region ?_
    refine r_op (o_loadAb rfl (n := 1) (by kernel_rfl) (by kernel_rfl) rfl rfl rfl) ?_
    refine r_op (o_call 9 13 false (Go.Proofs.enters_of Try.func18 (by kernel_rfl) rfl) (c_laws_toUnionFind (l) (by first | omega | assumption | exact ⟨hl, ho⟩ | (simp only [seqI_length]; done) | (simp only [seqI_length]; omega))) rfl (.cons rfl (.agg (.cons .t0 .nil)) .nil) rfl rfl rfl) ?_
    refine r_op (o_alloc 13 (zs := [.slice none 0 0]) rfl rfl (by kernel_rfl) rfl) ?_
    refine r_op (o_storeb (n := 1) (by kernel_rfl) rfl rfl rfl rfl rfl rfl) ?_
    refine r_end ?_
    refine t_seq ?_
    refine t_region ?_
    refine r_op (o_loadAb rfl (n := 1) (by kernel_rfl) (by kernel_rfl) rfl rfl rfl) ?_
    refine r_op (o_move rfl rfl) ?_
    refine r_op (o_move rfl rfl) ?_
    refine r_op (o_call 14 17 false (Go.Proofs.enters_of Try.func19 (by kernel_rfl) rfl) (c_impl_Union ((l)) (a) (b) (by first | omega | assumption | exact ⟨hl, ho⟩ | (simp only [seqI_length]; done) | (simp only [seqI_length]; omega)) (by first | omega | assumption | exact ⟨hl, ho⟩ | (simp only [seqI_length]; done) | (simp only [seqI_length]; omega)) (by first | omega | assumption | exact ⟨hl, ho⟩ | (simp only [seqI_length]; done) | (simp only [seqI_length]; omega)) (by first | omega | assumption | exact ⟨hl, ho⟩ | (simp only [seqI_length]; done) | (simp only [seqI_length]; omega))) rfl (.cons rfl (.agg (.cons (.own rfl) .nil)) (.cons rfl (.c .t0) (.cons rfl (.c .t0) .nil))) rfl rfl rfl) ?_
    refine r_op (o_move rfl rfl) ?_
    refine r_op (o_extract rfl rfl rfl rfl) ?_
    refine r_op (o_extract rfl rfl rfl rfl) ?_
    refine r_op (o_alloc 17 (zs := [.slice none 0 0]) rfl rfl (by kernel_rfl) rfl) ?_
    refine r_op (o_storeb (n := 1) (by kernel_rfl) rfl rfl rfl rfl rfl rfl) ?_
    refine r_op (o_assign rfl rfl) ?_
    refine r_end ?_
    refine t_seq ?_
    refine t_seq ?_
    refine t_region ?_
    refine r_op (o_loadAb rfl (n := 1) (by kernel_rfl) (by kernel_rfl) rfl rfl rfl) ?_
    refine r_op (o_loadAb rfl (n := 1) (by kernel_rfl) (by kernel_rfl) rfl rfl rfl) ?_
    refine r_op (o_call 18 18 false (Go.Proofs.enters_of Try.func20 (by kernel_rfl) rfl) (c_laws_eqUnionFind (uniL ((l)) (a) (b)) (uniL ((l)) (a) (b)) (by first | omega | assumption | exact ⟨hl, ho⟩ | (simp only [seqI_length]; done) | (simp only [seqI_length]; omega))) rfl (.cons rfl (.agg (.cons (.own rfl) .nil)) (.cons rfl (.agg (.cons (.own rfl) .nil)) .nil)) rfl rfl rfl) ?_
    refine r_op (o_not rfl rfl) ?_
    refine r_op (o_move rfl rfl) ?_
    refine r_guard rfl rfl rfl (fun g2 => ?_) (fun g2 => ?_)
    ·
      have g2' := g2
      try simp only [decide_eq_true_eq, decide_eq_false_iff_not, Bool.not_eq_true', Bool.not_eq_false', Bool.not_false, Bool.not_true] at g2'
      refine r_op (o_move rfl rfl) ?_
      refine r_guard rfl rfl rfl (fun _ => ?_) (fun h' => (Bool.noConfusion (g2.symm.trans h')))
      refine r_op (o_move rfl rfl) ?_
      refine r_guard rfl rfl rfl (fun _ => ?_) (fun h' => (Bool.noConfusion (g2.symm.trans h')))
      refine r_op (o_bin rfl rfl rfl rfl) ?_
      refine r_op (o_pickF rfl rfl g2 rfl) ?_
      refine r_end ?_
      refine t_cond rfl (fun h3 => ?_) (fun h3 => ?_)
      ·
        have h3' := h3
        try simp only [decide_eq_true_eq, decide_eq_false_iff_not, Bool.not_eq_true', Bool.not_eq_false', Bool.not_false, Bool.not_true] at h3'
        refine t_seq ?_
        refine t_region ?_
        refine r_op (o_assign rfl rfl) ?_
        refine r_end ?_
        refine t_ret Try.func4 (.tmp rfl .nil) rfl fun E S w u hI hd => ?_
        refine post_mk hI hd ?_ trivial rfl rfl rfl <;> clear hI hd
        all_goals first | rfl | (exfalso; first | (simp [seqI_length] at *; done) | (simp [seqI_length] at *; omega))
      ·
        have h3' := h3
        try simp only [decide_eq_true_eq, decide_eq_false_iff_not, Bool.not_eq_true', Bool.not_eq_false', Bool.not_false, Bool.not_true] at h3'
        refine t_skip ?_
        refine t_seq ?_
        refine t_seq ?_
        refine t_draw (fun _ => true) (by kernel_rfl) ?_
        refine d_take 0 rfl rfl (by kernel_rfl) (by kernel_rfl) (by kernel_rfl) (p_loadAb (n := 1) (by kernel_rfl) (by kernel_rfl) rfl rfl rfl) ?_
        refine d_take 1 rfl rfl (by kernel_rfl) (by kernel_rfl) (by kernel_rfl) (p_loadAb (n := 1) (by kernel_rfl) (by kernel_rfl) rfl rfl rfl) ?_
        refine d_only 2 rfl (by kernel_rfl) rfl (o_call 18 22 false (Go.Proofs.enters_of Try.func18 (by kernel_rfl) rfl) (c_laws_toUnionFind (l) (by first | omega | assumption | exact ⟨hl, ho⟩ | (simp only [seqI_length]; done) | (simp only [seqI_length]; omega))) rfl (.cons rfl (.agg (.cons .t0 .nil)) .nil) rfl rfl rfl) ?_
        refine d_only 3 rfl (by kernel_rfl) rfl (o_call 22 22 false (Go.Proofs.enters_of Try.func20 (by kernel_rfl) rfl) (c_laws_eqUnionFind ((l)) ((l)) (by first | omega | assumption | exact ⟨hl, ho⟩ | (simp only [seqI_length]; done) | (simp only [seqI_length]; omega))) rfl (.cons rfl (.agg (.cons (.own rfl) .nil)) (.cons rfl (.agg (.cons (.own rfl) .nil)) .nil)) rfl rfl rfl) ?_
        refine d_take 4 rfl rfl (by kernel_rfl) (by kernel_rfl) (by kernel_rfl) (p_not rfl) ?_
        refine d_end (by kernel_rfl) ?_
        refine t_cond rfl (fun h4 => ?_) (fun h4 => ?_)
        ·
          have h4' := h4
          try simp only [decide_eq_true_eq, decide_eq_false_iff_not, Bool.not_eq_true', Bool.not_eq_false', Bool.not_false, Bool.not_true] at h4'
          refine t_seq ?_
          refine t_region ?_
          refine r_op (o_assign rfl rfl) ?_
          refine r_end ?_
          refine t_ret Try.func4 (.tmp rfl .nil) rfl fun E S w u hI hd => ?_
          refine post_mk hI hd ?_ trivial rfl rfl rfl <;> clear hI hd
          all_goals first | rfl | (exfalso; first | (simp [seqI_length] at *; done) | (simp [seqI_length] at *; omega))
        ·
          have h4' := h4
          try simp only [decide_eq_true_eq, decide_eq_false_iff_not, Bool.not_eq_true', Bool.not_eq_false', Bool.not_false, Bool.not_true] at h4'
          refine t_skip ?_
          refine t_seq ?_
          refine t_region ?_
          refine r_op (o_assign rfl rfl) ?_
          refine r_end ?_
          refine t_seq ?_
          refine t_region ?_
          refine r_op (o_loadAb rfl (n := 1) (by kernel_rfl) (by kernel_rfl) rfl rfl rfl) ?_
          refine r_op (o_move rfl rfl) ?_
          refine r_op (o_callH [⟨12, none, 3, 1, _, encI, (l), seqI (1) ((l)).length⟩] (Go.Proofs.enters_of Try.func21 (by kernel_rfl) rfl) (fun U => c_laws_markUnionFind U 3 ((l)) (1) (by first | omega | assumption | exact ⟨hl, ho⟩ | (simp only [seqI_length]; done) | (simp only [seqI_length]; omega)) (by first | omega | assumption | exact ⟨hl, ho⟩ | (simp only [seqI_length]; done) | (simp only [seqI_length]; omega))) rfl ⟨rfl, trivial⟩ rfl rfl (.agg rfl (.cons (.own rfl) .nil) (.cons rfl .t0 .nil)) rfl) ?_
          refine r_op (o_assign rfl rfl) ?_
          refine r_end ?_
          refine t_seq ?_
          refine t_seq ?_
          refine t_region ?_
          refine r_op (o_move rfl rfl) ?_
          refine r_op (o_bin rfl rfl rfl rfl) ?_
          refine r_op (o_move rfl rfl) ?_
          refine r_guard rfl rfl rfl (fun g5 => ?_) (fun g5 => ?_)
          ·
            have g5' := g5
            try simp only [decide_eq_true_eq, decide_eq_false_iff_not, Bool.not_eq_true', Bool.not_eq_false', Bool.not_false, Bool.not_true] at g5'
            refine r_op (o_loadAb rfl (n := 1) (by kernel_rfl) (by kernel_rfl) rfl rfl rfl) ?_
            refine r_guard rfl rfl rfl (fun _ => ?_) (fun h' => (Bool.noConfusion (g5.symm.trans h')))
            refine r_op (o_loadAb rfl (n := 1) (by kernel_rfl) (by kernel_rfl) rfl rfl rfl) ?_
            refine r_guard rfl rfl rfl (fun _ => ?_) (fun h' => (Bool.noConfusion (g5.symm.trans h')))
            refine r_op (o_call 22 22 false (Go.Proofs.enters_of Try.func20 (by kernel_rfl) rfl) (c_laws_eqUnionFind (uniL ((l)) (a) (b)) (uniL ((l)) (a) (b)) (by first | omega | assumption | exact ⟨hl, ho⟩ | (simp only [seqI_length]; done) | (simp only [seqI_length]; omega))) rfl (.cons rfl (.agg (.cons (.own rfl) .nil)) (.cons rfl (.agg (.cons (.own rfl) .nil)) .nil)) rfl rfl rfl) ?_
            refine r_guard rfl rfl rfl (fun _ => ?_) (fun h' => (Bool.noConfusion (g5.symm.trans h')))
            refine r_op (o_not rfl rfl) ?_
            refine r_op (o_pickF rfl rfl g5 rfl) ?_
            refine r_op (o_move rfl rfl) ?_
            refine r_guard rfl rfl rfl (fun g6 => ?_) (fun g6 => ?_)
            ·
              have g6' := g6
              try simp only [decide_eq_true_eq, decide_eq_false_iff_not, Bool.not_eq_true', Bool.not_eq_false', Bool.not_false, Bool.not_true] at g6'
              refine r_op (o_move rfl rfl) ?_
              refine r_guard rfl rfl rfl (fun _ => ?_) (fun h' => (Bool.noConfusion (g6.symm.trans h')))
              refine r_op (o_move rfl rfl) ?_
              refine r_guard rfl rfl rfl (fun _ => ?_) (fun h' => (Bool.noConfusion (g6.symm.trans h')))
              refine r_op (o_bin rfl rfl rfl rfl) ?_
              refine r_op (o_pickF rfl rfl g6 rfl) ?_
              refine r_end ?_
              refine t_cond rfl (fun h7 => ?_) (fun h7 => ?_)
              ·
                have h7' := h7
                try simp only [decide_eq_true_eq, decide_eq_false_iff_not, Bool.not_eq_true', Bool.not_eq_false', Bool.not_false, Bool.not_true] at h7'
                refine t_seq ?_
                refine t_region ?_
                refine r_op (o_assign rfl rfl) ?_
                refine r_end ?_
                refine t_ret Try.func4 (.tmp rfl .nil) rfl fun E S w u hI hd => ?_
                refine post_mk hI hd ?_ trivial rfl rfl rfl <;> clear hI hd
                all_goals first | rfl | (exfalso; first | (simp [seqI_length] at *; done) | (simp [seqI_length] at *; omega))
              ·
                have h7' := h7
                try simp only [decide_eq_true_eq, decide_eq_false_iff_not, Bool.not_eq_true', Bool.not_eq_false', Bool.not_false, Bool.not_true] at h7'
                refine t_skip ?_
                refine t_seq ?_
                refine t_region ?_
                refine r_op (o_assign rfl rfl) ?_
                refine r_end ?_
                refine t_seq ?_
                refine t_region ?_
                refine r_op (o_loadAb rfl (n := 1) (by kernel_rfl) (by kernel_rfl) rfl rfl rfl) ?_
                refine r_op (o_move rfl rfl) ?_
                refine r_op (o_callH [⟨16, none, 3, 1, _, encI, uniL ((l)) (a) (b), seqI (1) (uniL ((l)) (a) (b)).length⟩] (Go.Proofs.enters_of Try.func21 (by kernel_rfl) rfl) (fun U => c_laws_markUnionFind U 3 (uniL ((l)) (a) (b)) (1) (by first | omega | assumption | exact ⟨hl, ho⟩ | (simp only [seqI_length]; done) | (simp only [seqI_length]; omega)) (by first | omega | assumption | exact ⟨hl, ho⟩ | (simp only [seqI_length]; done) | (simp only [seqI_length]; omega))) rfl ⟨rfl, trivial⟩ rfl rfl (.agg rfl (.cons (.own rfl) .nil) (.cons rfl .t0 .nil)) rfl) ?_
                refine r_op (o_assign rfl rfl) ?_
                refine r_end ?_
                refine t_seq ?_
                refine t_region ?_
                refine r_op (o_assign rfl rfl) ?_
                refine r_end ?_
                refine t_seq ?_
                refine t_region ?_
                refine r_op (o_loadAb rfl (n := 1) (by kernel_rfl) (by kernel_rfl) rfl rfl rfl) ?_
                refine r_op (o_move rfl rfl) ?_
                refine r_op (o_call 22 22 false (Go.Proofs.enters_of Try.func22 (by kernel_rfl) rfl) (c_laws_heldUnionFind (seqI (1) (uniL ((l)) (a) (b)).length) (1) (by first | omega | assumption | exact ⟨hl, ho⟩ | (simp only [seqI_length]; done) | (simp only [seqI_length]; omega)) (by first | omega | assumption | exact ⟨hl, ho⟩ | (simp only [seqI_length]; done) | (simp only [seqI_length]; omega))) rfl (.cons rfl (.agg (.cons (.own rfl) .nil)) (.cons rfl (.c .t0) .nil)) rfl rfl rfl) ?_
                refine r_op (o_assign rfl rfl) ?_
                refine r_end ?_
                refine t_seq ?_
                refine t_seq ?_
                refine t_region ?_
                refine r_op (o_move rfl rfl) ?_
                refine r_op (o_bin rfl rfl rfl rfl) ?_
                refine r_end ?_
                refine t_cond rfl (fun h8 => ?_) (fun h8 => ?_)
                ·
                  have h8' := h8
                  try simp only [decide_eq_true_eq, decide_eq_false_iff_not, Bool.not_eq_true', Bool.not_eq_false', Bool.not_false, Bool.not_true] at h8'
                  refine t_seq ?_
                  refine t_region ?_
                  refine r_op (o_assign rfl rfl) ?_
                  refine r_end ?_
                  refine t_ret Try.func4 (.tmp rfl .nil) rfl fun E S w u hI hd => ?_
                  refine post_mk hI hd ?_ trivial rfl rfl rfl <;> clear hI hd
                  all_goals first | rfl | (exfalso; first | (simp [seqI_length] at *; done) | (simp [seqI_length] at *; omega))
                ·
                  have h8' := h8
                  try simp only [decide_eq_true_eq, decide_eq_false_iff_not, Bool.not_eq_true', Bool.not_eq_false', Bool.not_false, Bool.not_true] at h8'
                  refine t_skip ?_
                  refine t_seq ?_
                  refine t_seq ?_
                  refine t_region ?_
                  refine r_op (o_move rfl rfl) ?_
                  refine r_op (o_move rfl rfl) ?_
                  refine r_op (o_bin rfl rfl rfl rfl) ?_
                  refine r_end ?_
                  refine t_cond rfl (fun h9 => ?_) (fun h9 => ?_)
                  ·
                    have h9' := h9
                    try simp only [decide_eq_true_eq, decide_eq_false_iff_not, Bool.not_eq_true', Bool.not_eq_false', Bool.not_false, Bool.not_true] at h9'
                    refine t_seq ?_
                    refine t_region ?_
                    refine r_op (o_assign rfl rfl) ?_
                    refine r_end ?_
                    refine t_ret Try.func4 (.tmp rfl .nil) rfl fun E S w u hI hd => ?_
                    refine post_mk hI hd ?_ trivial rfl rfl rfl <;> clear hI hd
                    all_goals first | rfl | (exfalso; first | (simp [seqI_length] at *; done) | (simp [seqI_length] at *; omega))
                  ·
                    have h9' := h9
                    try simp only [decide_eq_true_eq, decide_eq_false_iff_not, Bool.not_eq_true', Bool.not_eq_false', Bool.not_false, Bool.not_true] at h9'
                    refine t_skip ?_
                    refine t_seq ?_
                    refine t_region ?_
                    refine r_op (o_loadAb rfl (n := 1) (by kernel_rfl) (by kernel_rfl) rfl rfl rfl) ?_
                    refine r_op (o_call 22 26 false (Go.Proofs.enters_of Try.func18 (by kernel_rfl) rfl) (c_laws_toUnionFind (l) (by first | omega | assumption | exact ⟨hl, ho⟩ | (simp only [seqI_length]; done) | (simp only [seqI_length]; omega))) rfl (.cons rfl (.agg (.cons .t0 .nil)) .nil) rfl rfl rfl) ?_
                    refine r_op (o_move rfl rfl) ?_
                    refine r_op (o_move rfl rfl) ?_
                    refine r_op (o_call 26 29 false (Go.Proofs.enters_of Try.func19 (by kernel_rfl) rfl) (c_impl_Union ((l)) (a) (b) (by first | omega | assumption | exact ⟨hl, ho⟩ | (simp only [seqI_length]; done) | (simp only [seqI_length]; omega)) (by first | omega | assumption | exact ⟨hl, ho⟩ | (simp only [seqI_length]; done) | (simp only [seqI_length]; omega)) (by first | omega | assumption | exact ⟨hl, ho⟩ | (simp only [seqI_length]; done) | (simp only [seqI_length]; omega)) (by first | omega | assumption | exact ⟨hl, ho⟩ | (simp only [seqI_length]; done) | (simp only [seqI_length]; omega))) rfl (.cons rfl (.agg (.cons (.own rfl) .nil)) (.cons rfl (.c .t0) (.cons rfl (.c .t0) .nil))) rfl rfl rfl) ?_
                    refine r_op (o_move rfl rfl) ?_
                    refine r_op (o_extract rfl rfl rfl rfl) ?_
                    refine r_op (o_extract rfl rfl rfl rfl) ?_
                    refine r_op (o_alloc 29 (zs := [.slice none 0 0]) rfl rfl (by kernel_rfl) rfl) ?_
                    refine r_op (o_storeb (n := 1) (by kernel_rfl) rfl rfl rfl rfl rfl rfl) ?_
                    refine r_op (o_assign rfl rfl) ?_
                    refine r_end ?_
                    refine t_seq ?_
                    refine t_seq ?_
                    refine t_region ?_
                    refine r_op (o_loadAb rfl (n := 1) (by kernel_rfl) (by kernel_rfl) rfl rfl rfl) ?_
                    refine r_op (o_loadAb rfl (n := 1) (by kernel_rfl) (by kernel_rfl) rfl rfl rfl) ?_
                    refine r_op (o_call 30 30 false (Go.Proofs.enters_of Try.func20 (by kernel_rfl) rfl) (c_laws_eqUnionFind (uniL ((l)) (a) (b)) (uniL ((l)) (a) (b)) (by first | omega | assumption | exact ⟨hl, ho⟩ | (simp only [seqI_length]; done) | (simp only [seqI_length]; omega))) rfl (.cons rfl (.agg (.cons (.own rfl) .nil)) (.cons rfl (.agg (.cons (.own rfl) .nil)) .nil)) rfl rfl rfl) ?_
                    refine r_op (o_not rfl rfl) ?_
                    refine r_op (o_move rfl rfl) ?_
                    refine r_guard rfl rfl rfl (fun g10 => ?_) (fun g10 => ?_)
                    ·
                      have g10' := g10
                      try simp only [decide_eq_true_eq, decide_eq_false_iff_not, Bool.not_eq_true', Bool.not_eq_false', Bool.not_false, Bool.not_true] at g10'
                      refine r_op (o_move rfl rfl) ?_
                      refine r_guard rfl rfl rfl (fun _ => ?_) (fun h' => (Bool.noConfusion (g10.symm.trans h')))
                      refine r_op (o_move rfl rfl) ?_
                      refine r_guard rfl rfl rfl (fun _ => ?_) (fun h' => (Bool.noConfusion (g10.symm.trans h')))
                      refine r_op (o_bin rfl rfl rfl rfl) ?_
                      refine r_op (o_pickF rfl rfl g10 rfl) ?_
                      refine r_end ?_
                      refine t_cond rfl (fun h11 => ?_) (fun h11 => ?_)
                      ·
                        have h11' := h11
                        try simp only [decide_eq_true_eq, decide_eq_false_iff_not, Bool.not_eq_true', Bool.not_eq_false', Bool.not_false, Bool.not_true] at h11'
                        refine t_seq ?_
                        refine t_region ?_
                        refine r_op (o_assign rfl rfl) ?_
                        refine r_end ?_
                        refine t_ret Try.func4 (.tmp rfl .nil) rfl fun E S w u hI hd => ?_
                        refine post_mk hI hd ?_ trivial rfl rfl rfl <;> clear hI hd
                        all_goals first | rfl | (exfalso; first | (simp [seqI_length] at *; done) | (simp [seqI_length] at *; omega))
                      ·
                        have h11' := h11
                        try simp only [decide_eq_true_eq, decide_eq_false_iff_not, Bool.not_eq_true', Bool.not_eq_false', Bool.not_false, Bool.not_true] at h11'
                        refine t_skip ?_
                        refine t_seq ?_
                        refine t_region ?_
                        refine r_op (o_assign rfl rfl) ?_
                        refine r_end ?_
                        refine t_seq ?_
                        refine t_region ?_
                        refine r_op (o_loadAb rfl (n := 1) (by kernel_rfl) (by kernel_rfl) rfl rfl rfl) ?_
                        refine r_op (o_move rfl rfl) ?_
                        refine r_op (o_call 30 30 false (Go.Proofs.enters_of Try.func22 (by kernel_rfl) rfl) (c_laws_heldUnionFind (seqI (1) (uniL ((l)) (a) (b)).length) (1) (by first | omega | assumption | exact ⟨hl, ho⟩ | (simp only [seqI_length]; done) | (simp only [seqI_length]; omega)) (by first | omega | assumption | exact ⟨hl, ho⟩ | (simp only [seqI_length]; done) | (simp only [seqI_length]; omega))) rfl (.cons rfl (.agg (.cons (.own rfl) .nil)) (.cons rfl (.c .t0) .nil)) rfl rfl rfl) ?_
                        refine r_op (o_assign rfl rfl) ?_
                        refine r_end ?_
                        refine t_seq ?_
                        refine t_seq ?_
                        refine t_region ?_
                        refine r_op (o_move rfl rfl) ?_
                        refine r_op (o_bin rfl rfl rfl rfl) ?_
                        refine r_end ?_
                        refine t_cond rfl (fun h12 => ?_) (fun h12 => ?_)
                        ·
                          have h12' := h12
                          try simp only [decide_eq_true_eq, decide_eq_false_iff_not, Bool.not_eq_true', Bool.not_eq_false', Bool.not_false, Bool.not_true] at h12'
                          refine t_seq ?_
                          refine t_region ?_
                          refine r_op (o_assign rfl rfl) ?_
                          refine r_end ?_
                          refine t_ret Try.func4 (.tmp rfl .nil) rfl fun E S w u hI hd => ?_
                          refine post_mk hI hd ?_ trivial rfl rfl rfl <;> clear hI hd
                          all_goals first | rfl | (exfalso; first | (simp [seqI_length] at *; done) | (simp [seqI_length] at *; omega))
                        ·
                          have h12' := h12
                          try simp only [decide_eq_true_eq, decide_eq_false_iff_not, Bool.not_eq_true', Bool.not_eq_false', Bool.not_false, Bool.not_true] at h12'
                          refine t_skip ?_
                          refine t_seq ?_
                          refine t_seq ?_
                          refine t_region ?_
                          refine r_op (o_move rfl rfl) ?_
                          refine r_op (o_move rfl rfl) ?_
                          refine r_op (o_bin rfl rfl rfl rfl) ?_
                          refine r_end ?_
                          refine t_cond rfl (fun h13 => ?_) (fun h13 => ?_)
                          ·
                            have h13' := h13
                            try simp only [decide_eq_true_eq, decide_eq_false_iff_not, Bool.not_eq_true', Bool.not_eq_false', Bool.not_false, Bool.not_true] at h13'
                            refine t_seq ?_
                            refine t_region ?_
                            refine r_op (o_assign rfl rfl) ?_
                            refine r_end ?_
                            refine t_ret Try.func4 (.tmp rfl .nil) rfl fun E S w u hI hd => ?_
                            refine post_mk hI hd ?_ trivial rfl rfl rfl <;> clear hI hd
                            all_goals first | rfl | (exfalso; first | (simp [seqI_length] at *; done) | (simp [seqI_length] at *; omega))
                          ·
                            have h13' := h13
                            try simp only [decide_eq_true_eq, decide_eq_false_iff_not, Bool.not_eq_true', Bool.not_eq_false', Bool.not_false, Bool.not_true] at h13'
                            refine t_skip ?_
                            refine t_seq ?_
                            refine t_region ?_
                            refine r_op (o_assign rfl rfl) ?_
                            refine r_end ?_
                            refine t_ret Try.func4 (.tmp rfl .nil) rfl fun E S w u hI hd => ?_
                            refine post_mk hI hd ?_ trivial rfl rfl rfl <;> clear hI hd
                            all_goals first | rfl | (exfalso; first | (simp [seqI_length] at *; done) | (simp [seqI_length] at *; omega))
                    ·
                      have g10' := g10
                      try simp only [decide_eq_true_eq, decide_eq_false_iff_not, Bool.not_eq_true', Bool.not_eq_false', Bool.not_false, Bool.not_true] at g10'
                      refine r_guard rfl rfl rfl (fun h' => (Bool.noConfusion (g10.symm.trans h'))) (fun _ => ?_)
                      refine r_guard rfl rfl rfl (fun h' => (Bool.noConfusion (g10.symm.trans h'))) (fun _ => ?_)
                      refine r_op (o_pickT rfl rfl g10 rfl) ?_
                      refine r_end ?_
                      refine t_cond rfl (fun _ => ?_) (fun h' => Bool.noConfusion (rfl.symm.trans h'))
                      refine t_seq ?_
                      refine t_region ?_
                      refine r_op (o_assign rfl rfl) ?_
                      refine r_end ?_
                      refine t_ret Try.func4 (.tmp rfl .nil) rfl fun E S w u hI hd => ?_
                      refine post_mk hI hd ?_ trivial rfl rfl rfl <;> clear hI hd
                      all_goals first | rfl | (exfalso; first | (simp [seqI_length] at *; done) | (simp [seqI_length] at *; omega))
            ·
              have g6' := g6
              try simp only [decide_eq_true_eq, decide_eq_false_iff_not, Bool.not_eq_true', Bool.not_eq_false', Bool.not_false, Bool.not_true] at g6'
              refine r_guard rfl rfl rfl (fun h' => (Bool.noConfusion (g6.symm.trans h'))) (fun _ => ?_)
              refine r_guard rfl rfl rfl (fun h' => (Bool.noConfusion (g6.symm.trans h'))) (fun _ => ?_)
              refine r_op (o_pickT rfl rfl g6 rfl) ?_
              refine r_end ?_
              refine t_cond rfl (fun _ => ?_) (fun h' => Bool.noConfusion (rfl.symm.trans h'))
              refine t_seq ?_
              refine t_region ?_
              refine r_op (o_assign rfl rfl) ?_
              refine r_end ?_
              refine t_ret Try.func4 (.tmp rfl .nil) rfl fun E S w u hI hd => ?_
              refine post_mk hI hd ?_ trivial rfl rfl rfl <;> clear hI hd
              all_goals first | rfl | (exfalso; first | (simp [seqI_length] at *; done) | (simp [seqI_length] at *; omega))
          ·
            have g5' := g5
            try simp only [decide_eq_true_eq, decide_eq_false_iff_not, Bool.not_eq_true', Bool.not_eq_false', Bool.not_false, Bool.not_true] at g5'
            refine r_guard rfl rfl rfl (fun h' => (Bool.noConfusion (g5.symm.trans h'))) (fun _ => ?_)
            refine r_guard rfl rfl rfl (fun h' => (Bool.noConfusion (g5.symm.trans h'))) (fun _ => ?_)
            refine r_guard rfl rfl rfl (fun h' => (Bool.noConfusion (g5.symm.trans h'))) (fun _ => ?_)
            refine r_op (o_pickT rfl rfl g5 rfl) ?_
            refine r_op (o_move rfl rfl) ?_
            refine r_guard rfl rfl rfl (fun h' => (Bool.noConfusion (rfl.symm.trans h'))) (fun _ => ?_)
            refine r_guard rfl rfl rfl (fun h' => (Bool.noConfusion (rfl.symm.trans h'))) (fun _ => ?_)
            refine r_guard rfl rfl rfl (fun h' => (Bool.noConfusion (rfl.symm.trans h'))) (fun _ => ?_)
            refine r_op (o_pickT rfl rfl rfl rfl) ?_
            refine r_end ?_
            refine t_cond rfl (fun _ => ?_) (fun h' => Bool.noConfusion (rfl.symm.trans h'))
            refine t_seq ?_
            refine t_region ?_
            refine r_op (o_assign rfl rfl) ?_
            refine r_end ?_
            refine t_ret Try.func4 (.tmp rfl .nil) rfl fun E S w u hI hd => ?_
            refine post_mk hI hd ?_ trivial rfl rfl rfl <;> clear hI hd
            all_goals first | rfl | (exfalso; first | (simp [seqI_length] at *; done) | (simp [seqI_length] at *; omega))
    ·
      have g2' := g2
      try simp only [decide_eq_true_eq, decide_eq_false_iff_not, Bool.not_eq_true', Bool.not_eq_false', Bool.not_false, Bool.not_true] at g2'
      refine r_guard rfl rfl rfl (fun h' => (Bool.noConfusion (g2.symm.trans h'))) (fun _ => ?_)
      refine r_guard rfl rfl rfl (fun h' => (Bool.noConfusion (g2.symm.trans h'))) (fun _ => ?_)
      refine r_op (o_pickT rfl rfl g2 rfl) ?_
      refine r_end ?_
      refine t_cond rfl (fun _ => ?_) (fun h' => Bool.noConfusion (rfl.symm.trans h'))
      refine t_seq ?_
      refine t_region ?_
      refine r_op (o_assign rfl rfl) ?_
      refine r_end ?_
      refine t_ret Try.func4 (.tmp rfl .nil) rfl fun E S w u hI hd => ?_
      refine post_mk hI hd ?_ trivial rfl rfl rfl <;> clear hI hd
      all_goals first | rfl | (exfalso; first | (simp [seqI_length] at *; done) | (simp [seqI_length] at *; omega))
end Go.Eng
