/- What functions answer that several laws of the seat reach. Conditions: as each says. -/
import Derived.Test.YtdmionnnkaohdaaFnsBd
import Derived.Test.YtdmionnnkaohdaaEngZm
import Derived.Test.YtdmionnnkaohdaaChecked
set_option linter.unusedVariables false
set_option linter.unusedSimpArgs false
namespace Go.Eng
open Go Go.RowKit Go.Proofs
set_option maxHeartbeats 1000000 in
set_option maxRecDepth 10000 in
theorem c_impl_NullNumber (v : Int) (hv : -9223372036854775808 ≤ v) (hv2 : v ≤ 9223372036854775807) : Pu Try.prog 73 [.c (.t none (.v (.int .i64 (v))))] [] 0 (.tup [(false, [.t none (.v (.int .i64 (if -40 ≤ v ∧ v ≤ -1 then -1 - v else 0)))]), (false, [.t none (.v (.bool (decide (-40 ≤ v ∧ v ≤ -1))))])]) := by
  refine pu_enter Try.func73 rfl (Nat.le_of_ble_eq_true rfl) fun w S => ?_
  refine t_seq ?_
  refine t_region ?_
  refine r_op (o_assign rfl rfl) ?_
  refine r_op (o_assign rfl rfl) ?_
  refine r_end ?_
  refine t_seq ?_
  refine t_seq ?_
  refine t_region ?_
  refine r_op (o_move rfl rfl) ?_
  refine r_op (o_bin rfl rfl rfl rfl) ?_
  refine r_op (o_call 0 0 false (Go.Proofs.enters_of Try.func81 (by kernel_rfl) rfl) (c_impl_within (IntKind.i64.wrap ((-1) - v)) (0) (39)) rfl (.cons rfl (.c .t0) (.cons rfl (.c .t0) (.cons rfl (.c .t0) .nil))) rfl rfl rfl) ?_
  refine r_op (o_not rfl rfl) ?_
  refine r_end ?_
  refine t_cond rfl (fun h1 => ?_) (fun h1 => ?_)
  ·
    have h1' := h1
    try simp only [decide_eq_true_eq, decide_eq_false_iff_not, Bool.not_eq_true', Bool.not_eq_false', Bool.not_false, Bool.not_true] at h1'
    refine t_seq ?_
    refine t_region ?_
    refine r_op (o_assign rfl rfl) ?_
    refine r_op (o_assign rfl rfl) ?_
    refine r_end ?_
    refine t_ret Try.func73 (.tmp rfl (.tmp rfl .nil)) rfl fun E S w u hI hd => ?_
    refine post_mk hI hd ?_ trivial rfl rfl rfl <;> clear hI hd
    all_goals first | rfl | (first | (have hn : ¬(-40 ≤ v ∧ v ≤ -1) := by (simp only [IntKind.wrap_i64] at *; omega)); (simp [hn]; done) | (have hn : (-40 ≤ v ∧ v ≤ -1) := by (simp only [IntKind.wrap_i64] at *; omega)); (have e : IntKind.i64.wrap (-1 - v) = -1 - v := wr64 (by omega) (by omega)); (simp [hn, e]; done))
  ·
    have h1' := h1
    try simp only [decide_eq_true_eq, decide_eq_false_iff_not, Bool.not_eq_true', Bool.not_eq_false', Bool.not_false, Bool.not_true] at h1'
    refine t_skip ?_
    refine t_seq ?_
    refine t_region ?_
    refine r_op (o_move rfl rfl) ?_
    refine r_op (o_bin rfl rfl rfl rfl) ?_
    refine r_op (o_assign rfl rfl) ?_
    refine r_op (o_assign rfl rfl) ?_
    refine r_end ?_
    refine t_ret Try.func73 (.tmp rfl (.tmp rfl .nil)) rfl fun E S w u hI hd => ?_
    refine post_mk hI hd ?_ trivial rfl rfl rfl <;> clear hI hd
    all_goals first | rfl | (first | (have hn : ¬(-40 ≤ v ∧ v ≤ -1) := by (simp only [IntKind.wrap_i64] at *; omega)); (simp [hn]; done) | (have hn : (-40 ≤ v ∧ v ≤ -1) := by (simp only [IntKind.wrap_i64] at *; omega)); (have e : IntKind.i64.wrap (-1 - v) = -1 - v := wr64 (by omega) (by omega)); (simp [hn, e]; done))
set_option maxHeartbeats 1000000 in
set_option maxRecDepth 10000 in
theorem c_spec_NullNumber (v : Int) (hv : -9223372036854775808 ≤ v) (hv2 : v ≤ 9223372036854775807) : Pu Try.prog 63 [.c (.t none (.v (.int .i64 (v))))] [] 0 (.tup [(false, [.t none (.v (.int .i64 (if -40 ≤ v ∧ v ≤ -1 then -1 - v else 0)))]), (false, [.t none (.v (.bool (decide (-40 ≤ v ∧ v ≤ -1))))])]) := by
  refine pu_enter Try.func63 rfl (Nat.le_of_ble_eq_true rfl) fun w S => ?_
  refine t_seq ?_
  refine t_region ?_
  refine r_op (o_assign rfl rfl) ?_
  refine r_op (o_assign rfl rfl) ?_
  refine r_end ?_
  refine t_seq ?_
  refine t_seq ?_
  refine t_region ?_
  refine r_op (o_move rfl rfl) ?_
  refine r_op (o_bin rfl rfl rfl rfl) ?_
  refine r_op (o_move rfl rfl) ?_
  refine r_guard rfl rfl rfl (fun g1 => ?_) (fun g1 => ?_)
  ·
    have g1' := g1
    try simp only [decide_eq_true_eq, decide_eq_false_iff_not, Bool.not_eq_true', Bool.not_eq_false', Bool.not_false, Bool.not_true] at g1'
    refine r_op (o_move rfl rfl) ?_
    refine r_guard rfl rfl rfl (fun _ => ?_) (fun h' => (Bool.noConfusion (g1.symm.trans h')))
    refine r_op (o_bin rfl rfl rfl rfl) ?_
    refine r_guard rfl rfl rfl (fun _ => ?_) (fun h' => (Bool.noConfusion (g1.symm.trans h')))
    refine r_op (o_call 0 0 false (Go.Proofs.enters_of Try.func74 (by kernel_rfl) rfl) (c_spec_l1In (IntKind.i64.wrap ((-1) - v)) (0) (39)) rfl (.cons rfl (.c .t0) (.cons rfl (.c .t0) (.cons rfl (.c .t0) .nil))) rfl rfl rfl) ?_
    refine r_guard rfl rfl rfl (fun _ => ?_) (fun h' => (Bool.noConfusion (g1.symm.trans h')))
    refine r_op (o_not rfl rfl) ?_
    refine r_op (o_pickF rfl rfl g1 rfl) ?_
    refine r_end ?_
    refine t_cond rfl (fun h2 => ?_) (fun h2 => ?_)
    ·
      have h2' := h2
      try simp only [decide_eq_true_eq, decide_eq_false_iff_not, Bool.not_eq_true', Bool.not_eq_false', Bool.not_false, Bool.not_true] at h2'
      refine t_seq ?_
      refine t_region ?_
      refine r_op (o_assign rfl rfl) ?_
      refine r_op (o_assign rfl rfl) ?_
      refine r_end ?_
      refine t_ret Try.func63 (.tmp rfl (.tmp rfl .nil)) rfl fun E S w u hI hd => ?_
      refine post_mk hI hd ?_ trivial rfl rfl rfl <;> clear hI hd
      all_goals first | rfl | (first | (have hn : ¬(-40 ≤ v ∧ v ≤ -1) := by (simp only [IntKind.wrap_i64] at *; omega)); (simp [hn]; done) | (have hn : (-40 ≤ v ∧ v ≤ -1) := by (simp only [IntKind.wrap_i64] at *; omega)); (have e : IntKind.i64.wrap (-1 - v) = -1 - v := wr64 (by omega) (by omega)); (simp [hn, e]; done))
    ·
      have h2' := h2
      try simp only [decide_eq_true_eq, decide_eq_false_iff_not, Bool.not_eq_true', Bool.not_eq_false', Bool.not_false, Bool.not_true] at h2'
      refine t_skip ?_
      refine t_seq ?_
      refine t_region ?_
      refine r_op (o_move rfl rfl) ?_
      refine r_op (o_bin rfl rfl rfl rfl) ?_
      refine r_op (o_assign rfl rfl) ?_
      refine r_op (o_assign rfl rfl) ?_
      refine r_end ?_
      refine t_ret Try.func63 (.tmp rfl (.tmp rfl .nil)) rfl fun E S w u hI hd => ?_
      refine post_mk hI hd ?_ trivial rfl rfl rfl <;> clear hI hd
      all_goals first | rfl | (first | (have hn : ¬(-40 ≤ v ∧ v ≤ -1) := by (simp only [IntKind.wrap_i64] at *; omega)); (simp [hn]; done) | (have hn : (-40 ≤ v ∧ v ≤ -1) := by (simp only [IntKind.wrap_i64] at *; omega)); (have e : IntKind.i64.wrap (-1 - v) = -1 - v := wr64 (by omega) (by omega)); (simp [hn, e]; done))
  ·
    have g1' := g1
    try simp only [decide_eq_true_eq, decide_eq_false_iff_not, Bool.not_eq_true', Bool.not_eq_false', Bool.not_false, Bool.not_true] at g1'
    refine r_guard rfl rfl rfl (fun h' => (Bool.noConfusion (g1.symm.trans h'))) (fun _ => ?_)
    refine r_guard rfl rfl rfl (fun h' => (Bool.noConfusion (g1.symm.trans h'))) (fun _ => ?_)
    refine r_guard rfl rfl rfl (fun h' => (Bool.noConfusion (g1.symm.trans h'))) (fun _ => ?_)
    refine r_op (o_pickT rfl rfl g1 rfl) ?_
    refine r_end ?_
    refine t_cond rfl (fun _ => ?_) (fun h' => Bool.noConfusion (rfl.symm.trans h'))
    refine t_seq ?_
    refine t_region ?_
    refine r_op (o_assign rfl rfl) ?_
    refine r_op (o_assign rfl rfl) ?_
    refine r_end ?_
    refine t_ret Try.func63 (.tmp rfl (.tmp rfl .nil)) rfl fun E S w u hI hd => ?_
    refine post_mk hI hd ?_ trivial rfl rfl rfl <;> clear hI hd
    all_goals first | rfl | (first | (have hn : ¬(-40 ≤ v ∧ v ≤ -1) := by (simp only [IntKind.wrap_i64] at *; omega)); (simp [hn]; done) | (have hn : (-40 ≤ v ∧ v ≤ -1) := by (simp only [IntKind.wrap_i64] at *; omega)); (have e : IntKind.i64.wrap (-1 - v) = -1 - v := wr64 (by omega) (by omega)); (simp [hn, e]; done))
set_option maxHeartbeats 1000000 in
set_option maxRecDepth 10000 in
theorem c_impl_IsValidValue (v : Int) : Pu Try.prog 79 [.c (.t none (.v (.int .i64 (v))))] [] 0 (.c (.t none (.v (.bool (decide (-40 ≤ v ∧ v ≤ 9)))))) := by
  refine pu_enter Try.func79 rfl (Nat.le_of_ble_eq_true rfl) fun w S => ?_
  refine t_seq ?_
  refine t_region ?_
  refine r_op (o_assign rfl rfl) ?_
  refine r_end ?_
  refine t_seq ?_
  refine t_region ?_
  refine r_op (o_move rfl rfl) ?_
  refine r_op (o_call 0 0 false (Go.Proofs.enters_of Try.func81 (by kernel_rfl) rfl) (c_impl_within (v) (-40) (9)) rfl (.cons rfl (.c .t0) (.cons rfl (.c .t0) (.cons rfl (.c .t0) .nil))) rfl rfl rfl) ?_
  refine r_op (o_assign rfl rfl) ?_
  refine r_end ?_
  refine t_ret Try.func79 (.tmp rfl .nil) rfl fun E S w u hI hd => ?_
  refine post_mk hI hd ?_ trivial rfl rfl rfl <;> clear hI hd
  all_goals first | rfl | (rfl)
set_option maxHeartbeats 1000000 in
set_option maxRecDepth 10000 in
theorem c_spec_IsValidValue (v : Int) (hv : -9223372036854775808 ≤ v) (hv2 : v ≤ 9223372036854775807) : Pu Try.prog 64 [.c (.t none (.v (.int .i64 (v))))] [] 0 (.c (.t none (.v (.bool (decide (-40 ≤ v ∧ v ≤ 9)))))) := by
  refine pu_enter Try.func64 rfl (Nat.le_of_ble_eq_true rfl) fun w S => ?_
  refine t_seq ?_
  refine t_region ?_
  refine r_op (o_assign rfl rfl) ?_
  refine r_end ?_
  refine t_seq ?_
  refine t_region ?_
  refine r_op (o_move rfl rfl) ?_
  refine r_op (o_call 0 0 false (Go.Proofs.enters_of Try.func63 (by kernel_rfl) rfl) (c_spec_NullNumber (v) (by first | omega | (simp; omega)) (by first | omega | (simp; omega))) rfl (.cons rfl (.c .t0) .nil) rfl rfl rfl) ?_
  refine r_op (o_move rfl rfl) ?_
  refine r_op (o_extract rfl rfl rfl rfl) ?_
  refine r_op (o_extract rfl rfl rfl rfl) ?_
  refine r_op (o_assign rfl rfl) ?_
  refine r_op (o_assign rfl rfl) ?_
  refine r_end ?_
  refine t_seq ?_
  refine t_region ?_
  refine r_op (o_move rfl rfl) ?_
  refine r_op (o_move rfl rfl) ?_
  refine r_guard rfl rfl rfl (fun g1 => ?_) (fun g1 => ?_)
  ·
    have g1' := g1
    try simp only [decide_eq_true_eq, decide_eq_false_iff_not, Bool.not_eq_true', Bool.not_eq_false', Bool.not_false, Bool.not_true] at g1'
    refine r_op (o_move rfl rfl) ?_
    refine r_guard rfl rfl rfl (fun _ => ?_) (fun h' => (Bool.noConfusion (g1.symm.trans h')))
    refine r_op (o_call 0 0 false (Go.Proofs.enters_of Try.func74 (by kernel_rfl) rfl) (c_spec_l1In (v) (0) (9)) rfl (.cons rfl (.c .t0) (.cons rfl (.c .t0) (.cons rfl (.c .t0) .nil))) rfl rfl rfl) ?_
    refine r_op (o_pickF rfl rfl g1 rfl) ?_
    refine r_op (o_assign rfl rfl) ?_
    refine r_end ?_
    refine t_ret Try.func64 (.tmp rfl .nil) rfl fun E S w u hI hd => ?_
    refine post_mk hI hd ?_ trivial rfl rfl rfl <;> clear hI hd
    all_goals first | rfl | (first | exact scD (by omega) | exact scTrue (by omega) | exact scFalse (by omega))
  ·
    have g1' := g1
    try simp only [decide_eq_true_eq, decide_eq_false_iff_not, Bool.not_eq_true', Bool.not_eq_false', Bool.not_false, Bool.not_true] at g1'
    refine r_guard rfl rfl rfl (fun h' => (Bool.noConfusion (g1.symm.trans h'))) (fun _ => ?_)
    refine r_op (o_pickT rfl rfl g1 rfl) ?_
    refine r_op (o_assign rfl rfl) ?_
    refine r_end ?_
    refine t_ret Try.func64 (.tmp rfl .nil) rfl fun E S w u hI hd => ?_
    refine post_mk hI hd ?_ trivial rfl rfl rfl <;> clear hI hd
    all_goals first | rfl | (first | exact scD (by omega) | exact scTrue (by omega) | exact scFalse (by omega))
set_option maxHeartbeats 1000000 in
set_option maxRecDepth 10000 in
theorem c_cmp_isNaN_int_ (x : Int) : Pu Try.prog 130 [.c (.t none (.v (.int .i64 (x))))] [] 0 (.c (.t none (.v (.bool (false))))) := by
  refine pu_enter Try.func130 rfl (Nat.le_of_ble_eq_true rfl) fun w S => ?_
  refine t_seq ?_
  refine t_region ?_
  refine r_op (o_assign rfl rfl) ?_
  refine r_end ?_
  refine t_seq ?_
  refine t_region ?_
  refine r_op (o_move rfl rfl) ?_
  refine r_op (o_move rfl rfl) ?_
  refine r_op (o_bin rfl rfl rfl rfl) ?_
  refine r_op (o_assign rfl rfl) ?_
  refine r_end ?_
  refine t_ret Try.func130 (.tmp rfl .nil) rfl fun E S w u hI hd => ?_
  refine post_mk hI hd ?_ trivial rfl rfl rfl <;> clear hI hd
  all_goals first | rfl | (simp)
set_option maxHeartbeats 1000000 in
set_option maxRecDepth 10000 in
theorem c_spec_l4Ints (a b : List Int) (ha : a.length ≤ 4611686018427387904) (hb : b.length ≤ 4611686018427387904) : Pu Try.prog 77 [.c (.t none (.sl 1 encI (a))), .c (.t none (.sl 1 encI (b)))] [] 0 (.c (.t none (.v (.int .i64 (cmpL a b))))) := by
  refine pu_enter Try.func77 rfl (Nat.le_of_ble_eq_true rfl) fun w S => ?_
  refine t_seq ?_
  refine t_region ?_
  refine r_op (o_assign rfl rfl) ?_
  refine r_end ?_
  refine t_seq ?_
  refine t_seq ?_
  refine t_region ?_
  refine r_op (o_assign rfl rfl) ?_
  refine r_end ?_
  refine t_block ?_
  refine t_loopL (fun m => ⟨[(0, some (.c (.t none (.sl 1 encI (a))))), (1, some (.c (.t none (.sl 1 encI (b))))), (5, some (.c (.t none (.v (.int .i64 ((m : Int)))))))], [], 0⟩ : Nat → St) (fun m => m ≤ a.length ∧ m ≤ b.length ∧ a.take m = b.take m) (fun m => a.length - m) 0 ⟨⟨rfl, ⟨rfl, ⟨rfl, trivial⟩⟩⟩, trivial, rfl⟩ (by exact ⟨Nat.zero_le _, Nat.zero_le _, rfl⟩) ?_
  rintro m hI ih0
  try dsimp only at hI ih0
  obtain ⟨i1, i2, i3⟩ := hI
  refine t_seq ?_
  refine t_seq ?_
  refine t_region ?_
  refine r_op (o_move rfl rfl) ?_
  refine r_op (o_move rfl rfl) ?_
  refine r_op (o_len rfl rfl rfl) ?_
  refine r_op (o_bin rfl rfl rfl rfl) ?_
  refine r_op (o_move rfl rfl) ?_
  refine r_guard rfl rfl rfl (fun g1 => ?_) (fun g1 => ?_)
  ·
    have g1' := g1
    try simp only [decide_eq_true_eq, decide_eq_false_iff_not, Bool.not_eq_true', Bool.not_eq_false', Bool.not_false, Bool.not_true] at g1'
    refine r_op (o_move rfl rfl) ?_
    refine r_guard rfl rfl rfl (fun _ => ?_) (fun h' => (Bool.noConfusion (g1.symm.trans h')))
    refine r_op (o_move rfl rfl) ?_
    refine r_guard rfl rfl rfl (fun _ => ?_) (fun h' => (Bool.noConfusion (g1.symm.trans h')))
    refine r_op (o_len rfl rfl rfl) ?_
    refine r_guard rfl rfl rfl (fun _ => ?_) (fun h' => (Bool.noConfusion (g1.symm.trans h')))
    refine r_op (o_bin rfl rfl rfl rfl) ?_
    refine r_op (o_pickT rfl rfl g1 rfl) ?_
    refine r_end ?_
    refine t_cond rfl (fun h2 => ?_) (fun h2 => ?_)
    ·
      have h2' := h2
      try simp only [decide_eq_true_eq, decide_eq_false_iff_not, Bool.not_eq_true', Bool.not_eq_false', Bool.not_false, Bool.not_true] at h2'
      refine t_skip ?_
      refine t_seq ?_
      refine t_block ?_
      refine t_seq ?_
      refine t_seq ?_
      refine t_draw (fun _ => true) (by kernel_rfl) ?_
      refine d_take 0 rfl rfl (by kernel_rfl) (by kernel_rfl) (by kernel_rfl) (p_move rfl) ?_
      refine d_take 1 rfl rfl (by kernel_rfl) (by kernel_rfl) (by kernel_rfl) (p_move rfl) ?_
      obtain ⟨z3, hz4, b5⟩ := at_get (xs := a) (n := (m : Int)) (by first | omega | (simp; omega)) (by first | omega | (simp; omega))
      refine d_take 2 rfl rfl (by kernel_rfl) (by kernel_rfl) (by kernel_rfl) (p_index (by kernel_rfl) rfl rfl b5 hz4) ?_
      refine d_take 3 rfl rfl (by kernel_rfl) (by kernel_rfl) (by kernel_rfl) (p_load1 (by kernel_rfl) rfl rfl) ?_
      refine d_take 4 rfl rfl (by kernel_rfl) (by kernel_rfl) (by kernel_rfl) (p_move rfl) ?_
      refine d_take 5 rfl rfl (by kernel_rfl) (by kernel_rfl) (by kernel_rfl) (p_move rfl) ?_
      obtain ⟨z6, hz7, b8⟩ := at_get (xs := b) (n := (m : Int)) (by first | omega | (simp; omega)) (by first | omega | (simp; omega))
      refine d_take 6 rfl rfl (by kernel_rfl) (by kernel_rfl) (by kernel_rfl) (p_index (by kernel_rfl) rfl rfl b8 hz7) ?_
      refine d_take 7 rfl rfl (by kernel_rfl) (by kernel_rfl) (by kernel_rfl) (p_load1 (by kernel_rfl) rfl rfl) ?_
      refine d_take 8 rfl rfl (by kernel_rfl) (by kernel_rfl) (by kernel_rfl) (p_bin rfl rfl rfl) ?_
      refine d_end (by kernel_rfl) ?_
      refine t_cond rfl (fun h9 => ?_) (fun h9 => ?_)
      ·
        have h9' := h9
        try simp only [decide_eq_true_eq, decide_eq_false_iff_not, Bool.not_eq_true', Bool.not_eq_false', Bool.not_false, Bool.not_true] at h9'
        refine t_seq ?_
        refine t_region ?_
        refine r_op (o_assign rfl rfl) ?_
        refine r_end ?_
        refine t_ret Try.func77 (.tmp rfl .nil) rfl fun E S w u hI hd => ?_
        refine post_mk hI hd ?_ trivial rfl rfl rfl <;> clear hI hd <;> (try clear ih0)
        all_goals first | rfl | (refine scI ?_; first | (rw [(cmpL_at i3 (by assumption) (by assumption)).1 (by omega)]; done) | (rw [(cmpL_at i3 (by assumption) (by assumption)).2 (by omega)]; done) | (rw [(cmpL_end i3 i1 i2).1 (by omega) (by omega)]; done) | (rw [(cmpL_end i3 i1 i2).2.1 (by omega) (by omega)]; done) | (rw [(cmpL_end i3 i1 i2).2.2 (by omega) (by omega)]; done))
      ·
        have h9' := h9
        try simp only [decide_eq_true_eq, decide_eq_false_iff_not, Bool.not_eq_true', Bool.not_eq_false', Bool.not_false, Bool.not_true] at h9'
        refine t_skip ?_
        refine t_seq ?_
        refine t_draw (fun _ => true) (by kernel_rfl) ?_
        refine d_take 0 rfl rfl (by kernel_rfl) (by kernel_rfl) (by kernel_rfl) (p_move rfl) ?_
        refine d_take 1 rfl rfl (by kernel_rfl) (by kernel_rfl) (by kernel_rfl) (p_move rfl) ?_
        refine d_take 2 rfl rfl (by kernel_rfl) (by kernel_rfl) (by kernel_rfl) (p_index (by kernel_rfl) rfl rfl b5 hz4) ?_
        refine d_take 3 rfl rfl (by kernel_rfl) (by kernel_rfl) (by kernel_rfl) (p_load1 (by kernel_rfl) rfl rfl) ?_
        refine d_take 4 rfl rfl (by kernel_rfl) (by kernel_rfl) (by kernel_rfl) (p_move rfl) ?_
        refine d_take 5 rfl rfl (by kernel_rfl) (by kernel_rfl) (by kernel_rfl) (p_move rfl) ?_
        refine d_take 6 rfl rfl (by kernel_rfl) (by kernel_rfl) (by kernel_rfl) (p_index (by kernel_rfl) rfl rfl b8 hz7) ?_
        refine d_take 7 rfl rfl (by kernel_rfl) (by kernel_rfl) (by kernel_rfl) (p_load1 (by kernel_rfl) rfl rfl) ?_
        refine d_take 8 rfl rfl (by kernel_rfl) (by kernel_rfl) (by kernel_rfl) (p_bin rfl rfl rfl) ?_
        refine d_end (by kernel_rfl) ?_
        refine t_cond rfl (fun h10 => ?_) (fun h10 => ?_)
        ·
          have h10' := h10
          try simp only [decide_eq_true_eq, decide_eq_false_iff_not, Bool.not_eq_true', Bool.not_eq_false', Bool.not_false, Bool.not_true] at h10'
          refine t_seq ?_
          refine t_region ?_
          refine r_op (o_assign rfl rfl) ?_
          refine r_end ?_
          refine t_ret Try.func77 (.tmp rfl .nil) rfl fun E S w u hI hd => ?_
          refine post_mk hI hd ?_ trivial rfl rfl rfl <;> clear hI hd <;> (try clear ih0)
          all_goals first | rfl | (refine scI ?_; first | (rw [(cmpL_at i3 (by assumption) (by assumption)).1 (by omega)]; done) | (rw [(cmpL_at i3 (by assumption) (by assumption)).2 (by omega)]; done) | (rw [(cmpL_end i3 i1 i2).1 (by omega) (by omega)]; done) | (rw [(cmpL_end i3 i1 i2).2.1 (by omega) (by omega)]; done) | (rw [(cmpL_end i3 i1 i2).2.2 (by omega) (by omega)]; done))
        ·
          have h10' := h10
          try simp only [decide_eq_true_eq, decide_eq_false_iff_not, Bool.not_eq_true', Bool.not_eq_false', Bool.not_false, Bool.not_true] at h10'
          refine t_skip ?_
          refine t_endblock ?_
          refine t_region ?_
          refine r_op (o_move rfl rfl) ?_
          refine r_op (o_bin rfl rfl rfl rfl) ?_
          refine r_op (o_assign rfl rfl) ?_
          refine r_end ?_
          refine t_le ?_ (ih0 (m + 1) (by (try dsimp only); omega) (by (try dsimp only); exact ⟨by omega, by omega, take_same i3 (same_at (by assumption) (by assumption) (by omega))⟩))
          exact ⟨⟨rfl, ⟨rfl, ⟨(eqI (wr64 (by omega) (by omega))), trivial⟩⟩⟩, trivial, rfl⟩
    ·
      have h2' := h2
      try simp only [decide_eq_true_eq, decide_eq_false_iff_not, Bool.not_eq_true', Bool.not_eq_false', Bool.not_false, Bool.not_true] at h2'
      refine t_exit rfl ?_
      refine t_seq ?_
      refine t_seq ?_
      refine t_region ?_
      refine r_op (o_move rfl rfl) ?_
      refine r_op (o_len rfl rfl rfl) ?_
      refine r_op (o_move rfl rfl) ?_
      refine r_op (o_len rfl rfl rfl) ?_
      refine r_op (o_bin rfl rfl rfl rfl) ?_
      refine r_end ?_
      refine t_cond rfl (fun h11 => ?_) (fun h11 => ?_)
      ·
        have h11' := h11
        try simp only [decide_eq_true_eq, decide_eq_false_iff_not, Bool.not_eq_true', Bool.not_eq_false', Bool.not_false, Bool.not_true] at h11'
        refine t_seq ?_
        refine t_region ?_
        refine r_op (o_assign rfl rfl) ?_
        refine r_end ?_
        refine t_ret Try.func77 (.tmp rfl .nil) rfl fun E S w u hI hd => ?_
        refine post_mk hI hd ?_ trivial rfl rfl rfl <;> clear hI hd <;> (try clear ih0)
        all_goals first | rfl | (refine scI ?_; first | (rw [(cmpL_at i3 (by assumption) (by assumption)).1 (by omega)]; done) | (rw [(cmpL_at i3 (by assumption) (by assumption)).2 (by omega)]; done) | (rw [(cmpL_end i3 i1 i2).1 (by omega) (by omega)]; done) | (rw [(cmpL_end i3 i1 i2).2.1 (by omega) (by omega)]; done) | (rw [(cmpL_end i3 i1 i2).2.2 (by omega) (by omega)]; done))
      ·
        have h11' := h11
        try simp only [decide_eq_true_eq, decide_eq_false_iff_not, Bool.not_eq_true', Bool.not_eq_false', Bool.not_false, Bool.not_true] at h11'
        refine t_skip ?_
        refine t_seq ?_
        refine t_seq ?_
        refine t_region ?_
        refine r_op (o_move rfl rfl) ?_
        refine r_op (o_len rfl rfl rfl) ?_
        refine r_op (o_move rfl rfl) ?_
        refine r_op (o_len rfl rfl rfl) ?_
        refine r_op (o_bin rfl rfl rfl rfl) ?_
        refine r_end ?_
        refine t_cond rfl (fun h12 => ?_) (fun h12 => ?_)
        ·
          have h12' := h12
          try simp only [decide_eq_true_eq, decide_eq_false_iff_not, Bool.not_eq_true', Bool.not_eq_false', Bool.not_false, Bool.not_true] at h12'
          refine t_seq ?_
          refine t_region ?_
          refine r_op (o_assign rfl rfl) ?_
          refine r_end ?_
          refine t_ret Try.func77 (.tmp rfl .nil) rfl fun E S w u hI hd => ?_
          refine post_mk hI hd ?_ trivial rfl rfl rfl <;> clear hI hd <;> (try clear ih0)
          all_goals first | rfl | (refine scI ?_; first | (rw [(cmpL_at i3 (by assumption) (by assumption)).1 (by omega)]; done) | (rw [(cmpL_at i3 (by assumption) (by assumption)).2 (by omega)]; done) | (rw [(cmpL_end i3 i1 i2).1 (by omega) (by omega)]; done) | (rw [(cmpL_end i3 i1 i2).2.1 (by omega) (by omega)]; done) | (rw [(cmpL_end i3 i1 i2).2.2 (by omega) (by omega)]; done))
        ·
          have h12' := h12
          try simp only [decide_eq_true_eq, decide_eq_false_iff_not, Bool.not_eq_true', Bool.not_eq_false', Bool.not_false, Bool.not_true] at h12'
          refine t_skip ?_
          refine t_seq ?_
          refine t_region ?_
          refine r_op (o_assign rfl rfl) ?_
          refine r_end ?_
          refine t_ret Try.func77 (.tmp rfl .nil) rfl fun E S w u hI hd => ?_
          refine post_mk hI hd ?_ trivial rfl rfl rfl <;> clear hI hd <;> (try clear ih0)
          all_goals first | rfl | (refine scI ?_; first | (rw [(cmpL_at i3 (by assumption) (by assumption)).1 (by omega)]; done) | (rw [(cmpL_at i3 (by assumption) (by assumption)).2 (by omega)]; done) | (rw [(cmpL_end i3 i1 i2).1 (by omega) (by omega)]; done) | (rw [(cmpL_end i3 i1 i2).2.1 (by omega) (by omega)]; done) | (rw [(cmpL_end i3 i1 i2).2.2 (by omega) (by omega)]; done))
  ·
    have g1' := g1
    try simp only [decide_eq_true_eq, decide_eq_false_iff_not, Bool.not_eq_true', Bool.not_eq_false', Bool.not_false, Bool.not_true] at g1'
    refine r_guard rfl rfl rfl (fun h' => (Bool.noConfusion (g1.symm.trans h'))) (fun _ => ?_)
    refine r_guard rfl rfl rfl (fun h' => (Bool.noConfusion (g1.symm.trans h'))) (fun _ => ?_)
    refine r_guard rfl rfl rfl (fun h' => (Bool.noConfusion (g1.symm.trans h'))) (fun _ => ?_)
    refine r_op (o_pickF rfl rfl g1 rfl) ?_
    refine r_end ?_
    refine t_cond rfl (fun h' => Bool.noConfusion (rfl.symm.trans h')) (fun _ => ?_)
    refine t_exit rfl ?_
    refine t_seq ?_
    refine t_seq ?_
    refine t_region ?_
    refine r_op (o_move rfl rfl) ?_
    refine r_op (o_len rfl rfl rfl) ?_
    refine r_op (o_move rfl rfl) ?_
    refine r_op (o_len rfl rfl rfl) ?_
    refine r_op (o_bin rfl rfl rfl rfl) ?_
    refine r_end ?_
    refine t_cond rfl (fun h13 => ?_) (fun h13 => ?_)
    ·
      have h13' := h13
      try simp only [decide_eq_true_eq, decide_eq_false_iff_not, Bool.not_eq_true', Bool.not_eq_false', Bool.not_false, Bool.not_true] at h13'
      refine t_seq ?_
      refine t_region ?_
      refine r_op (o_assign rfl rfl) ?_
      refine r_end ?_
      refine t_ret Try.func77 (.tmp rfl .nil) rfl fun E S w u hI hd => ?_
      refine post_mk hI hd ?_ trivial rfl rfl rfl <;> clear hI hd <;> (try clear ih0)
      all_goals first | rfl | (refine scI ?_; first | (rw [(cmpL_at i3 (by assumption) (by assumption)).1 (by omega)]; done) | (rw [(cmpL_at i3 (by assumption) (by assumption)).2 (by omega)]; done) | (rw [(cmpL_end i3 i1 i2).1 (by omega) (by omega)]; done) | (rw [(cmpL_end i3 i1 i2).2.1 (by omega) (by omega)]; done) | (rw [(cmpL_end i3 i1 i2).2.2 (by omega) (by omega)]; done))
    ·
      have h13' := h13
      try simp only [decide_eq_true_eq, decide_eq_false_iff_not, Bool.not_eq_true', Bool.not_eq_false', Bool.not_false, Bool.not_true] at h13'
      refine t_skip ?_
      refine t_seq ?_
      refine t_seq ?_
      refine t_region ?_
      refine r_op (o_move rfl rfl) ?_
      refine r_op (o_len rfl rfl rfl) ?_
      refine r_op (o_move rfl rfl) ?_
      refine r_op (o_len rfl rfl rfl) ?_
      refine r_op (o_bin rfl rfl rfl rfl) ?_
      refine r_end ?_
      refine t_cond rfl (fun h14 => ?_) (fun h14 => ?_)
      ·
        have h14' := h14
        try simp only [decide_eq_true_eq, decide_eq_false_iff_not, Bool.not_eq_true', Bool.not_eq_false', Bool.not_false, Bool.not_true] at h14'
        refine t_seq ?_
        refine t_region ?_
        refine r_op (o_assign rfl rfl) ?_
        refine r_end ?_
        refine t_ret Try.func77 (.tmp rfl .nil) rfl fun E S w u hI hd => ?_
        refine post_mk hI hd ?_ trivial rfl rfl rfl <;> clear hI hd <;> (try clear ih0)
        all_goals first | rfl | (refine scI ?_; first | (rw [(cmpL_at i3 (by assumption) (by assumption)).1 (by omega)]; done) | (rw [(cmpL_at i3 (by assumption) (by assumption)).2 (by omega)]; done) | (rw [(cmpL_end i3 i1 i2).1 (by omega) (by omega)]; done) | (rw [(cmpL_end i3 i1 i2).2.1 (by omega) (by omega)]; done) | (rw [(cmpL_end i3 i1 i2).2.2 (by omega) (by omega)]; done))
      ·
        have h14' := h14
        try simp only [decide_eq_true_eq, decide_eq_false_iff_not, Bool.not_eq_true', Bool.not_eq_false', Bool.not_false, Bool.not_true] at h14'
        refine t_skip ?_
        refine t_seq ?_
        refine t_region ?_
        refine r_op (o_assign rfl rfl) ?_
        refine r_end ?_
        refine t_ret Try.func77 (.tmp rfl .nil) rfl fun E S w u hI hd => ?_
        refine post_mk hI hd ?_ trivial rfl rfl rfl <;> clear hI hd <;> (try clear ih0)
        all_goals first | rfl | (refine scI ?_; first | (rw [(cmpL_at i3 (by assumption) (by assumption)).1 (by omega)]; done) | (rw [(cmpL_at i3 (by assumption) (by assumption)).2 (by omega)]; done) | (rw [(cmpL_end i3 i1 i2).1 (by omega) (by omega)]; done) | (rw [(cmpL_end i3 i1 i2).2.1 (by omega) (by omega)]; done) | (rw [(cmpL_end i3 i1 i2).2.2 (by omega) (by omega)]; done))
set_option maxHeartbeats 1000000 in
set_option maxRecDepth 10000 in
theorem c_impl_nullsOf (l : List Int) (hl : l.length ≤ 1048576) (ho : ∀ x ∈ l, okI x) : Pu Try.prog 110 [.c (.t none (.sl 1 encI (l)))] [(0, some (.row none 3 true 1 encI (setI (nulV l))))] 1 (.c (.own 0)) := by
  refine pu_enter Try.func110 rfl (Nat.le_of_ble_eq_true rfl) fun w S => ?_
  refine t_seq ?_
  refine t_region ?_
  refine r_op (o_assign rfl rfl) ?_
  refine r_end ?_
  refine t_seq ?_
  refine t_region ?_
  refine r_op (o_lit0 0 (e := 3) (sz := 1) (zs := [.int .i64 (0)]) encI rfl rfl (by kernel_rfl) rfl) ?_
  refine r_op (o_assign rfl rfl) ?_
  refine r_end ?_
  refine t_seq ?_
  refine t_seq ?_
  refine t_region ?_
  refine r_op (o_move rfl rfl) ?_
  refine r_op (o_len rfl rfl rfl) ?_
  refine r_op (o_move rfl rfl) ?_
  refine r_end ?_
  refine t_block ?_
  refine t_loopL (fun m => ⟨[(2, some (.c (.t none (.v (.slice none 0 0))))), (3, some (.c (.own 0))), (9, some (.c (.t none (.sl 1 encI (l))))), (10, some (.c (.t none (.v (.int .i64 (((l).length : Int))))))), (11, some (.c (.t none (.v (.int .i64 ((m : Int)))))))], [(0, some (.row none 3 true 1 encI (nulV (l.take m))))], 1⟩ : Nat → St) (fun m => m ≤ l.length) (fun m => l.length - m) 0 ⟨⟨rfl, ⟨rfl, ⟨rfl, ⟨rfl, ⟨rfl, trivial⟩⟩⟩⟩⟩, ⟨rfl, trivial⟩, rfl⟩ (by exact Nat.zero_le _) ?_
  rintro m hI ih0
  try dsimp only at hI ih0
  have i1 := hI; have q2 := nulV_part l m
  refine t_seq ?_
  refine t_region ?_
  refine r_op (o_bin rfl rfl rfl rfl) ?_
  refine r_end ?_
  refine t_seq ?_
  refine t_cond rfl (fun h1 => ?_) (fun h1 => ?_)
  ·
    have h1' := h1
    try simp only [decide_eq_true_eq, decide_eq_false_iff_not, Bool.not_eq_true', Bool.not_eq_false', Bool.not_false, Bool.not_true] at h1'
    refine t_skip ?_
    refine t_seq ?_
    refine t_block ?_
    refine t_seq ?_
    refine t_region ?_
    obtain ⟨z2, hz3, b4⟩ := at_get (xs := l) (n := (m : Int)) (by first | omega | exact (ho _ (List.mem_of_getElem? (by assumption))).1 | exact (ho _ (List.mem_of_getElem? (by assumption))).2 | (rw [sortI_len]; omega)) (by first | omega | exact (ho _ (List.mem_of_getElem? (by assumption))).1 | exact (ho _ (List.mem_of_getElem? (by assumption))).2 | (rw [sortI_len]; omega))
    refine r_op (o_index rfl (by kernel_rfl) rfl rfl b4 hz3) ?_
    refine r_op (o_load1 rfl (by kernel_rfl) rfl rfl) ?_
    refine r_op (o_assign rfl rfl) ?_
    refine r_end ?_
    refine t_seq ?_
    refine t_region ?_
    refine r_op (o_move rfl rfl) ?_
    refine r_op (o_call 1 1 false (Go.Proofs.enters_of Try.func73 (by kernel_rfl) rfl) (c_impl_NullNumber (z2) (by first | omega | exact (ho _ (List.mem_of_getElem? (by assumption))).1 | exact (ho _ (List.mem_of_getElem? (by assumption))).2 | (rw [sortI_len]; omega)) (by first | omega | exact (ho _ (List.mem_of_getElem? (by assumption))).1 | exact (ho _ (List.mem_of_getElem? (by assumption))).2 | (rw [sortI_len]; omega))) rfl (.cons rfl (.c .t0) .nil) rfl rfl rfl) ?_
    refine r_op (o_move rfl rfl) ?_
    refine r_op (o_extract rfl rfl rfl rfl) ?_
    refine r_op (o_extract rfl rfl rfl rfl) ?_
    refine r_op (o_assign rfl rfl) ?_
    refine r_op (o_assign rfl rfl) ?_
    refine r_end ?_
    refine t_seq ?_
    refine t_region ?_
    refine r_op (o_move rfl rfl) ?_
    refine r_end ?_
    refine t_cond rfl (fun h5 => ?_) (fun h5 => ?_)
    ·
      have h5' := h5
      try simp only [decide_eq_true_eq, decide_eq_false_iff_not, Bool.not_eq_true', Bool.not_eq_false', Bool.not_false, Bool.not_true] at h5'
      refine t_region ?_
      refine r_op (o_move rfl rfl) ?_
      refine r_op (o_move rfl rfl) ?_
      refine r_op (o_litS 1 (e := 3) (sz := 1) (zs := [.int .i64 (0)]) rfl rfl (by kernel_rfl) rfl rfl rfl rfl rfl) ?_
      refine r_op (o_append 0 (e := 3) (sz := 1) (by' := 8) (if -40 ≤ (z2) ∧ (z2) ≤ -1 then -1 - (z2) else 0) rfl (by kernel_rfl) rfl rfl rfl rfl rfl rfl (.cons .sc .nil) rfl (by first | omega | exact (ho _ (List.mem_of_getElem? (by assumption))).1 | exact (ho _ (List.mem_of_getElem? (by assumption))).2 | (rw [sortI_len]; omega)) (by first | omega | exact (ho _ (List.mem_of_getElem? (by assumption))).1 | exact (ho _ (List.mem_of_getElem? (by assumption))).2 | (rw [sortI_len]; omega))) ?_
      refine r_op (o_assign rfl rfl) ?_
      refine r_end ?_
      refine t_endblock ?_
      refine t_region ?_
      refine r_op (o_bin rfl rfl rfl rfl) ?_
      refine r_op (o_move rfl rfl) ?_
      refine r_end ?_
      refine t_le ?_ (ih0 (m + 1) (by (try dsimp only); omega) (by (try dsimp only); omega))
      exact ⟨⟨rfl, ⟨rfl, ⟨rfl, ⟨rfl, ⟨(eqI (wr64 (by omega) (by omega))), trivial⟩⟩⟩⟩⟩, ⟨(eqR (by first | (rw [nulV_more (by assumption) (by assumption)]; done) | (rw [nulV_same (by assumption) (by assumption)]; done))), trivial⟩, rfl⟩
    ·
      have h5' := h5
      try simp only [decide_eq_true_eq, decide_eq_false_iff_not, Bool.not_eq_true', Bool.not_eq_false', Bool.not_false, Bool.not_true] at h5'
      refine t_skip ?_
      refine t_endblock ?_
      refine t_region ?_
      refine r_op (o_bin rfl rfl rfl rfl) ?_
      refine r_op (o_move rfl rfl) ?_
      refine r_end ?_
      refine t_le ?_ (ih0 (m + 1) (by (try dsimp only); omega) (by (try dsimp only); omega))
      exact ⟨⟨rfl, ⟨rfl, ⟨rfl, ⟨rfl, ⟨(eqI (wr64 (by omega) (by omega))), trivial⟩⟩⟩⟩⟩, ⟨(eqR (by first | (rw [nulV_more (by assumption) (by assumption)]; done) | (rw [nulV_same (by assumption) (by assumption)]; done))), trivial⟩, rfl⟩
  ·
    have h1' := h1
    try simp only [decide_eq_true_eq, decide_eq_false_iff_not, Bool.not_eq_true', Bool.not_eq_false', Bool.not_false, Bool.not_true] at h1'
    refine t_exit rfl ?_
    refine t_seq ?_
    refine t_region ?_
    refine r_op (o_move rfl rfl) ?_
    refine r_op (o_callH [⟨0, none, 3, 1, _, encI, nulV (l.take m), sortI (nulV (l.take m))⟩] (Go.Proofs.enters_of Try.func85 (by kernel_rfl) rfl) (fun U => c_slices_Sort___int_int_ U 3 (nulV (l.take m)) (by first | omega | exact (ho _ (List.mem_of_getElem? (by assumption))).1 | exact (ho _ (List.mem_of_getElem? (by assumption))).2 | (rw [sortI_len]; omega))) rfl ⟨rfl, trivial⟩ rfl rfl (.cons rfl (.own rfl) .nil) rfl) ?_
    refine r_end ?_
    refine t_seq ?_
    refine t_region ?_
    refine r_op (o_move rfl rfl) ?_
    refine r_op (o_callC 0 (l' := compactI (sortI (nulV (l.take m)))) (Go.Proofs.enters_of Try.func86 (by kernel_rfl) rfl) (fun U => c_slices_Compact___int_int_ U 3 (sortI (nulV (l.take m))) (by first | omega | exact (ho _ (List.mem_of_getElem? (by assumption))).1 | exact (ho _ (List.mem_of_getElem? (by assumption))).2 | (rw [sortI_len]; omega))) rfl rfl (.cons rfl (.own rfl) .nil)) ?_
    refine r_op (o_assign rfl rfl) ?_
    refine r_end ?_
    refine t_ret Try.func110 (.tmp rfl .nil) rfl fun E S w u hI hd => ?_
    refine post_mk hI hd ?_ ⟨eqR ?_, trivial⟩ rfl rfl rfl <;> clear hI hd <;> (try clear ih0)
    all_goals first | rfl | (first | rfl | (rw [nulV_end (by omega), compact_sort]))
set_option maxHeartbeats 1000000 in
set_option maxRecDepth 10000 in
theorem c_spec_NullsOfFact (r : Int) (l : List Int) (hl : l.length ≤ 1048576) (ho : ∀ x ∈ l, okI x) : Pu Try.prog 107 [.agg [.t none (.v (.int .i64 (r))), .t none (.sl 1 encI (l))]] [(1, some (.row none 3 true 1 encI (setI (nulV l))))] 2 (.c (.own 1)) := by
  refine pu_enter Try.func107 rfl (Nat.le_of_ble_eq_true rfl) fun w S => ?_
  refine t_seq ?_
  refine t_region ?_
  refine r_op (o_box 0 rfl rfl rfl rfl) ?_
  refine r_op (o_assign rfl rfl) ?_
  refine r_end ?_
  refine t_seq ?_
  refine t_region ?_
  refine r_op (o_lit0 1 (e := 3) (sz := 1) (zs := [.int .i64 (0)]) encI rfl rfl (by kernel_rfl) rfl) ?_
  refine r_op (o_assign rfl rfl) ?_
  refine r_end ?_
  refine t_seq ?_
  refine t_seq ?_
  refine t_region ?_
  refine r_op (o_assign rfl rfl) ?_
  refine r_end ?_
  refine t_block ?_
  refine t_loopL (fun m => ⟨[(1, some (.c (.ptr 0 0))), (2, some (.c (.t none (.v (.slice none 0 0))))), (3, some (.c (.own 1))), (4, some (.c (.t none (.v (.int .i64 ((m : Int)))))))], [(0, some (.box [.t none (.v (.int .i64 (r))), .t none (.sl 1 encI (l))])), (1, some (.row none 3 true 1 encI (setI (nulV (l.take m)))))], 2⟩ : Nat → St) (fun m => m ≤ l.length) (fun m => l.length - m) 0 ⟨⟨rfl, ⟨rfl, ⟨rfl, ⟨rfl, trivial⟩⟩⟩⟩, ⟨rfl, ⟨rfl, trivial⟩⟩, rfl⟩ (by exact Nat.zero_le _) ?_
  rintro m hI ih0
  try dsimp only at hI ih0
  have i1 := hI; have q1 := setI_len (nulV (l.take m)); have q2 := nulV_part l m
  refine t_seq ?_
  refine t_seq ?_
  refine t_region ?_
  refine r_op (o_move rfl rfl) ?_
  refine r_op (o_fieldb rfl (off := 1) (by kernel_rfl) rfl) ?_
  refine r_op (o_load1b rfl (by kernel_rfl) rfl rfl rfl) ?_
  refine r_op (o_len rfl rfl rfl) ?_
  refine r_op (o_bin rfl rfl rfl rfl) ?_
  refine r_end ?_
  refine t_cond rfl (fun h1 => ?_) (fun h1 => ?_)
  ·
    have h1' := h1
    try simp only [decide_eq_true_eq, decide_eq_false_iff_not, Bool.not_eq_true', Bool.not_eq_false', Bool.not_false, Bool.not_true] at h1'
    refine t_skip ?_
    refine t_seq ?_
    refine t_block ?_
    refine t_seq ?_
    refine t_region ?_
    refine r_op (o_fieldb rfl (off := 1) (by kernel_rfl) rfl) ?_
    refine r_op (o_load1b rfl (by kernel_rfl) rfl rfl rfl) ?_
    refine r_op (o_move rfl rfl) ?_
    obtain ⟨z2, hz3, b4⟩ := at_get (xs := l) (n := (m : Int)) (by first | omega | exact (ho _ (List.mem_of_getElem? (by assumption))).1 | exact (ho _ (List.mem_of_getElem? (by assumption))).2) (by first | omega | exact (ho _ (List.mem_of_getElem? (by assumption))).1 | exact (ho _ (List.mem_of_getElem? (by assumption))).2)
    refine r_op (o_index rfl (by kernel_rfl) rfl rfl b4 hz3) ?_
    refine r_op (o_load1 rfl (by kernel_rfl) rfl rfl) ?_
    refine r_op (o_call 2 2 false (Go.Proofs.enters_of Try.func63 (by kernel_rfl) rfl) (c_spec_NullNumber (z2) (by first | omega | exact (ho _ (List.mem_of_getElem? (by assumption))).1 | exact (ho _ (List.mem_of_getElem? (by assumption))).2) (by first | omega | exact (ho _ (List.mem_of_getElem? (by assumption))).1 | exact (ho _ (List.mem_of_getElem? (by assumption))).2)) rfl (.cons rfl (.c .t0) .nil) rfl rfl rfl) ?_
    refine r_op (o_move rfl rfl) ?_
    refine r_op (o_extract rfl rfl rfl rfl) ?_
    refine r_op (o_extract rfl rfl rfl rfl) ?_
    refine r_op (o_assign rfl rfl) ?_
    refine r_op (o_assign rfl rfl) ?_
    refine r_end ?_
    refine t_seq ?_
    refine t_region ?_
    refine r_op (o_move rfl rfl) ?_
    refine r_end ?_
    refine t_cond rfl (fun h5 => ?_) (fun h5 => ?_)
    ·
      have h5' := h5
      try simp only [decide_eq_true_eq, decide_eq_false_iff_not, Bool.not_eq_true', Bool.not_eq_false', Bool.not_false, Bool.not_true] at h5'
      refine t_region ?_
      refine r_op (o_move rfl rfl) ?_
      refine r_op (o_move rfl rfl) ?_
      refine r_op (o_callC 1 (l' := putI (setI (nulV (l.take m))) (if -40 ≤ (z2) ∧ (z2) ≤ -1 then -1 - (z2) else 0)) (Go.Proofs.enters_of Try.func83 (by kernel_rfl) rfl) (fun U => c_spec_l4Put U  (setI (nulV (l.take m))) (if -40 ≤ (z2) ∧ (z2) ≤ -1 then -1 - (z2) else 0) (by first | omega | exact (ho _ (List.mem_of_getElem? (by assumption))).1 | exact (ho _ (List.mem_of_getElem? (by assumption))).2)) rfl rfl (.cons rfl (.own rfl) (.cons rfl .t0 .nil))) ?_
      refine r_op (o_assign rfl rfl) ?_
      refine r_end ?_
      refine t_endblock ?_
      refine t_region ?_
      refine r_op (o_move rfl rfl) ?_
      refine r_op (o_bin rfl rfl rfl rfl) ?_
      refine r_op (o_assign rfl rfl) ?_
      refine r_end ?_
      refine t_le ?_ (ih0 (m + 1) (by (try dsimp only); omega) (by (try dsimp only); omega))
      exact ⟨⟨rfl, ⟨rfl, ⟨rfl, ⟨(eqI (wr64 (by omega) (by omega))), trivial⟩⟩⟩⟩, ⟨rfl, ⟨(eqR (by first | (rw [nulV_more (by assumption) (by assumption), setI_snoc]; done) | (rw [nulV_same (by assumption) (by assumption)]; done))), trivial⟩⟩, rfl⟩
    ·
      have h5' := h5
      try simp only [decide_eq_true_eq, decide_eq_false_iff_not, Bool.not_eq_true', Bool.not_eq_false', Bool.not_false, Bool.not_true] at h5'
      refine t_skip ?_
      refine t_endblock ?_
      refine t_region ?_
      refine r_op (o_move rfl rfl) ?_
      refine r_op (o_bin rfl rfl rfl rfl) ?_
      refine r_op (o_assign rfl rfl) ?_
      refine r_end ?_
      refine t_le ?_ (ih0 (m + 1) (by (try dsimp only); omega) (by (try dsimp only); omega))
      exact ⟨⟨rfl, ⟨rfl, ⟨rfl, ⟨(eqI (wr64 (by omega) (by omega))), trivial⟩⟩⟩⟩, ⟨rfl, ⟨(eqR (by first | (rw [nulV_more (by assumption) (by assumption), setI_snoc]; done) | (rw [nulV_same (by assumption) (by assumption)]; done))), trivial⟩⟩, rfl⟩
  ·
    have h1' := h1
    try simp only [decide_eq_true_eq, decide_eq_false_iff_not, Bool.not_eq_true', Bool.not_eq_false', Bool.not_false, Bool.not_true] at h1'
    refine t_exit rfl ?_
    refine t_seq ?_
    refine t_region ?_
    refine r_op (o_move rfl rfl) ?_
    refine r_op (o_assign rfl rfl) ?_
    refine r_end ?_
    refine t_ret Try.func107 (.tmp rfl .nil) rfl fun E S w u hI hd => ?_
    refine post_mk hI hd ?_ ⟨eqR ?_, trivial⟩ rfl rfl rfl <;> clear hI hd <;> (try clear ih0)
    all_goals first | rfl | (first | rfl | (rw [nulV_end (by omega)]))
set_option maxHeartbeats 1000000 in
set_option maxRecDepth 10000 in
theorem c_impl_NullsOfInstance (rs : Rels) (l : Atoms) (hl : szS (fun (x : Int × (List (Int))) => (x.2).length) l ≤ 1048576) (ho : ∀ z ∈ l, ∀ x ∈ z.2, okI x) : Pu Try.prog 95 [.agg [.t none (.sl 3 (enS3 encS encI encB) (rs)), .t none (.sl 2 (enS2 encI (enSl 1 encI)) (l))]] [(2, some (.row none 3 true 1 encI (setI (nulV (flatT l)))))] 3 (.c (.own 2)) := by
  refine pu_enter Try.func95 rfl (Nat.le_of_ble_eq_true rfl) fun w S => ?_
  have gl := sz_len (f := (fun (x : Int × (List (Int))) => (x.2).length)) (l := l); have gv := flatT_size l
  refine t_seq ?_
  refine t_region ?_
  refine r_op (o_box 0 rfl rfl rfl rfl) ?_
  refine r_op (o_assign rfl rfl) ?_
  refine r_end ?_
  refine t_seq ?_
  refine t_region ?_
  refine r_op (o_lit0 1 (e := 3) (sz := 1) (zs := [.int .i64 (0)]) encI rfl rfl (by kernel_rfl) rfl) ?_
  refine r_op (o_assign rfl rfl) ?_
  refine r_end ?_
  refine t_seq ?_
  refine t_seq ?_
  refine t_region ?_
  refine r_op (o_fieldb rfl (off := 1) (by kernel_rfl) rfl) ?_
  refine r_op (o_load1b rfl (by kernel_rfl) rfl rfl rfl) ?_
  refine r_op (o_len rfl rfl rfl) ?_
  refine r_op (o_move rfl rfl) ?_
  refine r_end ?_
  refine t_block ?_
  refine t_loopL (fun m => ⟨[(2, some (.c (.t none (.v (.slice none 0 0))))), (3, some (.c (.own 1))), (8, some (.c (.t none (.sl 2 (enS2 encI (enSl 1 encI)) (l))))), (9, some (.c (.t none (.v (.int .i64 (((l).length : Int))))))), (10, some (.c (.t none (.v (.int .i64 ((m : Int)))))))], [(0, some (.box [.t none (.sl 3 (enS3 encS encI encB) (rs)), .t none (.sl 2 (enS2 encI (enSl 1 encI)) (l))])), (1, some (.row none 3 true 1 encI (flatT (l.take m))))], 2⟩ : Nat → St) (fun m => m ≤ l.length) (fun m => l.length - m) 0 ⟨⟨rfl, ⟨rfl, ⟨rfl, ⟨rfl, ⟨rfl, trivial⟩⟩⟩⟩⟩, ⟨rfl, ⟨rfl, trivial⟩⟩, rfl⟩ (by exact Nat.zero_le _) ?_
  rintro m hI ih0
  try dsimp only at hI ih0
  have i1 := hI
  refine t_seq ?_
  refine t_region ?_
  refine r_op (o_bin rfl rfl rfl rfl) ?_
  refine r_end ?_
  refine t_seq ?_
  refine t_cond rfl (fun h1 => ?_) (fun h1 => ?_)
  ·
    have h1' := h1
    try simp only [decide_eq_true_eq, decide_eq_false_iff_not, Bool.not_eq_true', Bool.not_eq_false', Bool.not_false, Bool.not_true] at h1'
    refine t_skip ?_
    refine t_seq ?_
    refine t_block ?_
    refine t_seq ?_
    refine t_region ?_
    obtain ⟨z2, hz3, b4⟩ := at_get (xs := l) (n := (m : Int)) (by first | omega | (have e1 := sz_at (f := (fun (x : Int × (List (Int))) => (x.2).length)) (l := l) (m := m) (by assumption); (try dsimp only at e1); omega) | (have e1 := flatT_part (l := l) (m := m) (by assumption); omega) | (rw [flatT_end (by omega)]; first | omega | exact flatT_ok ho) | exact flatT_ok ho) (by first | omega | (have e1 := sz_at (f := (fun (x : Int × (List (Int))) => (x.2).length)) (l := l) (m := m) (by assumption); (try dsimp only at e1); omega) | (have e1 := flatT_part (l := l) (m := m) (by assumption); omega) | (rw [flatT_end (by omega)]; first | omega | exact flatT_ok ho) | exact flatT_ok ho)
    refine r_op (o_index rfl (by kernel_rfl) rfl rfl b4 hz3) ?_
    refine r_op (o_loadA rfl (n := 2) (by kernel_rfl) (by kernel_rfl) rfl rfl) ?_
    refine r_op (o_alloc 2 (zs := [.int .i64 (0), .slice none 0 0]) rfl rfl (by kernel_rfl) rfl) ?_
    refine r_op (o_storeb (n := 2) (by kernel_rfl) rfl rfl rfl rfl rfl rfl) ?_
    refine r_end ?_
    refine t_region ?_
    refine r_op (o_move rfl rfl) ?_
    refine r_op (o_fieldb rfl (off := 1) (by kernel_rfl) rfl) ?_
    refine r_op (o_load1b rfl (by kernel_rfl) rfl rfl rfl) ?_
    refine r_op (o_appendS 1 (e := 3) (sz := 1) (by' := 8) rfl (by kernel_rfl) rfl rfl rfl rfl (fun _ _ => ⟨_, rfl⟩) (by first | omega | (have e1 := sz_at (f := (fun (x : Int × (List (Int))) => (x.2).length)) (l := l) (m := m) (by assumption); (try dsimp only at e1); omega) | (have e1 := flatT_part (l := l) (m := m) (by assumption); omega) | (rw [flatT_end (by omega)]; first | omega | exact flatT_ok ho) | exact flatT_ok ho) (by first | omega | (have e1 := sz_at (f := (fun (x : Int × (List (Int))) => (x.2).length)) (l := l) (m := m) (by assumption); (try dsimp only at e1); omega) | (have e1 := flatT_part (l := l) (m := m) (by assumption); omega) | (rw [flatT_end (by omega)]; first | omega | exact flatT_ok ho) | exact flatT_ok ho)) ?_
    refine r_op (o_assign rfl rfl) ?_
    refine r_end ?_
    refine t_endblock ?_
    refine t_region ?_
    refine r_op (o_bin rfl rfl rfl rfl) ?_
    refine r_op (o_move rfl rfl) ?_
    refine r_end ?_
    refine t_le ?_ (ih0 (m + 1) (by (try dsimp only); omega) (by (try dsimp only); omega))
    exact ⟨⟨rfl, ⟨rfl, ⟨rfl, ⟨rfl, ⟨(eqI (wr64 (by omega) (by omega))), trivial⟩⟩⟩⟩⟩, ⟨rfl, ⟨(eqR (by rw [flatT_step (m := m) hz3])), trivial⟩⟩, rfl⟩
  ·
    have h1' := h1
    try simp only [decide_eq_true_eq, decide_eq_false_iff_not, Bool.not_eq_true', Bool.not_eq_false', Bool.not_false, Bool.not_true] at h1'
    refine t_exit rfl ?_
    refine t_seq ?_
    refine t_region ?_
    refine r_op (o_move rfl rfl) ?_
    refine r_op (o_call 2 3 false (Go.Proofs.enters_of Try.func110 (by kernel_rfl) rfl) (c_impl_nullsOf (flatT (l.take m)) (by first | omega | (have e1 := sz_at (f := (fun (x : Int × (List (Int))) => (x.2).length)) (l := l) (m := m) (by assumption); (try dsimp only at e1); omega) | (have e1 := flatT_part (l := l) (m := m) (by assumption); omega) | (rw [flatT_end (by omega)]; first | omega | exact flatT_ok ho) | exact flatT_ok ho) (by first | omega | (have e1 := sz_at (f := (fun (x : Int × (List (Int))) => (x.2).length)) (l := l) (m := m) (by assumption); (try dsimp only at e1); omega) | (have e1 := flatT_part (l := l) (m := m) (by assumption); omega) | (rw [flatT_end (by omega)]; first | omega | exact flatT_ok ho) | exact flatT_ok ho)) rfl (.cons rfl (.c (.own rfl)) .nil) rfl rfl rfl) ?_
    refine r_op (o_assign rfl rfl) ?_
    refine r_end ?_
    refine t_ret Try.func95 (.tmp rfl .nil) rfl fun E S w u hI hd => ?_
    refine post_mk hI hd ?_ ⟨eqR ?_, trivial⟩ rfl rfl rfl <;> clear hI hd <;> (try clear ih0)
    all_goals first | rfl | (first | rfl | (rw [flatT_end (by omega)]))
set_option maxHeartbeats 1000000 in
set_option maxRecDepth 10000 in
theorem c_spec_NullsOfInstance (rs : Rels) (l : Atoms) (hl : szS (fun (x : Int × (List (Int))) => (x.2).length) l ≤ 1048576) (ho : ∀ z ∈ l, ∀ x ∈ z.2, okI x) : Pu Try.prog 92 [.agg [.t none (.sl 3 (enS3 encS encI encB) (rs)), .t none (.sl 2 (enS2 encI (enSl 1 encI)) (l))]] [(1, some (.row none 3 true 1 encI (setI (nulV (flatT l)))))] 2 (.c (.own 1)) := by
  refine pu_enter Try.func92 rfl (Nat.le_of_ble_eq_true rfl) fun w S => ?_
  have gl := sz_len (f := (fun (x : Int × (List (Int))) => (x.2).length)) (l := l); have gv := flatT_size l
  refine t_seq ?_
  refine t_region ?_
  refine r_op (o_box 0 rfl rfl rfl rfl) ?_
  refine r_op (o_assign rfl rfl) ?_
  refine r_end ?_
  refine t_seq ?_
  refine t_region ?_
  refine r_op (o_lit0 1 (e := 3) (sz := 1) (zs := [.int .i64 (0)]) encI rfl rfl (by kernel_rfl) rfl) ?_
  refine r_op (o_assign rfl rfl) ?_
  refine r_end ?_
  refine t_seq ?_
  refine t_seq ?_
  refine t_region ?_
  refine r_op (o_assign rfl rfl) ?_
  refine r_end ?_
  refine t_block ?_
  refine t_loopL (fun m => ⟨[(1, some (.c (.ptr 0 0))), (2, some (.c (.t none (.v (.slice none 0 0))))), (3, some (.c (.own 1))), (4, some (.c (.t none (.v (.int .i64 ((m : Int)))))))], [(0, some (.box [.t none (.sl 3 (enS3 encS encI encB) (rs)), .t none (.sl 2 (enS2 encI (enSl 1 encI)) (l))])), (1, some (.row none 3 true 1 encI (setI (nulV (flatT (l.take m))))))], 2⟩ : Nat → St) (fun m => m ≤ l.length) (fun m => l.length - m) 0 ⟨⟨rfl, ⟨rfl, ⟨rfl, ⟨rfl, trivial⟩⟩⟩⟩, ⟨rfl, ⟨rfl, trivial⟩⟩, rfl⟩ (by exact Nat.zero_le _) ?_
  rintro m hI ih0
  try dsimp only at hI ih0
  have i1 := hI
  refine t_seq ?_
  refine t_seq ?_
  refine t_region ?_
  refine r_op (o_move rfl rfl) ?_
  refine r_op (o_fieldb rfl (off := 1) (by kernel_rfl) rfl) ?_
  refine r_op (o_load1b rfl (by kernel_rfl) rfl rfl rfl) ?_
  refine r_op (o_len rfl rfl rfl) ?_
  refine r_op (o_bin rfl rfl rfl rfl) ?_
  refine r_end ?_
  refine t_cond rfl (fun h1 => ?_) (fun h1 => ?_)
  ·
    have h1' := h1
    try simp only [decide_eq_true_eq, decide_eq_false_iff_not, Bool.not_eq_true', Bool.not_eq_false', Bool.not_false, Bool.not_true] at h1'
    refine t_skip ?_
    refine t_seq ?_
    refine t_block ?_
    refine t_seq ?_
    refine t_region ?_
    refine r_op (o_fieldb rfl (off := 1) (by kernel_rfl) rfl) ?_
    refine r_op (o_load1b rfl (by kernel_rfl) rfl rfl rfl) ?_
    refine r_op (o_move rfl rfl) ?_
    obtain ⟨z2, hz3, b4⟩ := at_get (xs := l) (n := (m : Int)) (by first | omega | (have e1 := sz_at (f := (fun (x : Int × (List (Int))) => (x.2).length)) (l := l) (m := m) (by assumption); (try dsimp only at e1); omega) | exact ho _ (List.mem_of_getElem? (by assumption))) (by first | omega | (have e1 := sz_at (f := (fun (x : Int × (List (Int))) => (x.2).length)) (l := l) (m := m) (by assumption); (try dsimp only at e1); omega) | exact ho _ (List.mem_of_getElem? (by assumption)))
    refine r_op (o_index rfl (by kernel_rfl) rfl rfl b4 hz3) ?_
    refine r_op (o_loadA rfl (n := 2) (by kernel_rfl) (by kernel_rfl) rfl rfl) ?_
    refine r_op (o_call 2 4 false (Go.Proofs.enters_of Try.func107 (by kernel_rfl) rfl) (c_spec_NullsOfFact (z2.1) (z2.2) (by first | omega | (have e1 := sz_at (f := (fun (x : Int × (List (Int))) => (x.2).length)) (l := l) (m := m) (by assumption); (try dsimp only at e1); omega) | exact ho _ (List.mem_of_getElem? (by assumption))) (by first | omega | (have e1 := sz_at (f := (fun (x : Int × (List (Int))) => (x.2).length)) (l := l) (m := m) (by assumption); (try dsimp only at e1); omega) | exact ho _ (List.mem_of_getElem? (by assumption)))) rfl (.cons rfl (.agg (.cons .t0 (.cons .t0 .nil))) .nil) rfl rfl rfl) ?_
    refine r_op (o_assign rfl rfl) ?_
    refine r_end ?_
    refine t_seq ?_
    refine t_region ?_
    refine r_op (o_assign rfl rfl) ?_
    refine r_end ?_
    refine t_block ?_
    refine t_loopL (fun n => ⟨[(1, some (.c (.ptr 0 0))), (2, some (.c (.t none (.v (.slice none 0 0))))), (3, some (.c (.own 1))), (4, some (.c (.t none (.v (.int .i64 ((m : Int))))))), (5, some (.c (.own 3))), (6, some (.c (.t none (.v (.int .i64 ((n : Int)))))))], [(0, some (.box [.t none (.sl 3 (enS3 encS encI encB) (rs)), .t none (.sl 2 (enS2 encI (enSl 1 encI)) (l))])), (1, some (.row none 3 true 1 encI (setI (nulV (flatT (l.take m)) ++ (setI (nulV z2.2)).take n)))), (3, some (.row none 3 true 1 encI (setI (nulV (z2.2)))))], 4⟩ : Nat → St) (fun n => n ≤ (setI (nulV z2.2)).length) (fun n => (setI (nulV z2.2)).length - n) 0 ⟨⟨rfl, ⟨rfl, ⟨rfl, ⟨rfl, ⟨rfl, ⟨rfl, trivial⟩⟩⟩⟩⟩⟩, ⟨rfl, ⟨(eqR (by rw [List.take_zero, List.append_nil])), ⟨rfl, trivial⟩⟩⟩, rfl⟩ (by exact Nat.zero_le _) ?_
    rintro n hI ih1
    try dsimp only at hI ih1
    have j1 := hI; have vp := flatT_part (m := m) hz3; have vq := nulV_len (flatT (l.take m)); have vr := nulV_len z2.2; have vs := setI_len (nulV z2.2); have vt := setI_len (nulV (flatT (l.take m)) ++ (setI (nulV z2.2)).take n); rw [List.length_append, List.length_take] at vt
    refine t_seq ?_
    refine t_seq ?_
    refine t_region ?_
    refine r_op (o_move rfl rfl) ?_
    refine r_op (o_move rfl rfl) ?_
    refine r_op (o_leno rfl rfl rfl rfl) ?_
    refine r_op (o_bin rfl rfl rfl rfl) ?_
    refine r_end ?_
    refine t_cond rfl (fun h5 => ?_) (fun h5 => ?_)
    ·
      have h5' := h5
      try simp only [decide_eq_true_eq, decide_eq_false_iff_not, Bool.not_eq_true', Bool.not_eq_false', Bool.not_false, Bool.not_true] at h5'
      refine t_skip ?_
      refine t_seq ?_
      refine t_block ?_
      refine t_region ?_
      refine r_op (o_move rfl rfl) ?_
      refine r_op (o_move rfl rfl) ?_
      refine r_op (o_move rfl rfl) ?_
      obtain ⟨z6, hz7, b8⟩ := at_get (xs := setI (nulV (z2.2))) (n := (n : Int)) (by first | omega | (have e1 := sz_at (f := (fun (x : Int × (List (Int))) => (x.2).length)) (l := l) (m := m) (by assumption); (try dsimp only at e1); omega) | exact ho _ (List.mem_of_getElem? (by assumption))) (by first | omega | (have e1 := sz_at (f := (fun (x : Int × (List (Int))) => (x.2).length)) (l := l) (m := m) (by assumption); (try dsimp only at e1); omega) | exact ho _ (List.mem_of_getElem? (by assumption)))
      refine r_op (o_indexo rfl (by kernel_rfl) rfl rfl rfl b8 (at_lt b8 hz7)) ?_
      refine r_op (o_load1o rfl (by kernel_rfl) rfl rfl rfl hz7) ?_
      refine r_op (o_callC 1 (l' := putI (setI (nulV (flatT (l.take m)) ++ (setI (nulV z2.2)).take n)) (z6)) (Go.Proofs.enters_of Try.func83 (by kernel_rfl) rfl) (fun U => c_spec_l4Put U  (setI (nulV (flatT (l.take m)) ++ (setI (nulV z2.2)).take n)) (z6) (by first | omega | (have e1 := sz_at (f := (fun (x : Int × (List (Int))) => (x.2).length)) (l := l) (m := m) (by assumption); (try dsimp only at e1); omega) | exact ho _ (List.mem_of_getElem? (by assumption)))) rfl rfl (.cons rfl (.own rfl) (.cons rfl .t0 .nil))) ?_
      refine r_op (o_assign rfl rfl) ?_
      refine r_end ?_
      refine t_endblock ?_
      refine t_region ?_
      refine r_op (o_move rfl rfl) ?_
      refine r_op (o_bin rfl rfl rfl rfl) ?_
      refine r_op (o_assign rfl rfl) ?_
      refine r_end ?_
      refine t_le ?_ (ih1 (n + 1) (by (try dsimp only); omega) (by (try dsimp only); omega))
      exact ⟨⟨rfl, ⟨rfl, ⟨rfl, ⟨rfl, ⟨rfl, ⟨(eqI (wr64 (by omega) (by omega))), trivial⟩⟩⟩⟩⟩⟩, ⟨rfl, ⟨(eqR (by rw [snoc_at (n := n) _ hz7, setI_snoc])), ⟨rfl, trivial⟩⟩⟩, rfl⟩
    ·
      have h5' := h5
      try simp only [decide_eq_true_eq, decide_eq_false_iff_not, Bool.not_eq_true', Bool.not_eq_false', Bool.not_false, Bool.not_true] at h5'
      refine t_exit rfl ?_
      refine t_endblock ?_
      refine t_region ?_
      refine r_op (o_move rfl rfl) ?_
      refine r_op (o_bin rfl rfl rfl rfl) ?_
      refine r_op (o_assign rfl rfl) ?_
      refine r_end ?_
      refine t_le ?_ (ih0 (m + 1) (by (try dsimp only); omega) (by (try dsimp only); omega))
      exact ⟨⟨rfl, ⟨rfl, ⟨rfl, ⟨(eqI (wr64 (by omega) (by omega))), trivial⟩⟩⟩⟩, ⟨rfl, ⟨(eqR (by rw [flatT_step (m := m) hz3, nulV_app, List.take_of_length_le (i := n) (l := setI (nulV z2.2)) (by omega), setI_app])), trivial⟩⟩, rfl⟩
  ·
    have h1' := h1
    try simp only [decide_eq_true_eq, decide_eq_false_iff_not, Bool.not_eq_true', Bool.not_eq_false', Bool.not_false, Bool.not_true] at h1'
    refine t_exit rfl ?_
    refine t_seq ?_
    refine t_region ?_
    refine r_op (o_move rfl rfl) ?_
    refine r_op (o_assign rfl rfl) ?_
    refine r_end ?_
    refine t_ret Try.func92 (.tmp rfl .nil) rfl fun E S w u hI hd => ?_
    refine post_mk hI hd ?_ ⟨eqR ?_, trivial⟩ rfl rfl rfl <;> clear hI hd <;> (try clear ih0) <;> (try clear ih1)
    all_goals first | rfl | (first | rfl | (rw [flatT_end (by omega)]))
end Go.Eng
