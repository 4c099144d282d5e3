/- What the functions that FnExactUnion reaches answer. -/
import Derived.Test.YtdmionnnkaohdaaEngZj
import Derived.Test.YtdmionnnkaohdaaChecked
set_option linter.unusedVariables false
set_option linter.unusedSimpArgs false
namespace Go.Eng
open Go Go.RowKit Go.Proofs
set_option maxHeartbeats 1000000 in
set_option maxRecDepth 10000 in
theorem c_laws_szIntS (l : List Int) (k : Int) (hk : 0 ≤ k) (hk2 : k ≤ 1048576) (hl : l.length ≤ 9223372036854775807) : Pu Try.prog 62 [.c (.t none (.sl 1 encI (l))), .c (.t none (.v (.int .i64 (k))))] [] 0 (.c (.t none (.v (.int .i64 (if k - l.length < 0 then -1 else k - l.length))))) := by
  refine pu_enter Try.func62 rfl (Nat.le_of_ble_eq_true rfl) fun w S => ?_
  refine t_seq ?_
  refine t_region ?_
  refine r_op (o_assign rfl rfl) ?_
  refine r_end ?_
  refine t_seq ?_
  refine t_region ?_
  refine r_op (o_move rfl rfl) ?_
  refine r_op (o_move rfl rfl) ?_
  refine r_op (o_len rfl rfl rfl) ?_
  refine r_op (o_bin rfl rfl rfl rfl) ?_
  refine r_op (o_assign rfl rfl) ?_
  refine r_end ?_
  refine t_seq ?_
  refine t_seq ?_
  refine t_region ?_
  refine r_op (o_move rfl rfl) ?_
  refine r_op (o_bin rfl rfl rfl rfl) ?_
  refine r_end ?_
  refine t_cond rfl (fun h1 => ?_) (fun h1 => ?_)
  ·
    have h1' := h1
    try simp only [decide_eq_true_eq, decide_eq_false_iff_not, Bool.not_eq_true', Bool.not_eq_false', Bool.not_false, Bool.not_true] at h1'
    refine t_seq ?_
    refine t_region ?_
    refine r_op (o_assign rfl rfl) ?_
    refine r_end ?_
    refine t_ret Try.func62 (.tmp rfl .nil) rfl fun E S w u hI hd => ?_
    refine post_mk hI hd ?_ trivial rfl rfl rfl <;> clear hI hd
    all_goals first | rfl | (have e := wr64 (x := k - l.length) (by omega) (by omega); rw [e] at h1'; rw [if_pos (by omega)])
  ·
    have h1' := h1
    try simp only [decide_eq_true_eq, decide_eq_false_iff_not, Bool.not_eq_true', Bool.not_eq_false', Bool.not_false, Bool.not_true] at h1'
    refine t_skip ?_
    refine t_seq ?_
    refine t_region ?_
    refine r_op (o_move rfl rfl) ?_
    refine r_op (o_assign rfl rfl) ?_
    refine r_end ?_
    refine t_ret Try.func62 (.tmp rfl .nil) rfl fun E S w u hI hd => ?_
    refine post_mk hI hd ?_ trivial rfl rfl rfl <;> clear hI hd
    all_goals first | rfl | (have e := wr64 (x := k - l.length) (by omega) (by omega); rw [e] at h1'; rw [e, if_neg (by omega)])
set_option maxHeartbeats 1000000 in
set_option maxRecDepth 10000 in
theorem c_laws_szUnionFind (a0 : List (Int)) (k : Int) (hk : 0 ≤ k) (hk2 : k ≤ 1048576) (h0 : (okL okI) a0) : Pu Try.prog 16 [.agg [.t none (.sl 1 encI (a0))], .c (.t none (.v (.int .i64 (k))))] [] 0 (.c (.t none (.v (.int .i64 (if k - (((a0).length : Nat) : Int) < 0 then -1 else k - (((a0).length : Nat) : Int)))))) := by
  refine pu_enter Try.func16 rfl (Nat.le_of_ble_eq_true rfl) fun w S => ?_
  have g_a0 := h0.1
  refine t_seq ?_
  refine t_region ?_
  refine r_op (o_box 0 rfl rfl rfl rfl) ?_
  refine r_op (o_assign rfl rfl) ?_
  refine r_end ?_
  refine t_seq ?_
  refine t_region ?_
  refine r_op (o_fieldb rfl (off := 0) (by kernel_rfl) rfl) ?_
  refine r_op (o_load1b rfl (by kernel_rfl) rfl rfl rfl) ?_
  refine r_op (o_move rfl rfl) ?_
  refine r_op (o_call 1 1 false (Go.Proofs.enters_of Try.func62 (by kernel_rfl) rfl) (c_laws_szIntS (a0) (k) (by first | omega | (simp; omega)) (by first | omega | (simp; omega)) (by first | omega | (simp; omega))) rfl (.cons rfl (.c .t0) (.cons rfl (.c .t0) .nil)) rfl rfl rfl) ?_
  refine r_op (o_assign rfl rfl) ?_
  refine r_end ?_
  refine t_seq ?_
  refine t_seq ?_
  refine t_region ?_
  refine r_op (o_move rfl rfl) ?_
  refine r_op (o_bin rfl rfl rfl rfl) ?_
  refine r_end ?_
  refine t_cond rfl (fun h1 => ?_) (fun h1 => ?_)
  ·
    have h1' := h1
    try simp only [decide_eq_true_eq, decide_eq_false_iff_not, Bool.not_eq_true', Bool.not_eq_false', Bool.not_false, Bool.not_true] at h1'
    refine t_seq ?_
    refine t_region ?_
    refine r_op (o_assign rfl rfl) ?_
    refine r_end ?_
    refine t_ret Try.func16 (.tmp rfl .nil) rfl fun E S w u hI hd => ?_
    refine post_mk hI hd ?_ trivial rfl rfl rfl <;> clear hI hd
    all_goals first | rfl | (refine scI ?_; (try simp only [IntKind.wrap_i64] at *); omega)
  ·
    have h1' := h1
    try simp only [decide_eq_true_eq, decide_eq_false_iff_not, Bool.not_eq_true', Bool.not_eq_false', Bool.not_false, Bool.not_true] at h1'
    refine t_skip ?_
    refine t_seq ?_
    refine t_region ?_
    refine r_op (o_move rfl rfl) ?_
    refine r_op (o_assign rfl rfl) ?_
    refine r_end ?_
    refine t_ret Try.func16 (.tmp rfl .nil) rfl fun E S w u hI hd => ?_
    refine post_mk hI hd ?_ trivial rfl rfl rfl <;> clear hI hd
    all_goals first | rfl | (refine scI ?_; (try simp only [IntKind.wrap_i64] at *); omega)
set_option maxHeartbeats 1000000 in
set_option maxRecDepth 10000 in
theorem c_laws_toIntS (l : List Int) (hl : l.length ≤ 1048576) : Pu Try.prog 65 [.c (.t none (.sl 1 encI (l)))] [(0, some (.row none 3 true 1 encI (l)))] 1 (.c (.own 0)) := by
  refine pu_enter Try.func65 rfl (Nat.le_of_ble_eq_true rfl) fun w S => ?_
  refine t_seq ?_
  refine t_region ?_
  refine r_op (o_assign rfl rfl) ?_
  refine r_end ?_
  refine t_seq ?_
  refine t_region ?_
  refine r_op (o_move rfl rfl) ?_
  refine r_op (o_len rfl rfl rfl) ?_
  refine r_op (o_make 0 true (et := 3) (sz := 1) (by' := 8) encI (0) (zs := [.int .i64 (0)]) rfl rfl (by kernel_rfl) (by kernel_rfl) rfl rfl (.cons (.v rfl) .nil) rfl rfl (by first | omega | (simp; omega)) (by first | omega | (simp; omega)) (by first | omega | (simp; omega))) ?_
  refine r_op (o_assign rfl rfl) ?_
  refine r_end ?_
  refine t_seq ?_
  refine t_seq ?_
  refine t_region ?_
  refine r_op (o_assign rfl rfl) ?_
  refine r_end ?_
  refine t_block ?_
  refine t_loopL (fun m => ⟨[(0, some (.c (.t none (.sl 1 encI (l))))), (2, some (.c (.t none (.v (.slice none 0 0))))), (3, some (.c (.own 0))), (4, some (.c (.t none (.v (.int .i64 ((m : Int)))))))], [(0, some (.row none 3 true 1 encI (l.take m ++ List.replicate (l.length - m) 0)))], 1⟩ : Nat → St) (fun m => m ≤ l.length) (fun m => l.length - m) 0 ⟨⟨rfl, ⟨rfl, ⟨rfl, ⟨rfl, trivial⟩⟩⟩⟩, ⟨(eqR (by simp)), trivial⟩, rfl⟩ (by simp) ?_
  rintro m hI ih0
  try dsimp only at hI ih0
  refine t_seq ?_
  refine t_seq ?_
  refine t_region ?_
  refine r_op (o_move rfl rfl) ?_
  refine r_op (o_move rfl rfl) ?_
  refine r_op (o_len rfl rfl rfl) ?_
  refine r_op (o_bin rfl rfl rfl rfl) ?_
  refine r_end ?_
  refine t_cond rfl (fun h1 => ?_) (fun h1 => ?_)
  ·
    have h1' := h1
    try simp only [decide_eq_true_eq, decide_eq_false_iff_not, Bool.not_eq_true', Bool.not_eq_false', Bool.not_false, Bool.not_true] at h1'
    refine t_skip ?_
    refine t_seq ?_
    refine t_block ?_
    refine t_region ?_
    refine r_op (o_move rfl rfl) ?_
    refine r_op (o_move rfl rfl) ?_
    refine r_op (o_move rfl rfl) ?_
    refine r_op (o_move rfl rfl) ?_
    obtain ⟨z2, hz3, b4⟩ := at_get (xs := l) (n := (m : Int)) (by first | omega | (simp; omega)) (by first | omega | (simp; omega))
    refine r_op (o_index rfl (by kernel_rfl) rfl rfl b4 hz3) ?_
    refine r_op (o_load1 rfl (by kernel_rfl) rfl rfl) ?_
    obtain ⟨z5, hz6, b7⟩ := at_get (xs := l.take m ++ List.replicate (l.length - m) 0) (n := (m : Int)) (by first | omega | (simp; omega)) (by first | omega | (simp; omega))
    refine r_op (o_indexo rfl (by kernel_rfl) rfl rfl rfl b7 (at_lt b7 hz6)) ?_
    refine r_op (o_storeo (z2) (n := 1) (by kernel_rfl) rfl rfl hz6 rfl rfl rfl rfl (.cons .sc .nil) rfl (fun j h1 h2 => by simp at h1 h2; omega)) ?_
    refine r_end ?_
    refine t_endblock ?_
    refine t_region ?_
    refine r_op (o_move rfl rfl) ?_
    refine r_op (o_bin rfl rfl rfl rfl) ?_
    refine r_op (o_assign rfl rfl) ?_
    refine r_end ?_
    refine t_le ?_ (ih0 (m + 1) (by (try dsimp only); omega) (by (try dsimp only); omega))
    exact ⟨⟨rfl, ⟨rfl, ⟨rfl, ⟨(eqI (wrS (by omega))), trivial⟩⟩⟩⟩, ⟨(eqR (fill_set (by assumption))), trivial⟩, rfl⟩
  ·
    have h1' := h1
    try simp only [decide_eq_true_eq, decide_eq_false_iff_not, Bool.not_eq_true', Bool.not_eq_false', Bool.not_false, Bool.not_true] at h1'
    refine t_exit rfl ?_
    refine t_seq ?_
    refine t_region ?_
    refine r_op (o_move rfl rfl) ?_
    refine r_op (o_assign rfl rfl) ?_
    refine r_end ?_
    refine t_ret Try.func65 (.tmp rfl .nil) rfl fun E S w u hI hd => ?_
    refine post_mk hI hd ?_ ⟨eqR ?_, trivial⟩ rfl rfl rfl <;> clear hI hd <;> (try clear ih0)
    all_goals first | rfl | ((obtain rfl : m = l.length := by omega); simp)
set_option maxHeartbeats 1000000 in
set_option maxRecDepth 10000 in
theorem c_laws_toUnionFind (a0 : List (Int)) (hs : (a0).length ≤ 1048576) : Pu Try.prog 18 [.agg [.t none (.sl 1 encI (a0))]] [(3, some (.row none 3 true 1 encI (a0)))] 4 (.agg [.own 3]) := by
  refine pu_enter Try.func18 rfl (Nat.le_of_ble_eq_true rfl) fun w S => ?_
  refine t_seq ?_
  refine t_region ?_
  refine r_op (o_box 0 rfl rfl rfl rfl) ?_
  refine r_op (o_alloc 1 (zs := [.slice none 0 0]) rfl rfl (by kernel_rfl) rfl) ?_
  refine r_end ?_
  refine t_seq ?_
  refine t_region ?_
  refine r_op (o_alloc 2 (zs := [.slice none 0 0]) rfl rfl (by kernel_rfl) rfl) ?_
  refine r_end ?_
  refine t_seq ?_
  refine t_region ?_
  refine r_op (o_fieldb rfl (off := 0) (by kernel_rfl) rfl) ?_
  refine r_op (o_load1b rfl (by kernel_rfl) rfl rfl rfl) ?_
  refine r_op (o_call 3 4 false (Go.Proofs.enters_of Try.func65 (by kernel_rfl) rfl) (c_laws_toIntS (a0) (by first | omega | (simp; omega))) rfl (.cons rfl (.c .t0) .nil) rfl rfl rfl) ?_
  refine r_op (o_fieldb rfl (off := 0) (by kernel_rfl) rfl) ?_
  refine r_op (o_storeb (n := 1) (by kernel_rfl) rfl rfl rfl rfl rfl rfl) ?_
  refine r_end ?_
  refine t_seq ?_
  refine t_region ?_
  refine r_op (o_loadAb rfl (n := 1) (by kernel_rfl) (by kernel_rfl) rfl rfl rfl) ?_
  refine r_op (o_storeb (n := 1) (by kernel_rfl) rfl rfl rfl rfl rfl rfl) ?_
  refine r_end ?_
  refine t_ret Try.func18 (.cells (n := 1) (by kernel_rfl) (by kernel_rfl) rfl rfl rfl .nil) rfl fun E S w u hI hd => ?_
  refine post_mk hI hd ?_ ⟨eqR ?_, trivial⟩ rfl rfl rfl <;> clear hI hd
  all_goals first | rfl | (simp_all <;> omega)
set_option maxHeartbeats 1000000 in
set_option maxRecDepth 10000 in
theorem c_spec_l1In (a0 a1 a2 : Int) : Pu Try.prog 74 [.c (.t none (.v (.int .i64 (a0)))), .c (.t none (.v (.int .i64 (a1)))), .c (.t none (.v (.int .i64 (a2))))] [] 0 (.c (.t none (.v (.bool (decide (a1 ≤ a0 ∧ a0 ≤ a2)))))) := by
  refine pu_enter Try.func74 rfl (Nat.le_of_ble_eq_true rfl) fun w S => ?_
  refine t_seq ?_
  refine t_region ?_
  refine r_op (o_assign rfl rfl) ?_
  refine r_end ?_
  refine t_seq ?_
  refine t_region ?_
  refine r_op (o_move rfl rfl) ?_
  refine r_op (o_move rfl rfl) ?_
  refine r_op (o_bin rfl rfl rfl rfl) ?_
  refine r_op (o_move rfl rfl) ?_
  refine r_guard rfl rfl rfl (fun g1 => ?_) (fun g1 => ?_)
  ·
    have g1' := g1
    try simp only [decide_eq_true_eq, decide_eq_false_iff_not, Bool.not_eq_true', Bool.not_eq_false', Bool.not_false, Bool.not_true] at g1'
    refine r_op (o_move rfl rfl) ?_
    refine r_guard rfl rfl rfl (fun _ => ?_) (fun h' => (Bool.noConfusion (g1.symm.trans h')))
    refine r_op (o_move rfl rfl) ?_
    refine r_guard rfl rfl rfl (fun _ => ?_) (fun h' => (Bool.noConfusion (g1.symm.trans h')))
    refine r_op (o_bin rfl rfl rfl rfl) ?_
    refine r_op (o_pickT rfl rfl g1 rfl) ?_
    refine r_op (o_assign rfl rfl) ?_
    refine r_end ?_
    refine t_ret Try.func74 (.tmp rfl .nil) rfl fun E S w u hI hd => ?_
    refine post_mk hI hd ?_ trivial rfl rfl rfl <;> clear hI hd
    all_goals first | rfl | (simp_all <;> omega)
  ·
    have g1' := g1
    try simp only [decide_eq_true_eq, decide_eq_false_iff_not, Bool.not_eq_true', Bool.not_eq_false', Bool.not_false, Bool.not_true] at g1'
    refine r_guard rfl rfl rfl (fun h' => (Bool.noConfusion (g1.symm.trans h'))) (fun _ => ?_)
    refine r_guard rfl rfl rfl (fun h' => (Bool.noConfusion (g1.symm.trans h'))) (fun _ => ?_)
    refine r_op (o_pickF rfl rfl g1 rfl) ?_
    refine r_op (o_assign rfl rfl) ?_
    refine r_end ?_
    refine t_ret Try.func74 (.tmp rfl .nil) rfl fun E S w u hI hd => ?_
    refine post_mk hI hd ?_ trivial rfl rfl rfl <;> clear hI hd
    all_goals first | rfl | (simp_all <;> omega)
set_option maxHeartbeats 1000000 in
set_option maxRecDepth 10000 in
theorem c_spec_NullNumber (v : Int) (hv : -9223372036854775808 ≤ v) (hv2 : v ≤ 9223372036854775807) : Pu Try.prog 63 [.c (.t none (.v (.int .i64 (v))))] [] 0 (.tup [(false, [.t none (.v (.int .i64 (if -40 ≤ v ∧ v ≤ -1 then -1 - v else 0)))]), (false, [.t none (.v (.bool (decide (-40 ≤ v ∧ v ≤ -1))))])]) := by
  refine pu_enter Try.func63 rfl (Nat.le_of_ble_eq_true rfl) fun w S => ?_
  refine t_seq ?_
  refine t_region ?_
  refine r_op (o_assign rfl rfl) ?_
  refine r_op (o_assign rfl rfl) ?_
  refine r_end ?_
  refine t_seq ?_
  refine t_seq ?_
  refine t_region ?_
  refine r_op (o_move rfl rfl) ?_
  refine r_op (o_bin rfl rfl rfl rfl) ?_
  refine r_op (o_move rfl rfl) ?_
  refine r_guard rfl rfl rfl (fun g1 => ?_) (fun g1 => ?_)
  ·
    have g1' := g1
    try simp only [decide_eq_true_eq, decide_eq_false_iff_not, Bool.not_eq_true', Bool.not_eq_false', Bool.not_false, Bool.not_true] at g1'
    refine r_op (o_move rfl rfl) ?_
    refine r_guard rfl rfl rfl (fun _ => ?_) (fun h' => (Bool.noConfusion (g1.symm.trans h')))
    refine r_op (o_bin rfl rfl rfl rfl) ?_
    refine r_guard rfl rfl rfl (fun _ => ?_) (fun h' => (Bool.noConfusion (g1.symm.trans h')))
    refine r_op (o_call 0 0 false (Go.Proofs.enters_of Try.func74 (by kernel_rfl) rfl) (c_spec_l1In (IntKind.i64.wrap ((-1) - v)) (0) (39)) rfl (.cons rfl (.c .t0) (.cons rfl (.c .t0) (.cons rfl (.c .t0) .nil))) rfl rfl rfl) ?_
    refine r_guard rfl rfl rfl (fun _ => ?_) (fun h' => (Bool.noConfusion (g1.symm.trans h')))
    refine r_op (o_not rfl rfl) ?_
    refine r_op (o_pickF rfl rfl g1 rfl) ?_
    refine r_end ?_
    refine t_cond rfl (fun h2 => ?_) (fun h2 => ?_)
    ·
      have h2' := h2
      try simp only [decide_eq_true_eq, decide_eq_false_iff_not, Bool.not_eq_true', Bool.not_eq_false', Bool.not_false, Bool.not_true] at h2'
      refine t_seq ?_
      refine t_region ?_
      refine r_op (o_assign rfl rfl) ?_
      refine r_op (o_assign rfl rfl) ?_
      refine r_end ?_
      refine t_ret Try.func63 (.tmp rfl (.tmp rfl .nil)) rfl fun E S w u hI hd => ?_
      refine post_mk hI hd ?_ trivial rfl rfl rfl <;> clear hI hd
      all_goals first | rfl | (first | (have hn : ¬(-40 ≤ v ∧ v ≤ -1) := by (simp only [IntKind.wrap_i64] at *; omega)); (simp [hn]; done) | (have hn : (-40 ≤ v ∧ v ≤ -1) := by (simp only [IntKind.wrap_i64] at *; omega)); (have e : IntKind.i64.wrap (-1 - v) = -1 - v := wr64 (by omega) (by omega)); (simp [hn, e]; done))
    ·
      have h2' := h2
      try simp only [decide_eq_true_eq, decide_eq_false_iff_not, Bool.not_eq_true', Bool.not_eq_false', Bool.not_false, Bool.not_true] at h2'
      refine t_skip ?_
      refine t_seq ?_
      refine t_region ?_
      refine r_op (o_move rfl rfl) ?_
      refine r_op (o_bin rfl rfl rfl rfl) ?_
      refine r_op (o_assign rfl rfl) ?_
      refine r_op (o_assign rfl rfl) ?_
      refine r_end ?_
      refine t_ret Try.func63 (.tmp rfl (.tmp rfl .nil)) rfl fun E S w u hI hd => ?_
      refine post_mk hI hd ?_ trivial rfl rfl rfl <;> clear hI hd
      all_goals first | rfl | (first | (have hn : ¬(-40 ≤ v ∧ v ≤ -1) := by (simp only [IntKind.wrap_i64] at *; omega)); (simp [hn]; done) | (have hn : (-40 ≤ v ∧ v ≤ -1) := by (simp only [IntKind.wrap_i64] at *; omega)); (have e : IntKind.i64.wrap (-1 - v) = -1 - v := wr64 (by omega) (by omega)); (simp [hn, e]; done))
  ·
    have g1' := g1
    try simp only [decide_eq_true_eq, decide_eq_false_iff_not, Bool.not_eq_true', Bool.not_eq_false', Bool.not_false, Bool.not_true] at g1'
    refine r_guard rfl rfl rfl (fun h' => (Bool.noConfusion (g1.symm.trans h'))) (fun _ => ?_)
    refine r_guard rfl rfl rfl (fun h' => (Bool.noConfusion (g1.symm.trans h'))) (fun _ => ?_)
    refine r_guard rfl rfl rfl (fun h' => (Bool.noConfusion (g1.symm.trans h'))) (fun _ => ?_)
    refine r_op (o_pickT rfl rfl g1 rfl) ?_
    refine r_end ?_
    refine t_cond rfl (fun _ => ?_) (fun h' => Bool.noConfusion (rfl.symm.trans h'))
    refine t_seq ?_
    refine t_region ?_
    refine r_op (o_assign rfl rfl) ?_
    refine r_op (o_assign rfl rfl) ?_
    refine r_end ?_
    refine t_ret Try.func63 (.tmp rfl (.tmp rfl .nil)) rfl fun E S w u hI hd => ?_
    refine post_mk hI hd ?_ trivial rfl rfl rfl <;> clear hI hd
    all_goals first | rfl | (first | (have hn : ¬(-40 ≤ v ∧ v ≤ -1) := by (simp only [IntKind.wrap_i64] at *; omega)); (simp [hn]; done) | (have hn : (-40 ≤ v ∧ v ≤ -1) := by (simp only [IntKind.wrap_i64] at *; omega)); (have e : IntKind.i64.wrap (-1 - v) = -1 - v := wr64 (by omega) (by omega)); (simp [hn, e]; done))
set_option maxHeartbeats 1000000 in
set_option maxRecDepth 10000 in
theorem c_spec_NullValue (k : Int) (hk : -4611686018427387904 ≤ k ∧ k ≤ 4611686018427387904) : Pu Try.prog 75 [.c (.t none (.v (.int .i64 (k))))] [] 0 (.c (.t none (.v (.int .i64 (-1 - k))))) := by
  refine pu_enter Try.func75 rfl (Nat.le_of_ble_eq_true rfl) fun w S => ?_
  refine t_seq ?_
  refine t_region ?_
  refine r_op (o_assign rfl rfl) ?_
  refine r_end ?_
  refine t_seq ?_
  refine t_region ?_
  refine r_op (o_move rfl rfl) ?_
  refine r_op (o_bin rfl rfl rfl rfl) ?_
  refine r_op (o_assign rfl rfl) ?_
  refine r_end ?_
  refine t_ret Try.func75 (.tmp rfl .nil) rfl fun E S w u hI hd => ?_
  refine post_mk hI hd ?_ trivial rfl rfl rfl <;> clear hI hd
  all_goals first | rfl | (refine scI ?_; exact wr64 (by omega) (by omega))
set_option maxHeartbeats 1000000 in
set_option maxRecDepth 10000 in
theorem c_spec_IsValidUnionFind (l : List Int) (hl : l.length ≤ 4611686018427387904) (ho : ∀ x ∈ l, okI x) : Pu Try.prog 30 [.agg [.t none (.sl 1 encI (l))]] [] 0 (.c (.t none (.v (.bool (ufOk l))))) := by
  refine pu_enter Try.func30 rfl (Nat.le_of_ble_eq_true rfl) fun w S => ?_
  refine t_seq ?_
  refine t_region ?_
  refine r_op (o_box 0 rfl rfl rfl rfl) ?_
  refine r_op (o_assign rfl rfl) ?_
  refine r_end ?_
  refine t_seq ?_
  refine t_seq ?_
  refine t_region ?_
  refine r_op (o_assign rfl rfl) ?_
  refine r_end ?_
  refine t_block ?_
  refine t_loopL (fun m => ⟨[(1, some (.c (.ptr 0 0))), (3, some (.c (.t none (.v (.int .i64 ((m : Int)))))))], [(0, some (.box [.t none (.sl 1 encI (l))]))], 1⟩ : Nat → St) (fun m => m ≤ l.length ∧ ∀ j, j < m → ufStep l j = true) (fun m => l.length - m) 0 ⟨⟨rfl, ⟨rfl, trivial⟩⟩, ⟨rfl, trivial⟩, rfl⟩ (by exact ⟨Nat.zero_le _, fun j h => by omega⟩) ?_
  rintro m hI ih0
  try dsimp only at hI ih0
  obtain ⟨i1, i2⟩ := hI
  refine t_seq ?_
  refine t_seq ?_
  refine t_region ?_
  refine r_op (o_move rfl rfl) ?_
  refine r_op (o_fieldb rfl (off := 0) (by kernel_rfl) rfl) ?_
  refine r_op (o_load1b rfl (by kernel_rfl) rfl rfl rfl) ?_
  refine r_op (o_len rfl rfl rfl) ?_
  refine r_op (o_bin rfl rfl rfl rfl) ?_
  refine r_end ?_
  refine t_cond rfl (fun h1 => ?_) (fun h1 => ?_)
  ·
    have h1' := h1
    try simp only [decide_eq_true_eq, decide_eq_false_iff_not, Bool.not_eq_true', Bool.not_eq_false', Bool.not_false, Bool.not_true] at h1'
    refine t_skip ?_
    refine t_seq ?_
    refine t_block ?_
    refine t_seq ?_
    refine t_region ?_
    refine r_op (o_fieldb rfl (off := 0) (by kernel_rfl) rfl) ?_
    refine r_op (o_load1b rfl (by kernel_rfl) rfl rfl rfl) ?_
    refine r_op (o_move rfl rfl) ?_
    obtain ⟨z2, hz3, b4⟩ := at_get (xs := l) (n := (m : Int)) (by first | omega | exact (ho _ (List.mem_of_getElem? (by assumption))).1 | exact (ho _ (List.mem_of_getElem? (by assumption))).2 | (split at * <;> omega)) (by first | omega | exact (ho _ (List.mem_of_getElem? (by assumption))).1 | exact (ho _ (List.mem_of_getElem? (by assumption))).2 | (split at * <;> omega))
    refine r_op (o_index rfl (by kernel_rfl) rfl rfl b4 hz3) ?_
    refine r_op (o_load1 rfl (by kernel_rfl) rfl rfl) ?_
    refine r_op (o_call 1 1 false (Go.Proofs.enters_of Try.func63 (by kernel_rfl) rfl) (c_spec_NullNumber (z2) (by first | omega | exact (ho _ (List.mem_of_getElem? (by assumption))).1 | exact (ho _ (List.mem_of_getElem? (by assumption))).2 | (split at * <;> omega)) (by first | omega | exact (ho _ (List.mem_of_getElem? (by assumption))).1 | exact (ho _ (List.mem_of_getElem? (by assumption))).2 | (split at * <;> omega))) rfl (.cons rfl (.c .t0) .nil) rfl rfl rfl) ?_
    refine r_op (o_move rfl rfl) ?_
    refine r_op (o_extract rfl rfl rfl rfl) ?_
    refine r_op (o_extract rfl rfl rfl rfl) ?_
    refine r_op (o_assign rfl rfl) ?_
    refine r_op (o_assign rfl rfl) ?_
    refine r_end ?_
    refine t_seq ?_
    refine t_draw (fun _ => true) (by kernel_rfl) ?_
    refine d_take 0 rfl rfl (by kernel_rfl) (by kernel_rfl) (by kernel_rfl) (p_move rfl) ?_
    refine d_take 1 rfl rfl (by kernel_rfl) (by kernel_rfl) (by kernel_rfl) (p_not rfl) ?_
    refine d_take 2 rfl rfl (by kernel_rfl) (by kernel_rfl) (by kernel_rfl) (p_move rfl) ?_
    refine d_guard 3 rfl rfl (by kernel_rfl) (by kernel_rfl) (by kernel_rfl) rfl rfl (fun _ => p_fieldb (off := 0) (by kernel_rfl) rfl) (fun g5 => ?_) (fun g5 => ?_)
    ·
      have g5' := g5
      try simp only [decide_eq_true_eq, decide_eq_false_iff_not, Bool.not_eq_true', Bool.not_eq_false', Bool.not_false, Bool.not_true] at g5'
      refine d_guard 4 rfl rfl (by kernel_rfl) (by kernel_rfl) (by kernel_rfl) rfl rfl (fun _ => p_load1b (by kernel_rfl) rfl rfl rfl) (fun _ => ?_) (fun h' => Bool.noConfusion (g5.symm.trans h'))
      refine d_guard 5 rfl rfl (by kernel_rfl) (by kernel_rfl) (by kernel_rfl) rfl rfl (fun _ => p_move rfl) (fun _ => ?_) (fun h' => Bool.noConfusion (g5.symm.trans h'))
      refine d_guard 6 rfl rfl (by kernel_rfl) (by kernel_rfl) (by kernel_rfl) rfl rfl (fun _ => p_index (by kernel_rfl) rfl rfl b4 hz3) (fun _ => ?_) (fun h' => Bool.noConfusion (g5.symm.trans h'))
      refine d_guard 7 rfl rfl (by kernel_rfl) (by kernel_rfl) (by kernel_rfl) rfl rfl (fun _ => p_load1 (by kernel_rfl) rfl rfl) (fun _ => ?_) (fun h' => Bool.noConfusion (g5.symm.trans h'))
      refine d_onlyG 8 rfl rfl (by kernel_rfl) rfl rfl rfl (fun _ => (o_call 1 1 false (Go.Proofs.enters_of Try.func74 (by kernel_rfl) rfl) (c_spec_l1In (z2) (0) (9)) rfl (.cons rfl (.c .t0) (.cons rfl (.c .t0) (.cons rfl (.c .t0) .nil))) rfl rfl rfl)) (fun _ => ?_) (fun h' => Bool.noConfusion (g5.symm.trans h'))
      refine d_guard 9 rfl rfl (by kernel_rfl) (by kernel_rfl) (by kernel_rfl) rfl rfl (fun _ => p_not rfl) (fun _ => ?_) (fun h' => Bool.noConfusion (g5.symm.trans h'))
      refine d_take 10 rfl rfl (by kernel_rfl) (by kernel_rfl) (by kernel_rfl) (p_pickT rfl g5 rfl) ?_
      refine d_take 11 rfl rfl (by kernel_rfl) (by kernel_rfl) (by kernel_rfl) (p_move rfl) ?_
      refine d_guard 12 rfl rfl (by kernel_rfl) (by kernel_rfl) (by kernel_rfl) rfl rfl (fun _ => p_move rfl) (fun g6 => ?_) (fun g6 => ?_)
      ·
        have g6' := g6
        try simp only [decide_eq_true_eq, decide_eq_false_iff_not, Bool.not_eq_true', Bool.not_eq_false', Bool.not_false, Bool.not_true] at g6'
        refine d_guard 13 rfl rfl (by kernel_rfl) (by kernel_rfl) (by kernel_rfl) rfl rfl (fun _ => p_move rfl) (fun _ => ?_) (fun h' => Bool.noConfusion (g6.symm.trans h'))
        refine d_guard 14 rfl rfl (by kernel_rfl) (by kernel_rfl) (by kernel_rfl) rfl rfl (fun _ => p_move rfl) (fun g7 => ?_) (fun g7 => ?_)
        ·
          have g7' := g7
          try simp only [decide_eq_true_eq, decide_eq_false_iff_not, Bool.not_eq_true', Bool.not_eq_false', Bool.not_false, Bool.not_true] at g7'
          refine d_guard 15 rfl rfl (by kernel_rfl) (by kernel_rfl) (by kernel_rfl) rfl rfl (fun _ => p_move rfl) (fun _ => ?_) (fun h' => Bool.noConfusion (g7.symm.trans h'))
          refine d_guard 16 rfl rfl (by kernel_rfl) (by kernel_rfl) (by kernel_rfl) rfl rfl (fun _ => p_bin rfl rfl rfl) (fun _ => ?_) (fun h' => Bool.noConfusion (g7.symm.trans h'))
          refine d_guard 17 rfl rfl (by kernel_rfl) (by kernel_rfl) (by kernel_rfl) rfl rfl (fun _ => p_move rfl) (fun _ => ?_) (fun h' => Bool.noConfusion (g7.symm.trans h'))
          refine d_guard 18 rfl rfl (by kernel_rfl) (by kernel_rfl) (by kernel_rfl) rfl rfl (fun _ => p_fieldb (off := 0) (by kernel_rfl) rfl) (fun g8 => ?_) (fun g8 => ?_)
          ·
            have g8' := g8
            try simp only [decide_eq_true_eq, decide_eq_false_iff_not, Bool.not_eq_true', Bool.not_eq_false', Bool.not_false, Bool.not_true] at g8'
            refine d_guard 19 rfl rfl (by kernel_rfl) (by kernel_rfl) (by kernel_rfl) rfl rfl (fun _ => p_load1b (by kernel_rfl) rfl rfl rfl) (fun _ => ?_) (fun h' => Bool.noConfusion (g8.symm.trans h'))
            refine d_guard 20 rfl rfl (by kernel_rfl) (by kernel_rfl) (by kernel_rfl) rfl rfl (fun _ => p_move rfl) (fun _ => ?_) (fun h' => Bool.noConfusion (g8.symm.trans h'))
            obtain ⟨z9, hz10, b11⟩ := at_get (xs := l) (n := if -40 ≤ (z2) ∧ (z2) ≤ -1 then -1 - (z2) else 0) (by first | omega | exact (ho _ (List.mem_of_getElem? (by assumption))).1 | exact (ho _ (List.mem_of_getElem? (by assumption))).2 | (split at * <;> omega)) (by first | omega | exact (ho _ (List.mem_of_getElem? (by assumption))).1 | exact (ho _ (List.mem_of_getElem? (by assumption))).2 | (split at * <;> omega))
            refine d_guard 21 rfl rfl (by kernel_rfl) (by kernel_rfl) (by kernel_rfl) rfl rfl (fun _ => p_index (by kernel_rfl) rfl rfl b11 hz10) (fun _ => ?_) (fun h' => Bool.noConfusion (g8.symm.trans h'))
            refine d_guard 22 rfl rfl (by kernel_rfl) (by kernel_rfl) (by kernel_rfl) rfl rfl (fun _ => p_load1 (by kernel_rfl) rfl rfl) (fun _ => ?_) (fun h' => Bool.noConfusion (g8.symm.trans h'))
            refine d_guard 23 rfl rfl (by kernel_rfl) (by kernel_rfl) (by kernel_rfl) rfl rfl (fun _ => p_move rfl) (fun _ => ?_) (fun h' => Bool.noConfusion (g8.symm.trans h'))
            refine d_onlyG 24 rfl rfl (by kernel_rfl) rfl rfl rfl (fun _ => (o_call 1 1 false (Go.Proofs.enters_of Try.func75 (by kernel_rfl) rfl) (c_spec_NullValue (if -40 ≤ (z2) ∧ (z2) ≤ -1 then -1 - (z2) else 0) (by first | omega | exact (ho _ (List.mem_of_getElem? (by assumption))).1 | exact (ho _ (List.mem_of_getElem? (by assumption))).2 | (split at * <;> omega))) rfl (.cons rfl (.c .t0) .nil) rfl rfl rfl)) (fun _ => ?_) (fun h' => Bool.noConfusion (g8.symm.trans h'))
            refine d_guard 25 rfl rfl (by kernel_rfl) (by kernel_rfl) (by kernel_rfl) rfl rfl (fun _ => p_bin rfl rfl rfl) (fun _ => ?_) (fun h' => Bool.noConfusion (g8.symm.trans h'))
            refine d_guard 26 rfl rfl (by kernel_rfl) (by kernel_rfl) (by kernel_rfl) rfl rfl (fun _ => p_pickF rfl g8 rfl) (fun _ => ?_) (fun h' => Bool.noConfusion (g7.symm.trans h'))
            refine d_guard 27 rfl rfl (by kernel_rfl) (by kernel_rfl) (by kernel_rfl) rfl rfl (fun _ => p_pickT rfl g7 rfl) (fun _ => ?_) (fun h' => Bool.noConfusion (g6.symm.trans h'))
            refine d_take 28 rfl rfl (by kernel_rfl) (by kernel_rfl) (by kernel_rfl) (p_pickF rfl g6 rfl) ?_
            refine d_end (by kernel_rfl) ?_
            refine t_cond rfl (fun h12 => ?_) (fun h12 => ?_)
            ·
              have h12' := h12
              try simp only [decide_eq_true_eq, decide_eq_false_iff_not, Bool.not_eq_true', Bool.not_eq_false', Bool.not_false, Bool.not_true] at h12'
              refine t_seq ?_
              refine t_region ?_
              refine r_op (o_assign rfl rfl) ?_
              refine r_end ?_
              refine t_ret Try.func30 (.tmp rfl .nil) rfl fun E S w u hI hd => ?_
              refine post_mk hI hd ?_ trivial rfl rfl rfl <;> clear hI hd <;> (try clear ih0)
              all_goals first | rfl | (refine scB ?_; first | (rw [ufOk_not (m := m) (by omega) (by first | exact ufStep_bad (m := m) (by assumption) (by omega) | exact ufStep_far (m := m) (by assumption) (by omega) (by omega) | exact ufStep_const (m := m) (by assumption) (by omega) (by omega) | (rw [ufStep_rep (m := m) (by assumption) (by assumption) (by omega) (by omega) (by omega) (by omega)]; first | exact decide_eq_true (by omega) | exact decide_eq_false (by omega)))]; done) | (rw [ufOk_end (m := m) i2 (by omega)]; exact decide_eq_decide.2 (by omega)))
            ·
              have h12' := h12
              try simp only [decide_eq_true_eq, decide_eq_false_iff_not, Bool.not_eq_true', Bool.not_eq_false', Bool.not_false, Bool.not_true] at h12'
              refine t_skip ?_
              refine t_endblock ?_
              refine t_region ?_
              refine r_op (o_move rfl rfl) ?_
              refine r_op (o_bin rfl rfl rfl rfl) ?_
              refine r_op (o_assign rfl rfl) ?_
              refine r_end ?_
              refine t_le ?_ (ih0 (m + 1) (by (try dsimp only); omega) (by (try dsimp only); exact ⟨by omega, step_all i2 (by first | exact ufStep_bad (m := m) (by assumption) (by omega) | exact ufStep_far (m := m) (by assumption) (by omega) (by omega) | exact ufStep_const (m := m) (by assumption) (by omega) (by omega) | (rw [ufStep_rep (m := m) (by assumption) (by assumption) (by omega) (by omega) (by omega) (by omega)]; first | exact decide_eq_true (by omega) | exact decide_eq_false (by omega)))⟩))
              exact ⟨⟨rfl, ⟨(eqI (wr64 (by omega) (by omega))), trivial⟩⟩, ⟨rfl, trivial⟩, rfl⟩
          ·
            have g8' := g8
            try simp only [decide_eq_true_eq, decide_eq_false_iff_not, Bool.not_eq_true', Bool.not_eq_false', Bool.not_false, Bool.not_true] at g8'
            refine d_guard 19 rfl rfl (by kernel_rfl) (by kernel_rfl) (by kernel_rfl) rfl rfl (v := .c .top) (fun h' => Bool.noConfusion (g8.symm.trans h')) (fun h' => Bool.noConfusion (g8.symm.trans h')) (fun _ => ?_)
            refine d_guard 20 rfl rfl (by kernel_rfl) (by kernel_rfl) (by kernel_rfl) rfl rfl (v := .c .top) (fun h' => Bool.noConfusion (g8.symm.trans h')) (fun h' => Bool.noConfusion (g8.symm.trans h')) (fun _ => ?_)
            refine d_guard 21 rfl rfl (by kernel_rfl) (by kernel_rfl) (by kernel_rfl) rfl rfl (v := .c .top) (fun h' => Bool.noConfusion (g8.symm.trans h')) (fun h' => Bool.noConfusion (g8.symm.trans h')) (fun _ => ?_)
            refine d_guard 22 rfl rfl (by kernel_rfl) (by kernel_rfl) (by kernel_rfl) rfl rfl (v := .c .top) (fun h' => Bool.noConfusion (g8.symm.trans h')) (fun h' => Bool.noConfusion (g8.symm.trans h')) (fun _ => ?_)
            refine d_guard 23 rfl rfl (by kernel_rfl) (by kernel_rfl) (by kernel_rfl) rfl rfl (v := .c .top) (fun h' => Bool.noConfusion (g8.symm.trans h')) (fun h' => Bool.noConfusion (g8.symm.trans h')) (fun _ => ?_)
            refine d_guard 24 rfl rfl (by kernel_rfl) (by kernel_rfl) (by kernel_rfl) rfl rfl (v := .c .top) (fun h' => Bool.noConfusion (g8.symm.trans h')) (fun h' => Bool.noConfusion (g8.symm.trans h')) (fun _ => ?_)
            refine d_guard 25 rfl rfl (by kernel_rfl) (by kernel_rfl) (by kernel_rfl) rfl rfl (v := .c .top) (fun h' => Bool.noConfusion (g8.symm.trans h')) (fun h' => Bool.noConfusion (g8.symm.trans h')) (fun _ => ?_)
            refine d_guard 26 rfl rfl (by kernel_rfl) (by kernel_rfl) (by kernel_rfl) rfl rfl (fun _ => p_pickT rfl g8 rfl) (fun _ => ?_) (fun h' => Bool.noConfusion (g7.symm.trans h'))
            refine d_guard 27 rfl rfl (by kernel_rfl) (by kernel_rfl) (by kernel_rfl) rfl rfl (fun _ => p_pickT rfl g7 rfl) (fun _ => ?_) (fun h' => Bool.noConfusion (g6.symm.trans h'))
            refine d_take 28 rfl rfl (by kernel_rfl) (by kernel_rfl) (by kernel_rfl) (p_pickF rfl g6 rfl) ?_
            refine d_end (by kernel_rfl) ?_
            refine t_cond rfl (fun _ => ?_) (fun h' => Bool.noConfusion (rfl.symm.trans h'))
            refine t_seq ?_
            refine t_region ?_
            refine r_op (o_assign rfl rfl) ?_
            refine r_end ?_
            refine t_ret Try.func30 (.tmp rfl .nil) rfl fun E S w u hI hd => ?_
            refine post_mk hI hd ?_ trivial rfl rfl rfl <;> clear hI hd <;> (try clear ih0)
            all_goals first | rfl | (refine scB ?_; first | (rw [ufOk_not (m := m) (by omega) (by first | exact ufStep_bad (m := m) (by assumption) (by omega) | exact ufStep_far (m := m) (by assumption) (by omega) (by omega) | exact ufStep_const (m := m) (by assumption) (by omega) (by omega) | (rw [ufStep_rep (m := m) (by assumption) (by assumption) (by omega) (by omega) (by omega) (by omega)]; first | exact decide_eq_true (by omega) | exact decide_eq_false (by omega)))]; done) | (rw [ufOk_end (m := m) i2 (by omega)]; exact decide_eq_decide.2 (by omega)))
        ·
          have g7' := g7
          try simp only [decide_eq_true_eq, decide_eq_false_iff_not, Bool.not_eq_true', Bool.not_eq_false', Bool.not_false, Bool.not_true] at g7'
          refine d_guard 15 rfl rfl (by kernel_rfl) (by kernel_rfl) (by kernel_rfl) rfl rfl (v := .c .top) (fun h' => Bool.noConfusion (g7.symm.trans h')) (fun h' => Bool.noConfusion (g7.symm.trans h')) (fun _ => ?_)
          refine d_guard 16 rfl rfl (by kernel_rfl) (by kernel_rfl) (by kernel_rfl) rfl rfl (v := .c .top) (fun h' => Bool.noConfusion (g7.symm.trans h')) (fun h' => Bool.noConfusion (g7.symm.trans h')) (fun _ => ?_)
          refine d_guard 17 rfl rfl (by kernel_rfl) (by kernel_rfl) (by kernel_rfl) rfl rfl (v := .c .top) (fun h' => Bool.noConfusion (g7.symm.trans h')) (fun h' => Bool.noConfusion (g7.symm.trans h')) (fun _ => ?_)
          refine d_skip 18 rfl rfl (by kernel_rfl) (by kernel_rfl) (by kernel_rfl) rfl rfl ?_
          refine d_skip 19 rfl rfl (by kernel_rfl) (by kernel_rfl) (by kernel_rfl) rfl rfl ?_
          refine d_skip 20 rfl rfl (by kernel_rfl) (by kernel_rfl) (by kernel_rfl) rfl rfl ?_
          refine d_skip 21 rfl rfl (by kernel_rfl) (by kernel_rfl) (by kernel_rfl) rfl rfl ?_
          refine d_skip 22 rfl rfl (by kernel_rfl) (by kernel_rfl) (by kernel_rfl) rfl rfl ?_
          refine d_skip 23 rfl rfl (by kernel_rfl) (by kernel_rfl) (by kernel_rfl) rfl rfl ?_
          refine d_skip 24 rfl rfl (by kernel_rfl) (by kernel_rfl) (by kernel_rfl) rfl rfl ?_
          refine d_skip 25 rfl rfl (by kernel_rfl) (by kernel_rfl) (by kernel_rfl) rfl rfl ?_
          refine d_guard 26 rfl rfl (by kernel_rfl) (by kernel_rfl) (by kernel_rfl) rfl rfl (v := .c .top) (fun h' => Bool.noConfusion (g7.symm.trans h')) (fun h' => Bool.noConfusion (g7.symm.trans h')) (fun _ => ?_)
          refine d_guard 27 rfl rfl (by kernel_rfl) (by kernel_rfl) (by kernel_rfl) rfl rfl (fun _ => p_pickF rfl g7 rfl) (fun _ => ?_) (fun h' => Bool.noConfusion (g6.symm.trans h'))
          refine d_take 28 rfl rfl (by kernel_rfl) (by kernel_rfl) (by kernel_rfl) (p_pickF rfl g6 rfl) ?_
          refine d_end (by kernel_rfl) ?_
          refine t_cond rfl (fun h' => Bool.noConfusion (rfl.symm.trans h')) (fun _ => ?_)
          refine t_skip ?_
          refine t_endblock ?_
          refine t_region ?_
          refine r_op (o_move rfl rfl) ?_
          refine r_op (o_bin rfl rfl rfl rfl) ?_
          refine r_op (o_assign rfl rfl) ?_
          refine r_end ?_
          refine t_le ?_ (ih0 (m + 1) (by (try dsimp only); omega) (by (try dsimp only); exact ⟨by omega, step_all i2 (by first | exact ufStep_bad (m := m) (by assumption) (by omega) | exact ufStep_far (m := m) (by assumption) (by omega) (by omega) | exact ufStep_const (m := m) (by assumption) (by omega) (by omega) | (rw [ufStep_rep (m := m) (by assumption) (by assumption) (by omega) (by omega) (by omega) (by omega)]; first | exact decide_eq_true (by omega) | exact decide_eq_false (by omega)))⟩))
          exact ⟨⟨rfl, ⟨(eqI (wr64 (by omega) (by omega))), trivial⟩⟩, ⟨rfl, trivial⟩, rfl⟩
      ·
        have g6' := g6
        try simp only [decide_eq_true_eq, decide_eq_false_iff_not, Bool.not_eq_true', Bool.not_eq_false', Bool.not_false, Bool.not_true] at g6'
        refine d_guard 13 rfl rfl (by kernel_rfl) (by kernel_rfl) (by kernel_rfl) rfl rfl (v := .c .top) (fun h' => Bool.noConfusion (g6.symm.trans h')) (fun h' => Bool.noConfusion (g6.symm.trans h')) (fun _ => ?_)
        refine d_skip 14 rfl rfl (by kernel_rfl) (by kernel_rfl) (by kernel_rfl) rfl rfl ?_
        refine d_skip 15 rfl rfl (by kernel_rfl) (by kernel_rfl) (by kernel_rfl) rfl rfl ?_
        refine d_skip 16 rfl rfl (by kernel_rfl) (by kernel_rfl) (by kernel_rfl) rfl rfl ?_
        refine d_skip 17 rfl rfl (by kernel_rfl) (by kernel_rfl) (by kernel_rfl) rfl rfl ?_
        refine d_skip 18 rfl rfl (by kernel_rfl) (by kernel_rfl) (by kernel_rfl) rfl rfl ?_
        refine d_skip 19 rfl rfl (by kernel_rfl) (by kernel_rfl) (by kernel_rfl) rfl rfl ?_
        refine d_skip 20 rfl rfl (by kernel_rfl) (by kernel_rfl) (by kernel_rfl) rfl rfl ?_
        refine d_skip 21 rfl rfl (by kernel_rfl) (by kernel_rfl) (by kernel_rfl) rfl rfl ?_
        refine d_skip 22 rfl rfl (by kernel_rfl) (by kernel_rfl) (by kernel_rfl) rfl rfl ?_
        refine d_skip 23 rfl rfl (by kernel_rfl) (by kernel_rfl) (by kernel_rfl) rfl rfl ?_
        refine d_skip 24 rfl rfl (by kernel_rfl) (by kernel_rfl) (by kernel_rfl) rfl rfl ?_
        refine d_skip 25 rfl rfl (by kernel_rfl) (by kernel_rfl) (by kernel_rfl) rfl rfl ?_
        refine d_skip 26 rfl rfl (by kernel_rfl) (by kernel_rfl) (by kernel_rfl) rfl rfl ?_
        refine d_guard 27 rfl rfl (by kernel_rfl) (by kernel_rfl) (by kernel_rfl) rfl rfl (v := .c .top) (fun h' => Bool.noConfusion (g6.symm.trans h')) (fun h' => Bool.noConfusion (g6.symm.trans h')) (fun _ => ?_)
        refine d_take 28 rfl rfl (by kernel_rfl) (by kernel_rfl) (by kernel_rfl) (p_pickT rfl g6 rfl) ?_
        refine d_end (by kernel_rfl) ?_
        refine t_cond rfl (fun _ => ?_) (fun h' => Bool.noConfusion (rfl.symm.trans h'))
        refine t_seq ?_
        refine t_region ?_
        refine r_op (o_assign rfl rfl) ?_
        refine r_end ?_
        refine t_ret Try.func30 (.tmp rfl .nil) rfl fun E S w u hI hd => ?_
        refine post_mk hI hd ?_ trivial rfl rfl rfl <;> clear hI hd <;> (try clear ih0)
        all_goals first | rfl | (refine scB ?_; first | (rw [ufOk_not (m := m) (by omega) (by first | exact ufStep_bad (m := m) (by assumption) (by omega) | exact ufStep_far (m := m) (by assumption) (by omega) (by omega) | exact ufStep_const (m := m) (by assumption) (by omega) (by omega) | (rw [ufStep_rep (m := m) (by assumption) (by assumption) (by omega) (by omega) (by omega) (by omega)]; first | exact decide_eq_true (by omega) | exact decide_eq_false (by omega)))]; done) | (rw [ufOk_end (m := m) i2 (by omega)]; exact decide_eq_decide.2 (by omega)))
    ·
      have g5' := g5
      try simp only [decide_eq_true_eq, decide_eq_false_iff_not, Bool.not_eq_true', Bool.not_eq_false', Bool.not_false, Bool.not_true] at g5'
      refine d_guard 4 rfl rfl (by kernel_rfl) (by kernel_rfl) (by kernel_rfl) rfl rfl (v := .c .top) (fun h' => Bool.noConfusion (g5.symm.trans h')) (fun h' => Bool.noConfusion (g5.symm.trans h')) (fun _ => ?_)
      refine d_guard 5 rfl rfl (by kernel_rfl) (by kernel_rfl) (by kernel_rfl) rfl rfl (v := .c .top) (fun h' => Bool.noConfusion (g5.symm.trans h')) (fun h' => Bool.noConfusion (g5.symm.trans h')) (fun _ => ?_)
      refine d_guard 6 rfl rfl (by kernel_rfl) (by kernel_rfl) (by kernel_rfl) rfl rfl (v := .c .top) (fun h' => Bool.noConfusion (g5.symm.trans h')) (fun h' => Bool.noConfusion (g5.symm.trans h')) (fun _ => ?_)
      refine d_guard 7 rfl rfl (by kernel_rfl) (by kernel_rfl) (by kernel_rfl) rfl rfl (v := .c .top) (fun h' => Bool.noConfusion (g5.symm.trans h')) (fun h' => Bool.noConfusion (g5.symm.trans h')) (fun _ => ?_)
      refine d_guard 8 rfl rfl (by kernel_rfl) (by kernel_rfl) (by kernel_rfl) rfl rfl (v := .c .top) (fun h' => Bool.noConfusion (g5.symm.trans h')) (fun h' => Bool.noConfusion (g5.symm.trans h')) (fun _ => ?_)
      refine d_guard 9 rfl rfl (by kernel_rfl) (by kernel_rfl) (by kernel_rfl) rfl rfl (v := .c .top) (fun h' => Bool.noConfusion (g5.symm.trans h')) (fun h' => Bool.noConfusion (g5.symm.trans h')) (fun _ => ?_)
      refine d_take 10 rfl rfl (by kernel_rfl) (by kernel_rfl) (by kernel_rfl) (p_pickF rfl g5 rfl) ?_
      refine d_take 11 rfl rfl (by kernel_rfl) (by kernel_rfl) (by kernel_rfl) (p_move rfl) ?_
      refine d_guard 12 rfl rfl (by kernel_rfl) (by kernel_rfl) (by kernel_rfl) rfl rfl (fun _ => p_move rfl) (fun _ => ?_) (fun h' => Bool.noConfusion (rfl.symm.trans h'))
      refine d_guard 13 rfl rfl (by kernel_rfl) (by kernel_rfl) (by kernel_rfl) rfl rfl (fun _ => p_move rfl) (fun _ => ?_) (fun h' => Bool.noConfusion (rfl.symm.trans h'))
      refine d_guard 14 rfl rfl (by kernel_rfl) (by kernel_rfl) (by kernel_rfl) rfl rfl (fun _ => p_move rfl) (fun g13 => ?_) (fun g13 => ?_)
      ·
        have g13' := g13
        try simp only [decide_eq_true_eq, decide_eq_false_iff_not, Bool.not_eq_true', Bool.not_eq_false', Bool.not_false, Bool.not_true] at g13'
        refine d_guard 15 rfl rfl (by kernel_rfl) (by kernel_rfl) (by kernel_rfl) rfl rfl (fun _ => p_move rfl) (fun _ => ?_) (fun h' => Bool.noConfusion (g13.symm.trans h'))
        refine d_guard 16 rfl rfl (by kernel_rfl) (by kernel_rfl) (by kernel_rfl) rfl rfl (fun _ => p_bin rfl rfl rfl) (fun _ => ?_) (fun h' => Bool.noConfusion (g13.symm.trans h'))
        refine d_guard 17 rfl rfl (by kernel_rfl) (by kernel_rfl) (by kernel_rfl) rfl rfl (fun _ => p_move rfl) (fun _ => ?_) (fun h' => Bool.noConfusion (g13.symm.trans h'))
        refine d_guard 18 rfl rfl (by kernel_rfl) (by kernel_rfl) (by kernel_rfl) rfl rfl (fun _ => p_fieldb (off := 0) (by kernel_rfl) rfl) (fun g14 => ?_) (fun g14 => ?_)
        ·
          have g14' := g14
          try simp only [decide_eq_true_eq, decide_eq_false_iff_not, Bool.not_eq_true', Bool.not_eq_false', Bool.not_false, Bool.not_true] at g14'
          refine d_guard 19 rfl rfl (by kernel_rfl) (by kernel_rfl) (by kernel_rfl) rfl rfl (fun _ => p_load1b (by kernel_rfl) rfl rfl rfl) (fun _ => ?_) (fun h' => Bool.noConfusion (g14.symm.trans h'))
          refine d_guard 20 rfl rfl (by kernel_rfl) (by kernel_rfl) (by kernel_rfl) rfl rfl (fun _ => p_move rfl) (fun _ => ?_) (fun h' => Bool.noConfusion (g14.symm.trans h'))
          obtain ⟨z15, hz16, b17⟩ := at_get (xs := l) (n := if -40 ≤ (z2) ∧ (z2) ≤ -1 then -1 - (z2) else 0) (by first | omega | exact (ho _ (List.mem_of_getElem? (by assumption))).1 | exact (ho _ (List.mem_of_getElem? (by assumption))).2 | (split at * <;> omega)) (by first | omega | exact (ho _ (List.mem_of_getElem? (by assumption))).1 | exact (ho _ (List.mem_of_getElem? (by assumption))).2 | (split at * <;> omega))
          refine d_guard 21 rfl rfl (by kernel_rfl) (by kernel_rfl) (by kernel_rfl) rfl rfl (fun _ => p_index (by kernel_rfl) rfl rfl b17 hz16) (fun _ => ?_) (fun h' => Bool.noConfusion (g14.symm.trans h'))
          refine d_guard 22 rfl rfl (by kernel_rfl) (by kernel_rfl) (by kernel_rfl) rfl rfl (fun _ => p_load1 (by kernel_rfl) rfl rfl) (fun _ => ?_) (fun h' => Bool.noConfusion (g14.symm.trans h'))
          refine d_guard 23 rfl rfl (by kernel_rfl) (by kernel_rfl) (by kernel_rfl) rfl rfl (fun _ => p_move rfl) (fun _ => ?_) (fun h' => Bool.noConfusion (g14.symm.trans h'))
          refine d_onlyG 24 rfl rfl (by kernel_rfl) rfl rfl rfl (fun _ => (o_call 1 1 false (Go.Proofs.enters_of Try.func75 (by kernel_rfl) rfl) (c_spec_NullValue (if -40 ≤ (z2) ∧ (z2) ≤ -1 then -1 - (z2) else 0) (by first | omega | exact (ho _ (List.mem_of_getElem? (by assumption))).1 | exact (ho _ (List.mem_of_getElem? (by assumption))).2 | (split at * <;> omega))) rfl (.cons rfl (.c .t0) .nil) rfl rfl rfl)) (fun _ => ?_) (fun h' => Bool.noConfusion (g14.symm.trans h'))
          refine d_guard 25 rfl rfl (by kernel_rfl) (by kernel_rfl) (by kernel_rfl) rfl rfl (fun _ => p_bin rfl rfl rfl) (fun _ => ?_) (fun h' => Bool.noConfusion (g14.symm.trans h'))
          refine d_guard 26 rfl rfl (by kernel_rfl) (by kernel_rfl) (by kernel_rfl) rfl rfl (fun _ => p_pickF rfl g14 rfl) (fun _ => ?_) (fun h' => Bool.noConfusion (g13.symm.trans h'))
          refine d_guard 27 rfl rfl (by kernel_rfl) (by kernel_rfl) (by kernel_rfl) rfl rfl (fun _ => p_pickT rfl g13 rfl) (fun _ => ?_) (fun h' => Bool.noConfusion (rfl.symm.trans h'))
          refine d_take 28 rfl rfl (by kernel_rfl) (by kernel_rfl) (by kernel_rfl) (p_pickF rfl rfl rfl) ?_
          refine d_end (by kernel_rfl) ?_
          refine t_cond rfl (fun h18 => ?_) (fun h18 => ?_)
          ·
            have h18' := h18
            try simp only [decide_eq_true_eq, decide_eq_false_iff_not, Bool.not_eq_true', Bool.not_eq_false', Bool.not_false, Bool.not_true] at h18'
            refine t_seq ?_
            refine t_region ?_
            refine r_op (o_assign rfl rfl) ?_
            refine r_end ?_
            refine t_ret Try.func30 (.tmp rfl .nil) rfl fun E S w u hI hd => ?_
            refine post_mk hI hd ?_ trivial rfl rfl rfl <;> clear hI hd <;> (try clear ih0)
            all_goals first | rfl | (refine scB ?_; first | (rw [ufOk_not (m := m) (by omega) (by first | exact ufStep_bad (m := m) (by assumption) (by omega) | exact ufStep_far (m := m) (by assumption) (by omega) (by omega) | exact ufStep_const (m := m) (by assumption) (by omega) (by omega) | (rw [ufStep_rep (m := m) (by assumption) (by assumption) (by omega) (by omega) (by omega) (by omega)]; first | exact decide_eq_true (by omega) | exact decide_eq_false (by omega)))]; done) | (rw [ufOk_end (m := m) i2 (by omega)]; exact decide_eq_decide.2 (by omega)))
          ·
            have h18' := h18
            try simp only [decide_eq_true_eq, decide_eq_false_iff_not, Bool.not_eq_true', Bool.not_eq_false', Bool.not_false, Bool.not_true] at h18'
            refine t_skip ?_
            refine t_endblock ?_
            refine t_region ?_
            refine r_op (o_move rfl rfl) ?_
            refine r_op (o_bin rfl rfl rfl rfl) ?_
            refine r_op (o_assign rfl rfl) ?_
            refine r_end ?_
            refine t_le ?_ (ih0 (m + 1) (by (try dsimp only); omega) (by (try dsimp only); exact ⟨by omega, step_all i2 (by first | exact ufStep_bad (m := m) (by assumption) (by omega) | exact ufStep_far (m := m) (by assumption) (by omega) (by omega) | exact ufStep_const (m := m) (by assumption) (by omega) (by omega) | (rw [ufStep_rep (m := m) (by assumption) (by assumption) (by omega) (by omega) (by omega) (by omega)]; first | exact decide_eq_true (by omega) | exact decide_eq_false (by omega)))⟩))
            exact ⟨⟨rfl, ⟨(eqI (wr64 (by omega) (by omega))), trivial⟩⟩, ⟨rfl, trivial⟩, rfl⟩
        ·
          have g14' := g14
          try simp only [decide_eq_true_eq, decide_eq_false_iff_not, Bool.not_eq_true', Bool.not_eq_false', Bool.not_false, Bool.not_true] at g14'
          refine d_guard 19 rfl rfl (by kernel_rfl) (by kernel_rfl) (by kernel_rfl) rfl rfl (v := .c .top) (fun h' => Bool.noConfusion (g14.symm.trans h')) (fun h' => Bool.noConfusion (g14.symm.trans h')) (fun _ => ?_)
          refine d_guard 20 rfl rfl (by kernel_rfl) (by kernel_rfl) (by kernel_rfl) rfl rfl (v := .c .top) (fun h' => Bool.noConfusion (g14.symm.trans h')) (fun h' => Bool.noConfusion (g14.symm.trans h')) (fun _ => ?_)
          refine d_guard 21 rfl rfl (by kernel_rfl) (by kernel_rfl) (by kernel_rfl) rfl rfl (v := .c .top) (fun h' => Bool.noConfusion (g14.symm.trans h')) (fun h' => Bool.noConfusion (g14.symm.trans h')) (fun _ => ?_)
          refine d_guard 22 rfl rfl (by kernel_rfl) (by kernel_rfl) (by kernel_rfl) rfl rfl (v := .c .top) (fun h' => Bool.noConfusion (g14.symm.trans h')) (fun h' => Bool.noConfusion (g14.symm.trans h')) (fun _ => ?_)
          refine d_guard 23 rfl rfl (by kernel_rfl) (by kernel_rfl) (by kernel_rfl) rfl rfl (v := .c .top) (fun h' => Bool.noConfusion (g14.symm.trans h')) (fun h' => Bool.noConfusion (g14.symm.trans h')) (fun _ => ?_)
          refine d_guard 24 rfl rfl (by kernel_rfl) (by kernel_rfl) (by kernel_rfl) rfl rfl (v := .c .top) (fun h' => Bool.noConfusion (g14.symm.trans h')) (fun h' => Bool.noConfusion (g14.symm.trans h')) (fun _ => ?_)
          refine d_guard 25 rfl rfl (by kernel_rfl) (by kernel_rfl) (by kernel_rfl) rfl rfl (v := .c .top) (fun h' => Bool.noConfusion (g14.symm.trans h')) (fun h' => Bool.noConfusion (g14.symm.trans h')) (fun _ => ?_)
          refine d_guard 26 rfl rfl (by kernel_rfl) (by kernel_rfl) (by kernel_rfl) rfl rfl (fun _ => p_pickT rfl g14 rfl) (fun _ => ?_) (fun h' => Bool.noConfusion (g13.symm.trans h'))
          refine d_guard 27 rfl rfl (by kernel_rfl) (by kernel_rfl) (by kernel_rfl) rfl rfl (fun _ => p_pickT rfl g13 rfl) (fun _ => ?_) (fun h' => Bool.noConfusion (rfl.symm.trans h'))
          refine d_take 28 rfl rfl (by kernel_rfl) (by kernel_rfl) (by kernel_rfl) (p_pickF rfl rfl rfl) ?_
          refine d_end (by kernel_rfl) ?_
          refine t_cond rfl (fun _ => ?_) (fun h' => Bool.noConfusion (rfl.symm.trans h'))
          refine t_seq ?_
          refine t_region ?_
          refine r_op (o_assign rfl rfl) ?_
          refine r_end ?_
          refine t_ret Try.func30 (.tmp rfl .nil) rfl fun E S w u hI hd => ?_
          refine post_mk hI hd ?_ trivial rfl rfl rfl <;> clear hI hd <;> (try clear ih0)
          all_goals first | rfl | (refine scB ?_; first | (rw [ufOk_not (m := m) (by omega) (by first | exact ufStep_bad (m := m) (by assumption) (by omega) | exact ufStep_far (m := m) (by assumption) (by omega) (by omega) | exact ufStep_const (m := m) (by assumption) (by omega) (by omega) | (rw [ufStep_rep (m := m) (by assumption) (by assumption) (by omega) (by omega) (by omega) (by omega)]; first | exact decide_eq_true (by omega) | exact decide_eq_false (by omega)))]; done) | (rw [ufOk_end (m := m) i2 (by omega)]; exact decide_eq_decide.2 (by omega)))
      ·
        have g13' := g13
        try simp only [decide_eq_true_eq, decide_eq_false_iff_not, Bool.not_eq_true', Bool.not_eq_false', Bool.not_false, Bool.not_true] at g13'
        refine d_guard 15 rfl rfl (by kernel_rfl) (by kernel_rfl) (by kernel_rfl) rfl rfl (v := .c .top) (fun h' => Bool.noConfusion (g13.symm.trans h')) (fun h' => Bool.noConfusion (g13.symm.trans h')) (fun _ => ?_)
        refine d_guard 16 rfl rfl (by kernel_rfl) (by kernel_rfl) (by kernel_rfl) rfl rfl (v := .c .top) (fun h' => Bool.noConfusion (g13.symm.trans h')) (fun h' => Bool.noConfusion (g13.symm.trans h')) (fun _ => ?_)
        refine d_guard 17 rfl rfl (by kernel_rfl) (by kernel_rfl) (by kernel_rfl) rfl rfl (v := .c .top) (fun h' => Bool.noConfusion (g13.symm.trans h')) (fun h' => Bool.noConfusion (g13.symm.trans h')) (fun _ => ?_)
        refine d_skip 18 rfl rfl (by kernel_rfl) (by kernel_rfl) (by kernel_rfl) rfl rfl ?_
        refine d_skip 19 rfl rfl (by kernel_rfl) (by kernel_rfl) (by kernel_rfl) rfl rfl ?_
        refine d_skip 20 rfl rfl (by kernel_rfl) (by kernel_rfl) (by kernel_rfl) rfl rfl ?_
        refine d_skip 21 rfl rfl (by kernel_rfl) (by kernel_rfl) (by kernel_rfl) rfl rfl ?_
        refine d_skip 22 rfl rfl (by kernel_rfl) (by kernel_rfl) (by kernel_rfl) rfl rfl ?_
        refine d_skip 23 rfl rfl (by kernel_rfl) (by kernel_rfl) (by kernel_rfl) rfl rfl ?_
        refine d_skip 24 rfl rfl (by kernel_rfl) (by kernel_rfl) (by kernel_rfl) rfl rfl ?_
        refine d_skip 25 rfl rfl (by kernel_rfl) (by kernel_rfl) (by kernel_rfl) rfl rfl ?_
        refine d_guard 26 rfl rfl (by kernel_rfl) (by kernel_rfl) (by kernel_rfl) rfl rfl (v := .c .top) (fun h' => Bool.noConfusion (g13.symm.trans h')) (fun h' => Bool.noConfusion (g13.symm.trans h')) (fun _ => ?_)
        refine d_guard 27 rfl rfl (by kernel_rfl) (by kernel_rfl) (by kernel_rfl) rfl rfl (fun _ => p_pickF rfl g13 rfl) (fun _ => ?_) (fun h' => Bool.noConfusion (rfl.symm.trans h'))
        refine d_take 28 rfl rfl (by kernel_rfl) (by kernel_rfl) (by kernel_rfl) (p_pickF rfl rfl rfl) ?_
        refine d_end (by kernel_rfl) ?_
        refine t_cond rfl (fun h' => Bool.noConfusion (rfl.symm.trans h')) (fun _ => ?_)
        refine t_skip ?_
        refine t_endblock ?_
        refine t_region ?_
        refine r_op (o_move rfl rfl) ?_
        refine r_op (o_bin rfl rfl rfl rfl) ?_
        refine r_op (o_assign rfl rfl) ?_
        refine r_end ?_
        refine t_le ?_ (ih0 (m + 1) (by (try dsimp only); omega) (by (try dsimp only); exact ⟨by omega, step_all i2 (by first | exact ufStep_bad (m := m) (by assumption) (by omega) | exact ufStep_far (m := m) (by assumption) (by omega) (by omega) | exact ufStep_const (m := m) (by assumption) (by omega) (by omega) | (rw [ufStep_rep (m := m) (by assumption) (by assumption) (by omega) (by omega) (by omega) (by omega)]; first | exact decide_eq_true (by omega) | exact decide_eq_false (by omega)))⟩))
        exact ⟨⟨rfl, ⟨(eqI (wr64 (by omega) (by omega))), trivial⟩⟩, ⟨rfl, trivial⟩, rfl⟩
  ·
    have h1' := h1
    try simp only [decide_eq_true_eq, decide_eq_false_iff_not, Bool.not_eq_true', Bool.not_eq_false', Bool.not_false, Bool.not_true] at h1'
    refine t_exit rfl ?_
    refine t_seq ?_
    refine t_region ?_
    refine r_op (o_fieldb rfl (off := 0) (by kernel_rfl) rfl) ?_
    refine r_op (o_load1b rfl (by kernel_rfl) rfl rfl rfl) ?_
    refine r_op (o_len rfl rfl rfl) ?_
    refine r_op (o_bin rfl rfl rfl rfl) ?_
    refine r_op (o_assign rfl rfl) ?_
    refine r_end ?_
    refine t_ret Try.func30 (.tmp rfl .nil) rfl fun E S w u hI hd => ?_
    refine post_mk hI hd ?_ trivial rfl rfl rfl <;> clear hI hd <;> (try clear ih0)
    all_goals first | rfl | (refine scB ?_; first | (rw [ufOk_not (m := m) (by omega) (by first | exact ufStep_bad (m := m) (by assumption) (by omega) | exact ufStep_far (m := m) (by assumption) (by omega) (by omega) | exact ufStep_const (m := m) (by assumption) (by omega) (by omega) | (rw [ufStep_rep (m := m) (by assumption) (by assumption) (by omega) (by omega) (by omega) (by omega)]; first | exact decide_eq_true (by omega) | exact decide_eq_false (by omega)))]; done) | (rw [ufOk_end (m := m) i2 (by omega)]; exact decide_eq_decide.2 (by omega)))
set_option maxHeartbeats 1000000 in
set_option maxRecDepth 10000 in
theorem c_spec_IsValidValue (v : Int) (hv : -9223372036854775808 ≤ v) (hv2 : v ≤ 9223372036854775807) : Pu Try.prog 64 [.c (.t none (.v (.int .i64 (v))))] [] 0 (.c (.t none (.v (.bool (decide (-40 ≤ v ∧ v ≤ 9)))))) := by
  refine pu_enter Try.func64 rfl (Nat.le_of_ble_eq_true rfl) fun w S => ?_
  refine t_seq ?_
  refine t_region ?_
  refine r_op (o_assign rfl rfl) ?_
  refine r_end ?_
  refine t_seq ?_
  refine t_region ?_
  refine r_op (o_move rfl rfl) ?_
  refine r_op (o_call 0 0 false (Go.Proofs.enters_of Try.func63 (by kernel_rfl) rfl) (c_spec_NullNumber (v) (by first | omega | (simp; omega)) (by first | omega | (simp; omega))) rfl (.cons rfl (.c .t0) .nil) rfl rfl rfl) ?_
  refine r_op (o_move rfl rfl) ?_
  refine r_op (o_extract rfl rfl rfl rfl) ?_
  refine r_op (o_extract rfl rfl rfl rfl) ?_
  refine r_op (o_assign rfl rfl) ?_
  refine r_op (o_assign rfl rfl) ?_
  refine r_end ?_
  refine t_seq ?_
  refine t_region ?_
  refine r_op (o_move rfl rfl) ?_
  refine r_op (o_move rfl rfl) ?_
  refine r_guard rfl rfl rfl (fun g1 => ?_) (fun g1 => ?_)
  ·
    have g1' := g1
    try simp only [decide_eq_true_eq, decide_eq_false_iff_not, Bool.not_eq_true', Bool.not_eq_false', Bool.not_false, Bool.not_true] at g1'
    refine r_op (o_move rfl rfl) ?_
    refine r_guard rfl rfl rfl (fun _ => ?_) (fun h' => (Bool.noConfusion (g1.symm.trans h')))
    refine r_op (o_call 0 0 false (Go.Proofs.enters_of Try.func74 (by kernel_rfl) rfl) (c_spec_l1In (v) (0) (9)) rfl (.cons rfl (.c .t0) (.cons rfl (.c .t0) (.cons rfl (.c .t0) .nil))) rfl rfl rfl) ?_
    refine r_op (o_pickF rfl rfl g1 rfl) ?_
    refine r_op (o_assign rfl rfl) ?_
    refine r_end ?_
    refine t_ret Try.func64 (.tmp rfl .nil) rfl fun E S w u hI hd => ?_
    refine post_mk hI hd ?_ trivial rfl rfl rfl <;> clear hI hd
    all_goals first | rfl | (first | exact scD (by omega) | exact scTrue (by omega) | exact scFalse (by omega))
  ·
    have g1' := g1
    try simp only [decide_eq_true_eq, decide_eq_false_iff_not, Bool.not_eq_true', Bool.not_eq_false', Bool.not_false, Bool.not_true] at g1'
    refine r_guard rfl rfl rfl (fun h' => (Bool.noConfusion (g1.symm.trans h'))) (fun _ => ?_)
    refine r_op (o_pickT rfl rfl g1 rfl) ?_
    refine r_op (o_assign rfl rfl) ?_
    refine r_end ?_
    refine t_ret Try.func64 (.tmp rfl .nil) rfl fun E S w u hI hd => ?_
    refine post_mk hI hd ?_ trivial rfl rfl rfl <;> clear hI hd
    all_goals first | rfl | (first | exact scD (by omega) | exact scTrue (by omega) | exact scFalse (by omega))
set_option maxHeartbeats 1000000 in
set_option maxRecDepth 10000 in
theorem c_spec_Find (l : List Int) (v : Int) (hl : l.length ≤ 4611686018427387904) (ho : ∀ x ∈ l, okI x) (hv : okI v) : Pu Try.prog 36 [.agg [.t none (.sl 1 encI (l))], .c (.t none (.v (.int .i64 (v))))] [] 0 (.c (.t none (.v (.int .i64 (findU l v))))) := by
  refine pu_enter Try.func36 rfl (Nat.le_of_ble_eq_true rfl) fun w S => ?_
  have hv1 := hv.1; have hv2 := hv.2
  refine t_seq ?_
  refine t_region ?_
  refine r_op (o_box 0 rfl rfl rfl rfl) ?_
  refine r_op (o_assign rfl rfl) ?_
  refine r_end ?_
  refine t_seq ?_
  refine t_region ?_
  refine r_op (o_move rfl rfl) ?_
  refine r_op (o_call 1 1 false (Go.Proofs.enters_of Try.func63 (by kernel_rfl) rfl) (c_spec_NullNumber (v) (by first | omega | assumption) (by first | omega | assumption)) rfl (.cons rfl (.c .t0) .nil) rfl rfl rfl) ?_
  refine r_op (o_move rfl rfl) ?_
  refine r_op (o_extract rfl rfl rfl rfl) ?_
  refine r_op (o_extract rfl rfl rfl rfl) ?_
  refine r_op (o_assign rfl rfl) ?_
  refine r_op (o_assign rfl rfl) ?_
  refine r_end ?_
  refine t_seq ?_
  refine t_seq ?_
  refine t_region ?_
  refine r_op (o_move rfl rfl) ?_
  refine r_op (o_not rfl rfl) ?_
  refine r_op (o_move rfl rfl) ?_
  refine r_guard rfl rfl rfl (fun g1 => ?_) (fun g1 => ?_)
  ·
    have g1' := g1
    try simp only [decide_eq_true_eq, decide_eq_false_iff_not, Bool.not_eq_true', Bool.not_eq_false', Bool.not_false, Bool.not_true] at g1'
    refine r_op (o_loadAb rfl (n := 1) (by kernel_rfl) (by kernel_rfl) rfl rfl rfl) ?_
    refine r_guard rfl rfl rfl (fun _ => ?_) (fun h' => (Bool.noConfusion (g1.symm.trans h')))
    refine r_op (o_call 1 1 false (Go.Proofs.enters_of Try.func30 (by kernel_rfl) rfl) (c_spec_IsValidUnionFind (l) (by first | omega | assumption) (by first | omega | assumption)) rfl (.cons rfl (.agg (.cons .t0 .nil)) .nil) rfl rfl rfl) ?_
    refine r_guard rfl rfl rfl (fun _ => ?_) (fun h' => (Bool.noConfusion (g1.symm.trans h')))
    refine r_op (o_not rfl rfl) ?_
    refine r_op (o_pickF rfl rfl g1 rfl) ?_
    refine r_op (o_move rfl rfl) ?_
    refine r_guard rfl rfl rfl (fun g2 => ?_) (fun g2 => ?_)
    ·
      have g2' := g2
      try simp only [decide_eq_true_eq, decide_eq_false_iff_not, Bool.not_eq_true', Bool.not_eq_false', Bool.not_false, Bool.not_true] at g2'
      refine r_op (o_move rfl rfl) ?_
      refine r_guard rfl rfl rfl (fun _ => ?_) (fun h' => (Bool.noConfusion (g2.symm.trans h')))
      refine r_op (o_fieldb rfl (off := 0) (by kernel_rfl) rfl) ?_
      refine r_guard rfl rfl rfl (fun _ => ?_) (fun h' => (Bool.noConfusion (g2.symm.trans h')))
      refine r_op (o_load1b rfl (by kernel_rfl) rfl rfl rfl) ?_
      refine r_guard rfl rfl rfl (fun _ => ?_) (fun h' => (Bool.noConfusion (g2.symm.trans h')))
      refine r_op (o_len rfl rfl rfl) ?_
      refine r_guard rfl rfl rfl (fun _ => ?_) (fun h' => (Bool.noConfusion (g2.symm.trans h')))
      refine r_op (o_bin rfl rfl rfl rfl) ?_
      refine r_op (o_pickF rfl rfl g2 rfl) ?_
      refine r_end ?_
      refine t_cond rfl (fun h3 => ?_) (fun h3 => ?_)
      ·
        have h3' := h3
        try simp only [decide_eq_true_eq, decide_eq_false_iff_not, Bool.not_eq_true', Bool.not_eq_false', Bool.not_false, Bool.not_true] at h3'
        refine t_seq ?_
        refine t_region ?_
        refine r_op (o_move rfl rfl) ?_
        refine r_op (o_assign rfl rfl) ?_
        refine r_end ?_
        refine t_ret Try.func36 (.tmp rfl .nil) rfl fun E S w u hI hd => ?_
        refine post_mk hI hd ?_ trivial rfl rfl rfl <;> clear hI hd
        all_goals first | rfl | (refine scI ?_; first | (rw [findU_at (l := l) (v := v) (by omega) (by omega) (by assumption) (n := if -40 ≤ v ∧ v ≤ -1 then -1 - v else 0) (by omega) (by assumption)]; done) | (rw [findU_no]; intro q; first | omega | (have q3 := q.2.2; simp_all; done)))
      ·
        have h3' := h3
        try simp only [decide_eq_true_eq, decide_eq_false_iff_not, Bool.not_eq_true', Bool.not_eq_false', Bool.not_false, Bool.not_true] at h3'
        refine t_skip ?_
        refine t_seq ?_
        refine t_region ?_
        refine r_op (o_fieldb rfl (off := 0) (by kernel_rfl) rfl) ?_
        refine r_op (o_load1b rfl (by kernel_rfl) rfl rfl rfl) ?_
        refine r_op (o_move rfl rfl) ?_
        obtain ⟨z4, hz5, b6⟩ := at_get (xs := l) (n := if -40 ≤ (v) ∧ (v) ≤ -1 then -1 - (v) else 0) (by first | omega | assumption) (by first | omega | assumption)
        refine r_op (o_index rfl (by kernel_rfl) rfl rfl b6 hz5) ?_
        refine r_op (o_load1 rfl (by kernel_rfl) rfl rfl) ?_
        refine r_op (o_assign rfl rfl) ?_
        refine r_end ?_
        refine t_ret Try.func36 (.tmp rfl .nil) rfl fun E S w u hI hd => ?_
        refine post_mk hI hd ?_ trivial rfl rfl rfl <;> clear hI hd
        all_goals first | rfl | (refine scI ?_; first | (rw [findU_at (l := l) (v := v) (by omega) (by omega) (by assumption) (n := if -40 ≤ v ∧ v ≤ -1 then -1 - v else 0) (by omega) (by assumption)]; done) | (rw [findU_no]; intro q; first | omega | (have q3 := q.2.2; simp_all; done)))
    ·
      have g2' := g2
      try simp only [decide_eq_true_eq, decide_eq_false_iff_not, Bool.not_eq_true', Bool.not_eq_false', Bool.not_false, Bool.not_true] at g2'
      refine r_guard rfl rfl rfl (fun h' => (Bool.noConfusion (g2.symm.trans h'))) (fun _ => ?_)
      refine r_guard rfl rfl rfl (fun h' => (Bool.noConfusion (g2.symm.trans h'))) (fun _ => ?_)
      refine r_guard rfl rfl rfl (fun h' => (Bool.noConfusion (g2.symm.trans h'))) (fun _ => ?_)
      refine r_guard rfl rfl rfl (fun h' => (Bool.noConfusion (g2.symm.trans h'))) (fun _ => ?_)
      refine r_op (o_pickT rfl rfl g2 rfl) ?_
      refine r_end ?_
      refine t_cond rfl (fun _ => ?_) (fun h' => Bool.noConfusion (rfl.symm.trans h'))
      refine t_seq ?_
      refine t_region ?_
      refine r_op (o_move rfl rfl) ?_
      refine r_op (o_assign rfl rfl) ?_
      refine r_end ?_
      refine t_ret Try.func36 (.tmp rfl .nil) rfl fun E S w u hI hd => ?_
      refine post_mk hI hd ?_ trivial rfl rfl rfl <;> clear hI hd
      all_goals first | rfl | (refine scI ?_; first | (rw [findU_at (l := l) (v := v) (by omega) (by omega) (by assumption) (n := if -40 ≤ v ∧ v ≤ -1 then -1 - v else 0) (by omega) (by assumption)]; done) | (rw [findU_no]; intro q; first | omega | (have q3 := q.2.2; simp_all; done)))
  ·
    have g1' := g1
    try simp only [decide_eq_true_eq, decide_eq_false_iff_not, Bool.not_eq_true', Bool.not_eq_false', Bool.not_false, Bool.not_true] at g1'
    refine r_guard rfl rfl rfl (fun h' => (Bool.noConfusion (g1.symm.trans h'))) (fun _ => ?_)
    refine r_guard rfl rfl rfl (fun h' => (Bool.noConfusion (g1.symm.trans h'))) (fun _ => ?_)
    refine r_op (o_pickT rfl rfl g1 rfl) ?_
    refine r_op (o_move rfl rfl) ?_
    refine r_guard rfl rfl rfl (fun h' => (Bool.noConfusion (rfl.symm.trans h'))) (fun _ => ?_)
    refine r_guard rfl rfl rfl (fun h' => (Bool.noConfusion (rfl.symm.trans h'))) (fun _ => ?_)
    refine r_guard rfl rfl rfl (fun h' => (Bool.noConfusion (rfl.symm.trans h'))) (fun _ => ?_)
    refine r_guard rfl rfl rfl (fun h' => (Bool.noConfusion (rfl.symm.trans h'))) (fun _ => ?_)
    refine r_guard rfl rfl rfl (fun h' => (Bool.noConfusion (rfl.symm.trans h'))) (fun _ => ?_)
    refine r_op (o_pickT rfl rfl rfl rfl) ?_
    refine r_end ?_
    refine t_cond rfl (fun _ => ?_) (fun h' => Bool.noConfusion (rfl.symm.trans h'))
    refine t_seq ?_
    refine t_region ?_
    refine r_op (o_move rfl rfl) ?_
    refine r_op (o_assign rfl rfl) ?_
    refine r_end ?_
    refine t_ret Try.func36 (.tmp rfl .nil) rfl fun E S w u hI hd => ?_
    refine post_mk hI hd ?_ trivial rfl rfl rfl <;> clear hI hd
    all_goals first | rfl | (refine scI ?_; first | (rw [findU_at (l := l) (v := v) (by omega) (by omega) (by assumption) (n := if -40 ≤ v ∧ v ≤ -1 then -1 - v else 0) (by omega) (by assumption)]; done) | (rw [findU_no]; intro q; first | omega | (have q3 := q.2.2; simp_all; done)))
set_option maxHeartbeats 1000000 in
set_option maxRecDepth 10000 in
theorem c_spec_Union (l : List Int) (a b : Int) (hl : l.length ≤ 1048576) (ho : ∀ x ∈ l, okI x) (ha : okI a) (hb : okI b) : Pu Try.prog 17 [.agg [.t none (.sl 1 encI (l))], .c (.t none (.v (.int .i64 (a)))), .c (.t none (.v (.int .i64 (b))))] [(2, some (.row none 3 true 1 encI (uniL l a b)))] 3 (.tup [(true, [.own 2]), (false, [.t none (.v (.int .i64 (uniC l a b)))])]) := by
  refine pu_enter Try.func17 rfl (Nat.le_of_ble_eq_true rfl) fun w S => ?_
  have ha1 := ha.1; have ha2 := ha.2; have hb1 := hb.1; have hb2 := hb.2
  refine t_seq ?_
  refine t_region ?_
  refine r_op (o_box 0 rfl rfl rfl rfl) ?_
  refine r_op (o_alloc 1 (zs := [.slice none 0 0]) rfl rfl (by kernel_rfl) rfl) ?_
  refine r_op (o_assign rfl rfl) ?_
  refine r_end ?_
  refine t_seq ?_
  refine t_region ?_
  refine r_op (o_lit0 2 (e := 3) (sz := 1) (zs := [.int .i64 (0)]) encI rfl rfl (by kernel_rfl) rfl) ?_
  refine r_op (o_fieldb rfl (off := 0) (by kernel_rfl) rfl) ?_
  refine r_op (o_load1b rfl (by kernel_rfl) rfl rfl rfl) ?_
  refine r_op (o_appendS 2 (e := 3) (sz := 1) (by' := 8) rfl (by kernel_rfl) rfl rfl rfl rfl (fun _ _ => ⟨_, rfl⟩) (by first | omega | assumption | (simp; omega)) (by first | omega | assumption | (simp; omega))) ?_
  refine r_op (o_build rfl (pl := [(0, 1)]) (zs := [.slice none 0 0]) (by kernel_rfl) (by kernel_rfl) rfl rfl rfl) ?_
  refine r_op (o_alloc 3 (zs := [.slice none 0 0]) rfl rfl (by kernel_rfl) rfl) ?_
  refine r_op (o_storeb (n := 1) (by kernel_rfl) rfl rfl rfl rfl rfl rfl) ?_
  refine r_end ?_
  refine t_seq ?_
  refine t_region ?_
  refine r_op (o_move rfl rfl) ?_
  refine r_op (o_call 4 4 false (Go.Proofs.enters_of Try.func63 (by kernel_rfl) rfl) (c_spec_NullNumber (a) (by first | omega | assumption | (simp; omega)) (by first | omega | assumption | (simp; omega))) rfl (.cons rfl (.c .t0) .nil) rfl rfl rfl) ?_
  refine r_op (o_move rfl rfl) ?_
  refine r_op (o_extract rfl rfl rfl rfl) ?_
  refine r_op (o_extract rfl rfl rfl rfl) ?_
  refine r_op (o_assign rfl rfl) ?_
  refine r_op (o_assign rfl rfl) ?_
  refine r_end ?_
  refine t_seq ?_
  refine t_region ?_
  refine r_op (o_move rfl rfl) ?_
  refine r_op (o_call 4 4 false (Go.Proofs.enters_of Try.func63 (by kernel_rfl) rfl) (c_spec_NullNumber (b) (by first | omega | assumption | (simp; omega)) (by first | omega | assumption | (simp; omega))) rfl (.cons rfl (.c .t0) .nil) rfl rfl rfl) ?_
  refine r_op (o_move rfl rfl) ?_
  refine r_op (o_extract rfl rfl rfl rfl) ?_
  refine r_op (o_extract rfl rfl rfl rfl) ?_
  refine r_op (o_assign rfl rfl) ?_
  refine r_op (o_assign rfl rfl) ?_
  refine r_end ?_
  refine t_seq ?_
  refine t_seq ?_
  refine t_region ?_
  refine r_op (o_loadAb rfl (n := 1) (by kernel_rfl) (by kernel_rfl) rfl rfl rfl) ?_
  refine r_op (o_call 4 4 false (Go.Proofs.enters_of Try.func30 (by kernel_rfl) rfl) (c_spec_IsValidUnionFind (l) (by first | omega | assumption | (simp; omega)) (by first | omega | assumption | (simp; omega))) rfl (.cons rfl (.agg (.cons .t0 .nil)) .nil) rfl rfl rfl) ?_
  refine r_op (o_not rfl rfl) ?_
  refine r_op (o_move rfl rfl) ?_
  refine r_guard rfl rfl rfl (fun g1 => ?_) (fun g1 => ?_)
  ·
    have g1' := g1
    try simp only [decide_eq_true_eq, decide_eq_false_iff_not, Bool.not_eq_true', Bool.not_eq_false', Bool.not_false, Bool.not_true] at g1'
    refine r_op (o_move rfl rfl) ?_
    refine r_guard rfl rfl rfl (fun _ => ?_) (fun h' => (Bool.noConfusion (g1.symm.trans h')))
    refine r_op (o_call 4 4 false (Go.Proofs.enters_of Try.func64 (by kernel_rfl) rfl) (c_spec_IsValidValue (a) (by first | omega | assumption | (simp; omega)) (by first | omega | assumption | (simp; omega))) rfl (.cons rfl (.c .t0) .nil) rfl rfl rfl) ?_
    refine r_guard rfl rfl rfl (fun _ => ?_) (fun h' => (Bool.noConfusion (g1.symm.trans h')))
    refine r_op (o_not rfl rfl) ?_
    refine r_op (o_pickF rfl rfl g1 rfl) ?_
    refine r_op (o_move rfl rfl) ?_
    refine r_guard rfl rfl rfl (fun g2 => ?_) (fun g2 => ?_)
    ·
      have g2' := g2
      try simp only [decide_eq_true_eq, decide_eq_false_iff_not, Bool.not_eq_true', Bool.not_eq_false', Bool.not_false, Bool.not_true] at g2'
      refine r_op (o_move rfl rfl) ?_
      refine r_guard rfl rfl rfl (fun _ => ?_) (fun h' => (Bool.noConfusion (g2.symm.trans h')))
      refine r_op (o_call 4 4 false (Go.Proofs.enters_of Try.func64 (by kernel_rfl) rfl) (c_spec_IsValidValue (b) (by first | omega | assumption | (simp; omega)) (by first | omega | assumption | (simp; omega))) rfl (.cons rfl (.c .t0) .nil) rfl rfl rfl) ?_
      refine r_guard rfl rfl rfl (fun _ => ?_) (fun h' => (Bool.noConfusion (g2.symm.trans h')))
      refine r_op (o_not rfl rfl) ?_
      refine r_op (o_pickF rfl rfl g2 rfl) ?_
      refine r_op (o_move rfl rfl) ?_
      refine r_guard rfl rfl rfl (fun g3 => ?_) (fun g3 => ?_)
      ·
        have g3' := g3
        try simp only [decide_eq_true_eq, decide_eq_false_iff_not, Bool.not_eq_true', Bool.not_eq_false', Bool.not_false, Bool.not_true] at g3'
        refine r_op (o_move rfl rfl) ?_
        refine r_guard rfl rfl rfl (fun _ => ?_) (fun h' => (Bool.noConfusion (g3.symm.trans h')))
        refine r_op (o_move rfl rfl) ?_
        refine r_guard rfl rfl rfl (fun g4 => ?_) (fun g4 => ?_)
        ·
          have g4' := g4
          try simp only [decide_eq_true_eq, decide_eq_false_iff_not, Bool.not_eq_true', Bool.not_eq_false', Bool.not_false, Bool.not_true] at g4'
          refine r_op (o_move rfl rfl) ?_
          refine r_guard rfl rfl rfl (fun _ => ?_) (fun h' => (Bool.noConfusion (g4.symm.trans h')))
          refine r_op (o_fieldb rfl (off := 0) (by kernel_rfl) rfl) ?_
          refine r_guard rfl rfl rfl (fun _ => ?_) (fun h' => (Bool.noConfusion (g4.symm.trans h')))
          refine r_op (o_load1b rfl (by kernel_rfl) rfl rfl rfl) ?_
          refine r_guard rfl rfl rfl (fun _ => ?_) (fun h' => (Bool.noConfusion (g4.symm.trans h')))
          refine r_op (o_len rfl rfl rfl) ?_
          refine r_guard rfl rfl rfl (fun _ => ?_) (fun h' => (Bool.noConfusion (g4.symm.trans h')))
          refine r_op (o_bin rfl rfl rfl rfl) ?_
          refine r_guard rfl rfl rfl (fun _ => ?_) (fun h' => (Bool.noConfusion (g3.symm.trans h')))
          refine r_op (o_pickT rfl rfl g4 rfl) ?_
          refine r_op (o_pickF rfl rfl g3 rfl) ?_
          refine r_op (o_move rfl rfl) ?_
          refine r_guard rfl rfl rfl (fun g5 => ?_) (fun g5 => ?_)
          ·
            have g5' := g5
            try simp only [decide_eq_true_eq, decide_eq_false_iff_not, Bool.not_eq_true', Bool.not_eq_false', Bool.not_false, Bool.not_true] at g5'
            refine r_op (o_move rfl rfl) ?_
            refine r_guard rfl rfl rfl (fun _ => ?_) (fun h' => (Bool.noConfusion (g5.symm.trans h')))
            refine r_op (o_move rfl rfl) ?_
            refine r_guard rfl rfl rfl (fun g6 => ?_) (fun g6 => ?_)
            ·
              have g6' := g6
              try simp only [decide_eq_true_eq, decide_eq_false_iff_not, Bool.not_eq_true', Bool.not_eq_false', Bool.not_false, Bool.not_true] at g6'
              refine r_op (o_move rfl rfl) ?_
              refine r_guard rfl rfl rfl (fun _ => ?_) (fun h' => (Bool.noConfusion (g6.symm.trans h')))
              refine r_op (o_fieldb rfl (off := 0) (by kernel_rfl) rfl) ?_
              refine r_guard rfl rfl rfl (fun _ => ?_) (fun h' => (Bool.noConfusion (g6.symm.trans h')))
              refine r_op (o_load1b rfl (by kernel_rfl) rfl rfl rfl) ?_
              refine r_guard rfl rfl rfl (fun _ => ?_) (fun h' => (Bool.noConfusion (g6.symm.trans h')))
              refine r_op (o_len rfl rfl rfl) ?_
              refine r_guard rfl rfl rfl (fun _ => ?_) (fun h' => (Bool.noConfusion (g6.symm.trans h')))
              refine r_op (o_bin rfl rfl rfl rfl) ?_
              refine r_guard rfl rfl rfl (fun _ => ?_) (fun h' => (Bool.noConfusion (g5.symm.trans h')))
              refine r_op (o_pickT rfl rfl g6 rfl) ?_
              refine r_op (o_pickF rfl rfl g5 rfl) ?_
              refine r_end ?_
              refine t_cond rfl (fun h7 => ?_) (fun h7 => ?_)
              ·
                have h7' := h7
                try simp only [decide_eq_true_eq, decide_eq_false_iff_not, Bool.not_eq_true', Bool.not_eq_false', Bool.not_false, Bool.not_true] at h7'
                refine t_seq ?_
                refine t_region ?_
                refine r_op (o_loadAb rfl (n := 1) (by kernel_rfl) (by kernel_rfl) rfl rfl rfl) ?_
                refine r_op (o_storeb (n := 1) (by kernel_rfl) rfl rfl rfl rfl rfl rfl) ?_
                refine r_op (o_assign rfl rfl) ?_
                refine r_end ?_
                refine t_ret Try.func17 (.cells (n := 1) (by kernel_rfl) (by kernel_rfl) rfl rfl rfl (.tmp rfl .nil)) rfl fun E S w u hI hd => ?_
                refine post_mk hI hd ?_ ⟨eqR ?_, trivial⟩ rfl rfl rfl <;> clear hI hd <;> (try clear ih0)
                all_goals first | rfl | (clear ho ha hb; first | ((have UC : uniC l a b = 2 := by (first | exact uniC_bad (.inl (by assumption)) | exact uniC_bad (.inr (.inl (by first | assumption | exact memU_not (by omega)))) | exact uniC_bad (.inr (.inr (by first | assumption | exact memU_not (by omega)))) | exact uniC_same (by assumption) (by first | assumption | exact memU_of (by omega) (by omega)) (by first | assumption | exact memU_of (by omega) (by omega)) (by omega) | exact uniC_const (by assumption) (by first | assumption | exact memU_of (by omega) (by omega)) (by first | assumption | exact memU_of (by omega) (by omega)) (by omega) (by omega) | exact uniC_done (by assumption) (by first | assumption | exact memU_of (by omega) (by omega)) (by first | assumption | exact memU_of (by omega) (by omega)) (by omega) (by omega))); first | exact tupU UC | exact uniL_keep UC (by decide)) | ((have UC : uniC l a b = 0 := by (first | exact uniC_bad (.inl (by assumption)) | exact uniC_bad (.inr (.inl (by first | assumption | exact memU_not (by omega)))) | exact uniC_bad (.inr (.inr (by first | assumption | exact memU_not (by omega)))) | exact uniC_same (by assumption) (by first | assumption | exact memU_of (by omega) (by omega)) (by first | assumption | exact memU_of (by omega) (by omega)) (by omega) | exact uniC_const (by assumption) (by first | assumption | exact memU_of (by omega) (by omega)) (by first | assumption | exact memU_of (by omega) (by omega)) (by omega) (by omega) | exact uniC_done (by assumption) (by first | assumption | exact memU_of (by omega) (by omega)) (by first | assumption | exact memU_of (by omega) (by omega)) (by omega) (by omega))); first | exact tupU UC | exact uniL_keep UC (by decide)) | ((have UC : uniC l a b = 1 := by (first | exact uniC_bad (.inl (by assumption)) | exact uniC_bad (.inr (.inl (by first | assumption | exact memU_not (by omega)))) | exact uniC_bad (.inr (.inr (by first | assumption | exact memU_not (by omega)))) | exact uniC_same (by assumption) (by first | assumption | exact memU_of (by omega) (by omega)) (by first | assumption | exact memU_of (by omega) (by omega)) (by omega) | exact uniC_const (by assumption) (by first | assumption | exact memU_of (by omega) (by omega)) (by first | assumption | exact memU_of (by omega) (by omega)) (by omega) (by omega) | exact uniC_done (by assumption) (by first | assumption | exact memU_of (by omega) (by omega)) (by first | assumption | exact memU_of (by omega) (by omega)) (by omega) (by omega))); first | exact tupU UC | exact uniL_done UC (by omega)))
              ·
                have h7' := h7
                try simp only [decide_eq_true_eq, decide_eq_false_iff_not, Bool.not_eq_true', Bool.not_eq_false', Bool.not_false, Bool.not_true] at h7'
                refine t_skip ?_
                refine t_seq ?_
                refine t_region ?_
                refine r_op (o_loadAb rfl (n := 1) (by kernel_rfl) (by kernel_rfl) rfl rfl rfl) ?_
                refine r_op (o_move rfl rfl) ?_
                refine r_op (o_call 4 4 false (Go.Proofs.enters_of Try.func36 (by kernel_rfl) rfl) (c_spec_Find (l) (a) (by first | omega | assumption | (simp; omega)) (by first | omega | assumption | (simp; omega)) (by first | omega | assumption | (simp; omega))) rfl (.cons rfl (.agg (.cons .t0 .nil)) (.cons rfl (.c .t0) .nil)) rfl rfl rfl) ?_
                refine r_op (o_assign rfl rfl) ?_
                refine r_end ?_
                refine t_seq ?_
                refine t_region ?_
                refine r_op (o_loadAb rfl (n := 1) (by kernel_rfl) (by kernel_rfl) rfl rfl rfl) ?_
                refine r_op (o_move rfl rfl) ?_
                refine r_op (o_call 4 4 false (Go.Proofs.enters_of Try.func36 (by kernel_rfl) rfl) (c_spec_Find (l) (b) (by first | omega | assumption | (simp; omega)) (by first | omega | assumption | (simp; omega)) (by first | omega | assumption | (simp; omega))) rfl (.cons rfl (.agg (.cons .t0 .nil)) (.cons rfl (.c .t0) .nil)) rfl rfl rfl) ?_
                refine r_op (o_assign rfl rfl) ?_
                refine r_end ?_
                refine t_seq ?_
                refine t_seq ?_
                refine t_region ?_
                refine r_op (o_move rfl rfl) ?_
                refine r_op (o_move rfl rfl) ?_
                refine r_op (o_bin rfl rfl rfl rfl) ?_
                refine r_end ?_
                refine t_cond rfl (fun h8 => ?_) (fun h8 => ?_)
                ·
                  have h8' := h8
                  try simp only [decide_eq_true_eq, decide_eq_false_iff_not, Bool.not_eq_true', Bool.not_eq_false', Bool.not_false, Bool.not_true] at h8'
                  refine t_seq ?_
                  refine t_region ?_
                  refine r_op (o_loadAb rfl (n := 1) (by kernel_rfl) (by kernel_rfl) rfl rfl rfl) ?_
                  refine r_op (o_storeb (n := 1) (by kernel_rfl) rfl rfl rfl rfl rfl rfl) ?_
                  refine r_op (o_assign rfl rfl) ?_
                  refine r_end ?_
                  refine t_ret Try.func17 (.cells (n := 1) (by kernel_rfl) (by kernel_rfl) rfl rfl rfl (.tmp rfl .nil)) rfl fun E S w u hI hd => ?_
                  refine post_mk hI hd ?_ ⟨eqR ?_, trivial⟩ rfl rfl rfl <;> clear hI hd <;> (try clear ih0)
                  all_goals first | rfl | (clear ho ha hb; first | ((have UC : uniC l a b = 2 := by (first | exact uniC_bad (.inl (by assumption)) | exact uniC_bad (.inr (.inl (by first | assumption | exact memU_not (by omega)))) | exact uniC_bad (.inr (.inr (by first | assumption | exact memU_not (by omega)))) | exact uniC_same (by assumption) (by first | assumption | exact memU_of (by omega) (by omega)) (by first | assumption | exact memU_of (by omega) (by omega)) (by omega) | exact uniC_const (by assumption) (by first | assumption | exact memU_of (by omega) (by omega)) (by first | assumption | exact memU_of (by omega) (by omega)) (by omega) (by omega) | exact uniC_done (by assumption) (by first | assumption | exact memU_of (by omega) (by omega)) (by first | assumption | exact memU_of (by omega) (by omega)) (by omega) (by omega))); first | exact tupU UC | exact uniL_keep UC (by decide)) | ((have UC : uniC l a b = 0 := by (first | exact uniC_bad (.inl (by assumption)) | exact uniC_bad (.inr (.inl (by first | assumption | exact memU_not (by omega)))) | exact uniC_bad (.inr (.inr (by first | assumption | exact memU_not (by omega)))) | exact uniC_same (by assumption) (by first | assumption | exact memU_of (by omega) (by omega)) (by first | assumption | exact memU_of (by omega) (by omega)) (by omega) | exact uniC_const (by assumption) (by first | assumption | exact memU_of (by omega) (by omega)) (by first | assumption | exact memU_of (by omega) (by omega)) (by omega) (by omega) | exact uniC_done (by assumption) (by first | assumption | exact memU_of (by omega) (by omega)) (by first | assumption | exact memU_of (by omega) (by omega)) (by omega) (by omega))); first | exact tupU UC | exact uniL_keep UC (by decide)) | ((have UC : uniC l a b = 1 := by (first | exact uniC_bad (.inl (by assumption)) | exact uniC_bad (.inr (.inl (by first | assumption | exact memU_not (by omega)))) | exact uniC_bad (.inr (.inr (by first | assumption | exact memU_not (by omega)))) | exact uniC_same (by assumption) (by first | assumption | exact memU_of (by omega) (by omega)) (by first | assumption | exact memU_of (by omega) (by omega)) (by omega) | exact uniC_const (by assumption) (by first | assumption | exact memU_of (by omega) (by omega)) (by first | assumption | exact memU_of (by omega) (by omega)) (by omega) (by omega) | exact uniC_done (by assumption) (by first | assumption | exact memU_of (by omega) (by omega)) (by first | assumption | exact memU_of (by omega) (by omega)) (by omega) (by omega))); first | exact tupU UC | exact uniL_done UC (by omega)))
                ·
                  have h8' := h8
                  try simp only [decide_eq_true_eq, decide_eq_false_iff_not, Bool.not_eq_true', Bool.not_eq_false', Bool.not_false, Bool.not_true] at h8'
                  refine t_skip ?_
                  refine t_seq ?_
                  refine t_seq ?_
                  refine t_region ?_
                  refine r_op (o_move rfl rfl) ?_
                  refine r_op (o_bin rfl rfl rfl rfl) ?_
                  refine r_op (o_move rfl rfl) ?_
                  refine r_guard rfl rfl rfl (fun g9 => ?_) (fun g9 => ?_)
                  ·
                    have g9' := g9
                    try simp only [decide_eq_true_eq, decide_eq_false_iff_not, Bool.not_eq_true', Bool.not_eq_false', Bool.not_false, Bool.not_true] at g9'
                    refine r_op (o_move rfl rfl) ?_
                    refine r_guard rfl rfl rfl (fun _ => ?_) (fun h' => (Bool.noConfusion (g9.symm.trans h')))
                    refine r_op (o_bin rfl rfl rfl rfl) ?_
                    refine r_op (o_pickT rfl rfl g9 rfl) ?_
                    refine r_end ?_
                    refine t_cond rfl (fun h10 => ?_) (fun h10 => ?_)
                    ·
                      have h10' := h10
                      try simp only [decide_eq_true_eq, decide_eq_false_iff_not, Bool.not_eq_true', Bool.not_eq_false', Bool.not_false, Bool.not_true] at h10'
                      refine t_seq ?_
                      refine t_region ?_
                      refine r_op (o_loadAb rfl (n := 1) (by kernel_rfl) (by kernel_rfl) rfl rfl rfl) ?_
                      refine r_op (o_storeb (n := 1) (by kernel_rfl) rfl rfl rfl rfl rfl rfl) ?_
                      refine r_op (o_assign rfl rfl) ?_
                      refine r_end ?_
                      refine t_ret Try.func17 (.cells (n := 1) (by kernel_rfl) (by kernel_rfl) rfl rfl rfl (.tmp rfl .nil)) rfl fun E S w u hI hd => ?_
                      refine post_mk hI hd ?_ ⟨eqR ?_, trivial⟩ rfl rfl rfl <;> clear hI hd <;> (try clear ih0)
                      all_goals first | rfl | (clear ho ha hb; first | ((have UC : uniC l a b = 2 := by (first | exact uniC_bad (.inl (by assumption)) | exact uniC_bad (.inr (.inl (by first | assumption | exact memU_not (by omega)))) | exact uniC_bad (.inr (.inr (by first | assumption | exact memU_not (by omega)))) | exact uniC_same (by assumption) (by first | assumption | exact memU_of (by omega) (by omega)) (by first | assumption | exact memU_of (by omega) (by omega)) (by omega) | exact uniC_const (by assumption) (by first | assumption | exact memU_of (by omega) (by omega)) (by first | assumption | exact memU_of (by omega) (by omega)) (by omega) (by omega) | exact uniC_done (by assumption) (by first | assumption | exact memU_of (by omega) (by omega)) (by first | assumption | exact memU_of (by omega) (by omega)) (by omega) (by omega))); first | exact tupU UC | exact uniL_keep UC (by decide)) | ((have UC : uniC l a b = 0 := by (first | exact uniC_bad (.inl (by assumption)) | exact uniC_bad (.inr (.inl (by first | assumption | exact memU_not (by omega)))) | exact uniC_bad (.inr (.inr (by first | assumption | exact memU_not (by omega)))) | exact uniC_same (by assumption) (by first | assumption | exact memU_of (by omega) (by omega)) (by first | assumption | exact memU_of (by omega) (by omega)) (by omega) | exact uniC_const (by assumption) (by first | assumption | exact memU_of (by omega) (by omega)) (by first | assumption | exact memU_of (by omega) (by omega)) (by omega) (by omega) | exact uniC_done (by assumption) (by first | assumption | exact memU_of (by omega) (by omega)) (by first | assumption | exact memU_of (by omega) (by omega)) (by omega) (by omega))); first | exact tupU UC | exact uniL_keep UC (by decide)) | ((have UC : uniC l a b = 1 := by (first | exact uniC_bad (.inl (by assumption)) | exact uniC_bad (.inr (.inl (by first | assumption | exact memU_not (by omega)))) | exact uniC_bad (.inr (.inr (by first | assumption | exact memU_not (by omega)))) | exact uniC_same (by assumption) (by first | assumption | exact memU_of (by omega) (by omega)) (by first | assumption | exact memU_of (by omega) (by omega)) (by omega) | exact uniC_const (by assumption) (by first | assumption | exact memU_of (by omega) (by omega)) (by first | assumption | exact memU_of (by omega) (by omega)) (by omega) (by omega) | exact uniC_done (by assumption) (by first | assumption | exact memU_of (by omega) (by omega)) (by first | assumption | exact memU_of (by omega) (by omega)) (by omega) (by omega))); first | exact tupU UC | exact uniL_done UC (by omega)))
                    ·
                      have h10' := h10
                      try simp only [decide_eq_true_eq, decide_eq_false_iff_not, Bool.not_eq_true', Bool.not_eq_false', Bool.not_false, Bool.not_true] at h10'
                      refine t_skip ?_
                      refine t_seq ?_
                      refine t_region ?_
                      refine r_op (o_move rfl rfl) ?_
                      refine r_op (o_move rfl rfl) ?_
                      refine r_op (o_max rfl rfl rfl) ?_
                      refine r_op (o_assign rfl rfl) ?_
                      refine r_end ?_
                      refine t_seq ?_
                      refine t_region ?_
                      refine r_op (o_move rfl rfl) ?_
                      refine r_op (o_move rfl rfl) ?_
                      refine r_op (o_min rfl rfl rfl) ?_
                      refine r_op (o_assign rfl rfl) ?_
                      refine r_end ?_
                      refine t_seq ?_
                      refine t_seq ?_
                      refine t_region ?_
                      refine r_op (o_assign rfl rfl) ?_
                      refine r_end ?_
                      refine t_block ?_
                      refine t_loopL (fun m => ⟨[(6, some (.c (.ptr 1 0))), (7, some (.c (.t none (.v (.int .i64 (0)))))), (8, some (.c (.ptr 3 0))), (15, some (.c (.t none (.v (.int .i64 (if (findU (l) (a)) < (findU (l) (b)) then (findU (l) (b)) else (findU (l) (a)))))))), (16, some (.c (.t none (.v (.int .i64 (if (findU (l) (b)) < (findU (l) (a)) then (findU (l) (b)) else (findU (l) (a)))))))), (17, some (.c (.t none (.v (.int .i64 ((m : Int)))))))], [(0, some (.box [.t none (.sl 1 encI (l))])), (1, some (.box [.t none (.v (.slice none 0 0))])), (2, some (.row none 3 true 1 encI ((l.take m).map (repU (findU l a) (findU l b)) ++ l.drop m))), (3, some (.box [.own 2]))], 4⟩ : Nat → St) (fun m => m ≤ l.length) (fun m => l.length - m) 0 ⟨⟨rfl, ⟨rfl, ⟨rfl, ⟨rfl, ⟨rfl, ⟨rfl, trivial⟩⟩⟩⟩⟩⟩, ⟨rfl, ⟨rfl, ⟨(eqR (by simp)), ⟨rfl, trivial⟩⟩⟩⟩, rfl⟩ (by exact Nat.zero_le _) ?_
                      rintro m hI ih0
                      try dsimp only at hI ih0
                      have i1 := hI; have hlen : ((l.take m).map (repU (findU l a) (findU l b)) ++ l.drop m).length = l.length := by (simp; omega)
                      refine t_seq ?_
                      refine t_seq ?_
                      refine t_region ?_
                      refine r_op (o_move rfl rfl) ?_
                      refine r_op (o_fieldb rfl (off := 0) (by kernel_rfl) rfl) ?_
                      refine r_op (o_load1b rfl (by kernel_rfl) rfl rfl rfl) ?_
                      refine r_op (o_leno rfl rfl rfl rfl) ?_
                      refine r_op (o_bin rfl rfl rfl rfl) ?_
                      refine r_end ?_
                      refine t_cond rfl (fun h11 => ?_) (fun h11 => ?_)
                      ·
                        have h11' := h11
                        try simp only [decide_eq_true_eq, decide_eq_false_iff_not, Bool.not_eq_true', Bool.not_eq_false', Bool.not_false, Bool.not_true] at h11'
                        refine t_skip ?_
                        refine t_seq ?_
                        refine t_block ?_
                        refine t_seq ?_
                        refine t_region ?_
                        refine r_op (o_fieldb rfl (off := 0) (by kernel_rfl) rfl) ?_
                        refine r_op (o_load1b rfl (by kernel_rfl) rfl rfl rfl) ?_
                        refine r_op (o_move rfl rfl) ?_
                        obtain ⟨z12, hz13, b14⟩ := at_get (xs := (l.take m).map (repU (findU l a) (findU l b)) ++ l.drop m) (n := (m : Int)) (by first | omega | assumption | (simp; omega)) (by first | omega | assumption | (simp; omega))
                        refine r_op (o_indexo rfl (by kernel_rfl) rfl rfl rfl b14 (at_lt b14 hz13)) ?_
                        refine r_op (o_load1o rfl (by kernel_rfl) rfl rfl rfl hz13) ?_
                        refine r_op (o_move rfl rfl) ?_
                        refine r_op (o_bin rfl rfl rfl rfl) ?_
                        refine r_end ?_
                        refine t_cond rfl (fun h15 => ?_) (fun h15 => ?_)
                        ·
                          have h15' := h15
                          try simp only [decide_eq_true_eq, decide_eq_false_iff_not, Bool.not_eq_true', Bool.not_eq_false', Bool.not_false, Bool.not_true] at h15'
                          refine t_region ?_
                          refine r_op (o_fieldb rfl (off := 0) (by kernel_rfl) rfl) ?_
                          refine r_op (o_load1b rfl (by kernel_rfl) rfl rfl rfl) ?_
                          refine r_op (o_move rfl rfl) ?_
                          refine r_op (o_move rfl rfl) ?_
                          refine r_op (o_indexo rfl (by kernel_rfl) rfl rfl rfl b14 (at_lt b14 hz13)) ?_
                          refine r_op (o_storeo (if (findU (l) (a)) < (findU (l) (b)) then (findU (l) (b)) else (findU (l) (a))) (n := 1) (by kernel_rfl) rfl rfl hz13 rfl rfl rfl rfl (.cons .sc .nil) rfl (fun j h1 h2 => by simp at h1 h2; omega)) ?_
                          refine r_end ?_
                          refine t_endblock ?_
                          refine t_region ?_
                          refine r_op (o_move rfl rfl) ?_
                          refine r_op (o_bin rfl rfl rfl rfl) ?_
                          refine r_op (o_assign rfl rfl) ?_
                          refine r_end ?_
                          refine t_le ?_ (ih0 (m + 1) (by (try dsimp only); omega) (by (try dsimp only); omega))
                          exact ⟨⟨rfl, ⟨rfl, ⟨rfl, ⟨rfl, ⟨rfl, ⟨(eqI (wr64 (by omega) (by omega))), trivial⟩⟩⟩⟩⟩⟩, ⟨rfl, ⟨rfl, ⟨(eqR (by have ma := map_at (l := l) (m := m) hz13 i1; first | exact map_set (f := repU (findU l a) (findU l b)) ma (repU_hit (by assumption)) | exact map_skip (f := repU (findU l a) (findU l b)) ma (repU_miss (by assumption)))), ⟨rfl, trivial⟩⟩⟩⟩, rfl⟩
                        ·
                          have h15' := h15
                          try simp only [decide_eq_true_eq, decide_eq_false_iff_not, Bool.not_eq_true', Bool.not_eq_false', Bool.not_false, Bool.not_true] at h15'
                          refine t_skip ?_
                          refine t_endblock ?_
                          refine t_region ?_
                          refine r_op (o_move rfl rfl) ?_
                          refine r_op (o_bin rfl rfl rfl rfl) ?_
                          refine r_op (o_assign rfl rfl) ?_
                          refine r_end ?_
                          refine t_le ?_ (ih0 (m + 1) (by (try dsimp only); omega) (by (try dsimp only); omega))
                          exact ⟨⟨rfl, ⟨rfl, ⟨rfl, ⟨rfl, ⟨rfl, ⟨(eqI (wr64 (by omega) (by omega))), trivial⟩⟩⟩⟩⟩⟩, ⟨rfl, ⟨rfl, ⟨(eqR (by have ma := map_at (l := l) (m := m) hz13 i1; first | exact map_set (f := repU (findU l a) (findU l b)) ma (repU_hit (by assumption)) | exact map_skip (f := repU (findU l a) (findU l b)) ma (repU_miss (by assumption)))), ⟨rfl, trivial⟩⟩⟩⟩, rfl⟩
                      ·
                        have h11' := h11
                        try simp only [decide_eq_true_eq, decide_eq_false_iff_not, Bool.not_eq_true', Bool.not_eq_false', Bool.not_false, Bool.not_true] at h11'
                        refine t_exit rfl ?_
                        refine t_seq ?_
                        refine t_region ?_
                        refine r_op (o_loadAb rfl (n := 1) (by kernel_rfl) (by kernel_rfl) rfl rfl rfl) ?_
                        refine r_op (o_storeb (n := 1) (by kernel_rfl) rfl rfl rfl rfl rfl rfl) ?_
                        refine r_op (o_assign rfl rfl) ?_
                        refine r_end ?_
                        refine t_ret Try.func17 (.cells (n := 1) (by kernel_rfl) (by kernel_rfl) rfl rfl rfl (.tmp rfl .nil)) rfl fun E S w u hI hd => ?_
                        refine post_mk hI hd ?_ ⟨eqR ?_, trivial⟩ rfl rfl rfl <;> clear hI hd <;> (try clear ih0)
                        all_goals first | rfl | (clear ho ha hb; first | ((have UC : uniC l a b = 2 := by (first | exact uniC_bad (.inl (by assumption)) | exact uniC_bad (.inr (.inl (by first | assumption | exact memU_not (by omega)))) | exact uniC_bad (.inr (.inr (by first | assumption | exact memU_not (by omega)))) | exact uniC_same (by assumption) (by first | assumption | exact memU_of (by omega) (by omega)) (by first | assumption | exact memU_of (by omega) (by omega)) (by omega) | exact uniC_const (by assumption) (by first | assumption | exact memU_of (by omega) (by omega)) (by first | assumption | exact memU_of (by omega) (by omega)) (by omega) (by omega) | exact uniC_done (by assumption) (by first | assumption | exact memU_of (by omega) (by omega)) (by first | assumption | exact memU_of (by omega) (by omega)) (by omega) (by omega))); first | exact tupU UC | exact uniL_keep UC (by decide)) | ((have UC : uniC l a b = 0 := by (first | exact uniC_bad (.inl (by assumption)) | exact uniC_bad (.inr (.inl (by first | assumption | exact memU_not (by omega)))) | exact uniC_bad (.inr (.inr (by first | assumption | exact memU_not (by omega)))) | exact uniC_same (by assumption) (by first | assumption | exact memU_of (by omega) (by omega)) (by first | assumption | exact memU_of (by omega) (by omega)) (by omega) | exact uniC_const (by assumption) (by first | assumption | exact memU_of (by omega) (by omega)) (by first | assumption | exact memU_of (by omega) (by omega)) (by omega) (by omega) | exact uniC_done (by assumption) (by first | assumption | exact memU_of (by omega) (by omega)) (by first | assumption | exact memU_of (by omega) (by omega)) (by omega) (by omega))); first | exact tupU UC | exact uniL_keep UC (by decide)) | ((have UC : uniC l a b = 1 := by (first | exact uniC_bad (.inl (by assumption)) | exact uniC_bad (.inr (.inl (by first | assumption | exact memU_not (by omega)))) | exact uniC_bad (.inr (.inr (by first | assumption | exact memU_not (by omega)))) | exact uniC_same (by assumption) (by first | assumption | exact memU_of (by omega) (by omega)) (by first | assumption | exact memU_of (by omega) (by omega)) (by omega) | exact uniC_const (by assumption) (by first | assumption | exact memU_of (by omega) (by omega)) (by first | assumption | exact memU_of (by omega) (by omega)) (by omega) (by omega) | exact uniC_done (by assumption) (by first | assumption | exact memU_of (by omega) (by omega)) (by first | assumption | exact memU_of (by omega) (by omega)) (by omega) (by omega))); first | exact tupU UC | exact uniL_done UC (by omega)))
                  ·
                    have g9' := g9
                    try simp only [decide_eq_true_eq, decide_eq_false_iff_not, Bool.not_eq_true', Bool.not_eq_false', Bool.not_false, Bool.not_true] at g9'
                    refine r_guard rfl rfl rfl (fun h' => (Bool.noConfusion (g9.symm.trans h'))) (fun _ => ?_)
                    refine r_op (o_pickF rfl rfl g9 rfl) ?_
                    refine r_end ?_
                    refine t_cond rfl (fun h' => Bool.noConfusion (rfl.symm.trans h')) (fun _ => ?_)
                    refine t_skip ?_
                    refine t_seq ?_
                    refine t_region ?_
                    refine r_op (o_move rfl rfl) ?_
                    refine r_op (o_move rfl rfl) ?_
                    refine r_op (o_max rfl rfl rfl) ?_
                    refine r_op (o_assign rfl rfl) ?_
                    refine r_end ?_
                    refine t_seq ?_
                    refine t_region ?_
                    refine r_op (o_move rfl rfl) ?_
                    refine r_op (o_move rfl rfl) ?_
                    refine r_op (o_min rfl rfl rfl) ?_
                    refine r_op (o_assign rfl rfl) ?_
                    refine r_end ?_
                    refine t_seq ?_
                    refine t_seq ?_
                    refine t_region ?_
                    refine r_op (o_assign rfl rfl) ?_
                    refine r_end ?_
                    refine t_block ?_
                    refine t_loopL (fun m => ⟨[(6, some (.c (.ptr 1 0))), (7, some (.c (.t none (.v (.int .i64 (0)))))), (8, some (.c (.ptr 3 0))), (15, some (.c (.t none (.v (.int .i64 (if (findU (l) (a)) < (findU (l) (b)) then (findU (l) (b)) else (findU (l) (a)))))))), (16, some (.c (.t none (.v (.int .i64 (if (findU (l) (b)) < (findU (l) (a)) then (findU (l) (b)) else (findU (l) (a)))))))), (17, some (.c (.t none (.v (.int .i64 ((m : Int)))))))], [(0, some (.box [.t none (.sl 1 encI (l))])), (1, some (.box [.t none (.v (.slice none 0 0))])), (2, some (.row none 3 true 1 encI ((l.take m).map (repU (findU l a) (findU l b)) ++ l.drop m))), (3, some (.box [.own 2]))], 4⟩ : Nat → St) (fun m => m ≤ l.length) (fun m => l.length - m) 0 ⟨⟨rfl, ⟨rfl, ⟨rfl, ⟨rfl, ⟨rfl, ⟨rfl, trivial⟩⟩⟩⟩⟩⟩, ⟨rfl, ⟨rfl, ⟨(eqR (by simp)), ⟨rfl, trivial⟩⟩⟩⟩, rfl⟩ (by exact Nat.zero_le _) ?_
                    rintro m hI ih0
                    try dsimp only at hI ih0
                    have i1 := hI; have hlen : ((l.take m).map (repU (findU l a) (findU l b)) ++ l.drop m).length = l.length := by (simp; omega)
                    refine t_seq ?_
                    refine t_seq ?_
                    refine t_region ?_
                    refine r_op (o_move rfl rfl) ?_
                    refine r_op (o_fieldb rfl (off := 0) (by kernel_rfl) rfl) ?_
                    refine r_op (o_load1b rfl (by kernel_rfl) rfl rfl rfl) ?_
                    refine r_op (o_leno rfl rfl rfl rfl) ?_
                    refine r_op (o_bin rfl rfl rfl rfl) ?_
                    refine r_end ?_
                    refine t_cond rfl (fun h16 => ?_) (fun h16 => ?_)
                    ·
                      have h16' := h16
                      try simp only [decide_eq_true_eq, decide_eq_false_iff_not, Bool.not_eq_true', Bool.not_eq_false', Bool.not_false, Bool.not_true] at h16'
                      refine t_skip ?_
                      refine t_seq ?_
                      refine t_block ?_
                      refine t_seq ?_
                      refine t_region ?_
                      refine r_op (o_fieldb rfl (off := 0) (by kernel_rfl) rfl) ?_
                      refine r_op (o_load1b rfl (by kernel_rfl) rfl rfl rfl) ?_
                      refine r_op (o_move rfl rfl) ?_
                      obtain ⟨z17, hz18, b19⟩ := at_get (xs := (l.take m).map (repU (findU l a) (findU l b)) ++ l.drop m) (n := (m : Int)) (by first | omega | assumption | (simp; omega)) (by first | omega | assumption | (simp; omega))
                      refine r_op (o_indexo rfl (by kernel_rfl) rfl rfl rfl b19 (at_lt b19 hz18)) ?_
                      refine r_op (o_load1o rfl (by kernel_rfl) rfl rfl rfl hz18) ?_
                      refine r_op (o_move rfl rfl) ?_
                      refine r_op (o_bin rfl rfl rfl rfl) ?_
                      refine r_end ?_
                      refine t_cond rfl (fun h20 => ?_) (fun h20 => ?_)
                      ·
                        have h20' := h20
                        try simp only [decide_eq_true_eq, decide_eq_false_iff_not, Bool.not_eq_true', Bool.not_eq_false', Bool.not_false, Bool.not_true] at h20'
                        refine t_region ?_
                        refine r_op (o_fieldb rfl (off := 0) (by kernel_rfl) rfl) ?_
                        refine r_op (o_load1b rfl (by kernel_rfl) rfl rfl rfl) ?_
                        refine r_op (o_move rfl rfl) ?_
                        refine r_op (o_move rfl rfl) ?_
                        refine r_op (o_indexo rfl (by kernel_rfl) rfl rfl rfl b19 (at_lt b19 hz18)) ?_
                        refine r_op (o_storeo (if (findU (l) (a)) < (findU (l) (b)) then (findU (l) (b)) else (findU (l) (a))) (n := 1) (by kernel_rfl) rfl rfl hz18 rfl rfl rfl rfl (.cons .sc .nil) rfl (fun j h1 h2 => by simp at h1 h2; omega)) ?_
                        refine r_end ?_
                        refine t_endblock ?_
                        refine t_region ?_
                        refine r_op (o_move rfl rfl) ?_
                        refine r_op (o_bin rfl rfl rfl rfl) ?_
                        refine r_op (o_assign rfl rfl) ?_
                        refine r_end ?_
                        refine t_le ?_ (ih0 (m + 1) (by (try dsimp only); omega) (by (try dsimp only); omega))
                        exact ⟨⟨rfl, ⟨rfl, ⟨rfl, ⟨rfl, ⟨rfl, ⟨(eqI (wr64 (by omega) (by omega))), trivial⟩⟩⟩⟩⟩⟩, ⟨rfl, ⟨rfl, ⟨(eqR (by have ma := map_at (l := l) (m := m) hz18 i1; first | exact map_set (f := repU (findU l a) (findU l b)) ma (repU_hit (by assumption)) | exact map_skip (f := repU (findU l a) (findU l b)) ma (repU_miss (by assumption)))), ⟨rfl, trivial⟩⟩⟩⟩, rfl⟩
                      ·
                        have h20' := h20
                        try simp only [decide_eq_true_eq, decide_eq_false_iff_not, Bool.not_eq_true', Bool.not_eq_false', Bool.not_false, Bool.not_true] at h20'
                        refine t_skip ?_
                        refine t_endblock ?_
                        refine t_region ?_
                        refine r_op (o_move rfl rfl) ?_
                        refine r_op (o_bin rfl rfl rfl rfl) ?_
                        refine r_op (o_assign rfl rfl) ?_
                        refine r_end ?_
                        refine t_le ?_ (ih0 (m + 1) (by (try dsimp only); omega) (by (try dsimp only); omega))
                        exact ⟨⟨rfl, ⟨rfl, ⟨rfl, ⟨rfl, ⟨rfl, ⟨(eqI (wr64 (by omega) (by omega))), trivial⟩⟩⟩⟩⟩⟩, ⟨rfl, ⟨rfl, ⟨(eqR (by have ma := map_at (l := l) (m := m) hz18 i1; first | exact map_set (f := repU (findU l a) (findU l b)) ma (repU_hit (by assumption)) | exact map_skip (f := repU (findU l a) (findU l b)) ma (repU_miss (by assumption)))), ⟨rfl, trivial⟩⟩⟩⟩, rfl⟩
                    ·
                      have h16' := h16
                      try simp only [decide_eq_true_eq, decide_eq_false_iff_not, Bool.not_eq_true', Bool.not_eq_false', Bool.not_false, Bool.not_true] at h16'
                      refine t_exit rfl ?_
                      refine t_seq ?_
                      refine t_region ?_
                      refine r_op (o_loadAb rfl (n := 1) (by kernel_rfl) (by kernel_rfl) rfl rfl rfl) ?_
                      refine r_op (o_storeb (n := 1) (by kernel_rfl) rfl rfl rfl rfl rfl rfl) ?_
                      refine r_op (o_assign rfl rfl) ?_
                      refine r_end ?_
                      refine t_ret Try.func17 (.cells (n := 1) (by kernel_rfl) (by kernel_rfl) rfl rfl rfl (.tmp rfl .nil)) rfl fun E S w u hI hd => ?_
                      refine post_mk hI hd ?_ ⟨eqR ?_, trivial⟩ rfl rfl rfl <;> clear hI hd <;> (try clear ih0)
                      all_goals first | rfl | (clear ho ha hb; first | ((have UC : uniC l a b = 2 := by (first | exact uniC_bad (.inl (by assumption)) | exact uniC_bad (.inr (.inl (by first | assumption | exact memU_not (by omega)))) | exact uniC_bad (.inr (.inr (by first | assumption | exact memU_not (by omega)))) | exact uniC_same (by assumption) (by first | assumption | exact memU_of (by omega) (by omega)) (by first | assumption | exact memU_of (by omega) (by omega)) (by omega) | exact uniC_const (by assumption) (by first | assumption | exact memU_of (by omega) (by omega)) (by first | assumption | exact memU_of (by omega) (by omega)) (by omega) (by omega) | exact uniC_done (by assumption) (by first | assumption | exact memU_of (by omega) (by omega)) (by first | assumption | exact memU_of (by omega) (by omega)) (by omega) (by omega))); first | exact tupU UC | exact uniL_keep UC (by decide)) | ((have UC : uniC l a b = 0 := by (first | exact uniC_bad (.inl (by assumption)) | exact uniC_bad (.inr (.inl (by first | assumption | exact memU_not (by omega)))) | exact uniC_bad (.inr (.inr (by first | assumption | exact memU_not (by omega)))) | exact uniC_same (by assumption) (by first | assumption | exact memU_of (by omega) (by omega)) (by first | assumption | exact memU_of (by omega) (by omega)) (by omega) | exact uniC_const (by assumption) (by first | assumption | exact memU_of (by omega) (by omega)) (by first | assumption | exact memU_of (by omega) (by omega)) (by omega) (by omega) | exact uniC_done (by assumption) (by first | assumption | exact memU_of (by omega) (by omega)) (by first | assumption | exact memU_of (by omega) (by omega)) (by omega) (by omega))); first | exact tupU UC | exact uniL_keep UC (by decide)) | ((have UC : uniC l a b = 1 := by (first | exact uniC_bad (.inl (by assumption)) | exact uniC_bad (.inr (.inl (by first | assumption | exact memU_not (by omega)))) | exact uniC_bad (.inr (.inr (by first | assumption | exact memU_not (by omega)))) | exact uniC_same (by assumption) (by first | assumption | exact memU_of (by omega) (by omega)) (by first | assumption | exact memU_of (by omega) (by omega)) (by omega) | exact uniC_const (by assumption) (by first | assumption | exact memU_of (by omega) (by omega)) (by first | assumption | exact memU_of (by omega) (by omega)) (by omega) (by omega) | exact uniC_done (by assumption) (by first | assumption | exact memU_of (by omega) (by omega)) (by first | assumption | exact memU_of (by omega) (by omega)) (by omega) (by omega))); first | exact tupU UC | exact uniL_done UC (by omega)))
            ·
              have g6' := g6
              try simp only [decide_eq_true_eq, decide_eq_false_iff_not, Bool.not_eq_true', Bool.not_eq_false', Bool.not_false, Bool.not_true] at g6'
              refine r_guard rfl rfl rfl (fun h' => (Bool.noConfusion (g6.symm.trans h'))) (fun _ => ?_)
              refine r_guard rfl rfl rfl (fun h' => (Bool.noConfusion (g6.symm.trans h'))) (fun _ => ?_)
              refine r_guard rfl rfl rfl (fun h' => (Bool.noConfusion (g6.symm.trans h'))) (fun _ => ?_)
              refine r_guard rfl rfl rfl (fun h' => (Bool.noConfusion (g6.symm.trans h'))) (fun _ => ?_)
              refine r_guard rfl rfl rfl (fun _ => ?_) (fun h' => (Bool.noConfusion (g5.symm.trans h')))
              refine r_op (o_pickF rfl rfl g6 rfl) ?_
              refine r_op (o_pickF rfl rfl g5 rfl) ?_
              refine r_end ?_
              refine t_cond rfl (fun h' => Bool.noConfusion (rfl.symm.trans h')) (fun _ => ?_)
              refine t_skip ?_
              refine t_seq ?_
              refine t_region ?_
              refine r_op (o_loadAb rfl (n := 1) (by kernel_rfl) (by kernel_rfl) rfl rfl rfl) ?_
              refine r_op (o_move rfl rfl) ?_
              refine r_op (o_call 4 4 false (Go.Proofs.enters_of Try.func36 (by kernel_rfl) rfl) (c_spec_Find (l) (a) (by first | omega | assumption | (simp; omega)) (by first | omega | assumption | (simp; omega)) (by first | omega | assumption | (simp; omega))) rfl (.cons rfl (.agg (.cons .t0 .nil)) (.cons rfl (.c .t0) .nil)) rfl rfl rfl) ?_
              refine r_op (o_assign rfl rfl) ?_
              refine r_end ?_
              refine t_seq ?_
              refine t_region ?_
              refine r_op (o_loadAb rfl (n := 1) (by kernel_rfl) (by kernel_rfl) rfl rfl rfl) ?_
              refine r_op (o_move rfl rfl) ?_
              refine r_op (o_call 4 4 false (Go.Proofs.enters_of Try.func36 (by kernel_rfl) rfl) (c_spec_Find (l) (b) (by first | omega | assumption | (simp; omega)) (by first | omega | assumption | (simp; omega)) (by first | omega | assumption | (simp; omega))) rfl (.cons rfl (.agg (.cons .t0 .nil)) (.cons rfl (.c .t0) .nil)) rfl rfl rfl) ?_
              refine r_op (o_assign rfl rfl) ?_
              refine r_end ?_
              refine t_seq ?_
              refine t_seq ?_
              refine t_region ?_
              refine r_op (o_move rfl rfl) ?_
              refine r_op (o_move rfl rfl) ?_
              refine r_op (o_bin rfl rfl rfl rfl) ?_
              refine r_end ?_
              refine t_cond rfl (fun h21 => ?_) (fun h21 => ?_)
              ·
                have h21' := h21
                try simp only [decide_eq_true_eq, decide_eq_false_iff_not, Bool.not_eq_true', Bool.not_eq_false', Bool.not_false, Bool.not_true] at h21'
                refine t_seq ?_
                refine t_region ?_
                refine r_op (o_loadAb rfl (n := 1) (by kernel_rfl) (by kernel_rfl) rfl rfl rfl) ?_
                refine r_op (o_storeb (n := 1) (by kernel_rfl) rfl rfl rfl rfl rfl rfl) ?_
                refine r_op (o_assign rfl rfl) ?_
                refine r_end ?_
                refine t_ret Try.func17 (.cells (n := 1) (by kernel_rfl) (by kernel_rfl) rfl rfl rfl (.tmp rfl .nil)) rfl fun E S w u hI hd => ?_
                refine post_mk hI hd ?_ ⟨eqR ?_, trivial⟩ rfl rfl rfl <;> clear hI hd <;> (try clear ih0)
                all_goals first | rfl | (clear ho ha hb; first | ((have UC : uniC l a b = 2 := by (first | exact uniC_bad (.inl (by assumption)) | exact uniC_bad (.inr (.inl (by first | assumption | exact memU_not (by omega)))) | exact uniC_bad (.inr (.inr (by first | assumption | exact memU_not (by omega)))) | exact uniC_same (by assumption) (by first | assumption | exact memU_of (by omega) (by omega)) (by first | assumption | exact memU_of (by omega) (by omega)) (by omega) | exact uniC_const (by assumption) (by first | assumption | exact memU_of (by omega) (by omega)) (by first | assumption | exact memU_of (by omega) (by omega)) (by omega) (by omega) | exact uniC_done (by assumption) (by first | assumption | exact memU_of (by omega) (by omega)) (by first | assumption | exact memU_of (by omega) (by omega)) (by omega) (by omega))); first | exact tupU UC | exact uniL_keep UC (by decide)) | ((have UC : uniC l a b = 0 := by (first | exact uniC_bad (.inl (by assumption)) | exact uniC_bad (.inr (.inl (by first | assumption | exact memU_not (by omega)))) | exact uniC_bad (.inr (.inr (by first | assumption | exact memU_not (by omega)))) | exact uniC_same (by assumption) (by first | assumption | exact memU_of (by omega) (by omega)) (by first | assumption | exact memU_of (by omega) (by omega)) (by omega) | exact uniC_const (by assumption) (by first | assumption | exact memU_of (by omega) (by omega)) (by first | assumption | exact memU_of (by omega) (by omega)) (by omega) (by omega) | exact uniC_done (by assumption) (by first | assumption | exact memU_of (by omega) (by omega)) (by first | assumption | exact memU_of (by omega) (by omega)) (by omega) (by omega))); first | exact tupU UC | exact uniL_keep UC (by decide)) | ((have UC : uniC l a b = 1 := by (first | exact uniC_bad (.inl (by assumption)) | exact uniC_bad (.inr (.inl (by first | assumption | exact memU_not (by omega)))) | exact uniC_bad (.inr (.inr (by first | assumption | exact memU_not (by omega)))) | exact uniC_same (by assumption) (by first | assumption | exact memU_of (by omega) (by omega)) (by first | assumption | exact memU_of (by omega) (by omega)) (by omega) | exact uniC_const (by assumption) (by first | assumption | exact memU_of (by omega) (by omega)) (by first | assumption | exact memU_of (by omega) (by omega)) (by omega) (by omega) | exact uniC_done (by assumption) (by first | assumption | exact memU_of (by omega) (by omega)) (by first | assumption | exact memU_of (by omega) (by omega)) (by omega) (by omega))); first | exact tupU UC | exact uniL_done UC (by omega)))
              ·
                have h21' := h21
                try simp only [decide_eq_true_eq, decide_eq_false_iff_not, Bool.not_eq_true', Bool.not_eq_false', Bool.not_false, Bool.not_true] at h21'
                refine t_skip ?_
                refine t_seq ?_
                refine t_seq ?_
                refine t_region ?_
                refine r_op (o_move rfl rfl) ?_
                refine r_op (o_bin rfl rfl rfl rfl) ?_
                refine r_op (o_move rfl rfl) ?_
                refine r_guard rfl rfl rfl (fun g22 => ?_) (fun g22 => ?_)
                ·
                  have g22' := g22
                  try simp only [decide_eq_true_eq, decide_eq_false_iff_not, Bool.not_eq_true', Bool.not_eq_false', Bool.not_false, Bool.not_true] at g22'
                  refine r_op (o_move rfl rfl) ?_
                  refine r_guard rfl rfl rfl (fun _ => ?_) (fun h' => (Bool.noConfusion (g22.symm.trans h')))
                  refine r_op (o_bin rfl rfl rfl rfl) ?_
                  refine r_op (o_pickT rfl rfl g22 rfl) ?_
                  refine r_end ?_
                  refine t_cond rfl (fun h23 => ?_) (fun h23 => ?_)
                  ·
                    have h23' := h23
                    try simp only [decide_eq_true_eq, decide_eq_false_iff_not, Bool.not_eq_true', Bool.not_eq_false', Bool.not_false, Bool.not_true] at h23'
                    refine t_seq ?_
                    refine t_region ?_
                    refine r_op (o_loadAb rfl (n := 1) (by kernel_rfl) (by kernel_rfl) rfl rfl rfl) ?_
                    refine r_op (o_storeb (n := 1) (by kernel_rfl) rfl rfl rfl rfl rfl rfl) ?_
                    refine r_op (o_assign rfl rfl) ?_
                    refine r_end ?_
                    refine t_ret Try.func17 (.cells (n := 1) (by kernel_rfl) (by kernel_rfl) rfl rfl rfl (.tmp rfl .nil)) rfl fun E S w u hI hd => ?_
                    refine post_mk hI hd ?_ ⟨eqR ?_, trivial⟩ rfl rfl rfl <;> clear hI hd <;> (try clear ih0)
                    all_goals first | rfl | (clear ho ha hb; first | ((have UC : uniC l a b = 2 := by (first | exact uniC_bad (.inl (by assumption)) | exact uniC_bad (.inr (.inl (by first | assumption | exact memU_not (by omega)))) | exact uniC_bad (.inr (.inr (by first | assumption | exact memU_not (by omega)))) | exact uniC_same (by assumption) (by first | assumption | exact memU_of (by omega) (by omega)) (by first | assumption | exact memU_of (by omega) (by omega)) (by omega) | exact uniC_const (by assumption) (by first | assumption | exact memU_of (by omega) (by omega)) (by first | assumption | exact memU_of (by omega) (by omega)) (by omega) (by omega) | exact uniC_done (by assumption) (by first | assumption | exact memU_of (by omega) (by omega)) (by first | assumption | exact memU_of (by omega) (by omega)) (by omega) (by omega))); first | exact tupU UC | exact uniL_keep UC (by decide)) | ((have UC : uniC l a b = 0 := by (first | exact uniC_bad (.inl (by assumption)) | exact uniC_bad (.inr (.inl (by first | assumption | exact memU_not (by omega)))) | exact uniC_bad (.inr (.inr (by first | assumption | exact memU_not (by omega)))) | exact uniC_same (by assumption) (by first | assumption | exact memU_of (by omega) (by omega)) (by first | assumption | exact memU_of (by omega) (by omega)) (by omega) | exact uniC_const (by assumption) (by first | assumption | exact memU_of (by omega) (by omega)) (by first | assumption | exact memU_of (by omega) (by omega)) (by omega) (by omega) | exact uniC_done (by assumption) (by first | assumption | exact memU_of (by omega) (by omega)) (by first | assumption | exact memU_of (by omega) (by omega)) (by omega) (by omega))); first | exact tupU UC | exact uniL_keep UC (by decide)) | ((have UC : uniC l a b = 1 := by (first | exact uniC_bad (.inl (by assumption)) | exact uniC_bad (.inr (.inl (by first | assumption | exact memU_not (by omega)))) | exact uniC_bad (.inr (.inr (by first | assumption | exact memU_not (by omega)))) | exact uniC_same (by assumption) (by first | assumption | exact memU_of (by omega) (by omega)) (by first | assumption | exact memU_of (by omega) (by omega)) (by omega) | exact uniC_const (by assumption) (by first | assumption | exact memU_of (by omega) (by omega)) (by first | assumption | exact memU_of (by omega) (by omega)) (by omega) (by omega) | exact uniC_done (by assumption) (by first | assumption | exact memU_of (by omega) (by omega)) (by first | assumption | exact memU_of (by omega) (by omega)) (by omega) (by omega))); first | exact tupU UC | exact uniL_done UC (by omega)))
                  ·
                    have h23' := h23
                    try simp only [decide_eq_true_eq, decide_eq_false_iff_not, Bool.not_eq_true', Bool.not_eq_false', Bool.not_false, Bool.not_true] at h23'
                    refine t_skip ?_
                    refine t_seq ?_
                    refine t_region ?_
                    refine r_op (o_move rfl rfl) ?_
                    refine r_op (o_move rfl rfl) ?_
                    refine r_op (o_max rfl rfl rfl) ?_
                    refine r_op (o_assign rfl rfl) ?_
                    refine r_end ?_
                    refine t_seq ?_
                    refine t_region ?_
                    refine r_op (o_move rfl rfl) ?_
                    refine r_op (o_move rfl rfl) ?_
                    refine r_op (o_min rfl rfl rfl) ?_
                    refine r_op (o_assign rfl rfl) ?_
                    refine r_end ?_
                    refine t_seq ?_
                    refine t_seq ?_
                    refine t_region ?_
                    refine r_op (o_assign rfl rfl) ?_
                    refine r_end ?_
                    refine t_block ?_
                    refine t_loopL (fun m => ⟨[(6, some (.c (.ptr 1 0))), (7, some (.c (.t none (.v (.int .i64 (0)))))), (8, some (.c (.ptr 3 0))), (15, some (.c (.t none (.v (.int .i64 (if (findU (l) (a)) < (findU (l) (b)) then (findU (l) (b)) else (findU (l) (a)))))))), (16, some (.c (.t none (.v (.int .i64 (if (findU (l) (b)) < (findU (l) (a)) then (findU (l) (b)) else (findU (l) (a)))))))), (17, some (.c (.t none (.v (.int .i64 ((m : Int)))))))], [(0, some (.box [.t none (.sl 1 encI (l))])), (1, some (.box [.t none (.v (.slice none 0 0))])), (2, some (.row none 3 true 1 encI ((l.take m).map (repU (findU l a) (findU l b)) ++ l.drop m))), (3, some (.box [.own 2]))], 4⟩ : Nat → St) (fun m => m ≤ l.length) (fun m => l.length - m) 0 ⟨⟨rfl, ⟨rfl, ⟨rfl, ⟨rfl, ⟨rfl, ⟨rfl, trivial⟩⟩⟩⟩⟩⟩, ⟨rfl, ⟨rfl, ⟨(eqR (by simp)), ⟨rfl, trivial⟩⟩⟩⟩, rfl⟩ (by exact Nat.zero_le _) ?_
                    rintro m hI ih0
                    try dsimp only at hI ih0
                    have i1 := hI; have hlen : ((l.take m).map (repU (findU l a) (findU l b)) ++ l.drop m).length = l.length := by (simp; omega)
                    refine t_seq ?_
                    refine t_seq ?_
                    refine t_region ?_
                    refine r_op (o_move rfl rfl) ?_
                    refine r_op (o_fieldb rfl (off := 0) (by kernel_rfl) rfl) ?_
                    refine r_op (o_load1b rfl (by kernel_rfl) rfl rfl rfl) ?_
                    refine r_op (o_leno rfl rfl rfl rfl) ?_
                    refine r_op (o_bin rfl rfl rfl rfl) ?_
                    refine r_end ?_
                    refine t_cond rfl (fun h24 => ?_) (fun h24 => ?_)
                    ·
                      have h24' := h24
                      try simp only [decide_eq_true_eq, decide_eq_false_iff_not, Bool.not_eq_true', Bool.not_eq_false', Bool.not_false, Bool.not_true] at h24'
                      refine t_skip ?_
                      refine t_seq ?_
                      refine t_block ?_
                      refine t_seq ?_
                      refine t_region ?_
                      refine r_op (o_fieldb rfl (off := 0) (by kernel_rfl) rfl) ?_
                      refine r_op (o_load1b rfl (by kernel_rfl) rfl rfl rfl) ?_
                      refine r_op (o_move rfl rfl) ?_
                      obtain ⟨z25, hz26, b27⟩ := at_get (xs := (l.take m).map (repU (findU l a) (findU l b)) ++ l.drop m) (n := (m : Int)) (by first | omega | assumption | (simp; omega)) (by first | omega | assumption | (simp; omega))
                      refine r_op (o_indexo rfl (by kernel_rfl) rfl rfl rfl b27 (at_lt b27 hz26)) ?_
                      refine r_op (o_load1o rfl (by kernel_rfl) rfl rfl rfl hz26) ?_
                      refine r_op (o_move rfl rfl) ?_
                      refine r_op (o_bin rfl rfl rfl rfl) ?_
                      refine r_end ?_
                      refine t_cond rfl (fun h28 => ?_) (fun h28 => ?_)
                      ·
                        have h28' := h28
                        try simp only [decide_eq_true_eq, decide_eq_false_iff_not, Bool.not_eq_true', Bool.not_eq_false', Bool.not_false, Bool.not_true] at h28'
                        refine t_region ?_
                        refine r_op (o_fieldb rfl (off := 0) (by kernel_rfl) rfl) ?_
                        refine r_op (o_load1b rfl (by kernel_rfl) rfl rfl rfl) ?_
                        refine r_op (o_move rfl rfl) ?_
                        refine r_op (o_move rfl rfl) ?_
                        refine r_op (o_indexo rfl (by kernel_rfl) rfl rfl rfl b27 (at_lt b27 hz26)) ?_
                        refine r_op (o_storeo (if (findU (l) (a)) < (findU (l) (b)) then (findU (l) (b)) else (findU (l) (a))) (n := 1) (by kernel_rfl) rfl rfl hz26 rfl rfl rfl rfl (.cons .sc .nil) rfl (fun j h1 h2 => by simp at h1 h2; omega)) ?_
                        refine r_end ?_
                        refine t_endblock ?_
                        refine t_region ?_
                        refine r_op (o_move rfl rfl) ?_
                        refine r_op (o_bin rfl rfl rfl rfl) ?_
                        refine r_op (o_assign rfl rfl) ?_
                        refine r_end ?_
                        refine t_le ?_ (ih0 (m + 1) (by (try dsimp only); omega) (by (try dsimp only); omega))
                        exact ⟨⟨rfl, ⟨rfl, ⟨rfl, ⟨rfl, ⟨rfl, ⟨(eqI (wr64 (by omega) (by omega))), trivial⟩⟩⟩⟩⟩⟩, ⟨rfl, ⟨rfl, ⟨(eqR (by have ma := map_at (l := l) (m := m) hz26 i1; first | exact map_set (f := repU (findU l a) (findU l b)) ma (repU_hit (by assumption)) | exact map_skip (f := repU (findU l a) (findU l b)) ma (repU_miss (by assumption)))), ⟨rfl, trivial⟩⟩⟩⟩, rfl⟩
                      ·
                        have h28' := h28
                        try simp only [decide_eq_true_eq, decide_eq_false_iff_not, Bool.not_eq_true', Bool.not_eq_false', Bool.not_false, Bool.not_true] at h28'
                        refine t_skip ?_
                        refine t_endblock ?_
                        refine t_region ?_
                        refine r_op (o_move rfl rfl) ?_
                        refine r_op (o_bin rfl rfl rfl rfl) ?_
                        refine r_op (o_assign rfl rfl) ?_
                        refine r_end ?_
                        refine t_le ?_ (ih0 (m + 1) (by (try dsimp only); omega) (by (try dsimp only); omega))
                        exact ⟨⟨rfl, ⟨rfl, ⟨rfl, ⟨rfl, ⟨rfl, ⟨(eqI (wr64 (by omega) (by omega))), trivial⟩⟩⟩⟩⟩⟩, ⟨rfl, ⟨rfl, ⟨(eqR (by have ma := map_at (l := l) (m := m) hz26 i1; first | exact map_set (f := repU (findU l a) (findU l b)) ma (repU_hit (by assumption)) | exact map_skip (f := repU (findU l a) (findU l b)) ma (repU_miss (by assumption)))), ⟨rfl, trivial⟩⟩⟩⟩, rfl⟩
                    ·
                      have h24' := h24
                      try simp only [decide_eq_true_eq, decide_eq_false_iff_not, Bool.not_eq_true', Bool.not_eq_false', Bool.not_false, Bool.not_true] at h24'
                      refine t_exit rfl ?_
                      refine t_seq ?_
                      refine t_region ?_
                      refine r_op (o_loadAb rfl (n := 1) (by kernel_rfl) (by kernel_rfl) rfl rfl rfl) ?_
                      refine r_op (o_storeb (n := 1) (by kernel_rfl) rfl rfl rfl rfl rfl rfl) ?_
                      refine r_op (o_assign rfl rfl) ?_
                      refine r_end ?_
                      refine t_ret Try.func17 (.cells (n := 1) (by kernel_rfl) (by kernel_rfl) rfl rfl rfl (.tmp rfl .nil)) rfl fun E S w u hI hd => ?_
                      refine post_mk hI hd ?_ ⟨eqR ?_, trivial⟩ rfl rfl rfl <;> clear hI hd <;> (try clear ih0)
                      all_goals first | rfl | (clear ho ha hb; first | ((have UC : uniC l a b = 2 := by (first | exact uniC_bad (.inl (by assumption)) | exact uniC_bad (.inr (.inl (by first | assumption | exact memU_not (by omega)))) | exact uniC_bad (.inr (.inr (by first | assumption | exact memU_not (by omega)))) | exact uniC_same (by assumption) (by first | assumption | exact memU_of (by omega) (by omega)) (by first | assumption | exact memU_of (by omega) (by omega)) (by omega) | exact uniC_const (by assumption) (by first | assumption | exact memU_of (by omega) (by omega)) (by first | assumption | exact memU_of (by omega) (by omega)) (by omega) (by omega) | exact uniC_done (by assumption) (by first | assumption | exact memU_of (by omega) (by omega)) (by first | assumption | exact memU_of (by omega) (by omega)) (by omega) (by omega))); first | exact tupU UC | exact uniL_keep UC (by decide)) | ((have UC : uniC l a b = 0 := by (first | exact uniC_bad (.inl (by assumption)) | exact uniC_bad (.inr (.inl (by first | assumption | exact memU_not (by omega)))) | exact uniC_bad (.inr (.inr (by first | assumption | exact memU_not (by omega)))) | exact uniC_same (by assumption) (by first | assumption | exact memU_of (by omega) (by omega)) (by first | assumption | exact memU_of (by omega) (by omega)) (by omega) | exact uniC_const (by assumption) (by first | assumption | exact memU_of (by omega) (by omega)) (by first | assumption | exact memU_of (by omega) (by omega)) (by omega) (by omega) | exact uniC_done (by assumption) (by first | assumption | exact memU_of (by omega) (by omega)) (by first | assumption | exact memU_of (by omega) (by omega)) (by omega) (by omega))); first | exact tupU UC | exact uniL_keep UC (by decide)) | ((have UC : uniC l a b = 1 := by (first | exact uniC_bad (.inl (by assumption)) | exact uniC_bad (.inr (.inl (by first | assumption | exact memU_not (by omega)))) | exact uniC_bad (.inr (.inr (by first | assumption | exact memU_not (by omega)))) | exact uniC_same (by assumption) (by first | assumption | exact memU_of (by omega) (by omega)) (by first | assumption | exact memU_of (by omega) (by omega)) (by omega) | exact uniC_const (by assumption) (by first | assumption | exact memU_of (by omega) (by omega)) (by first | assumption | exact memU_of (by omega) (by omega)) (by omega) (by omega) | exact uniC_done (by assumption) (by first | assumption | exact memU_of (by omega) (by omega)) (by first | assumption | exact memU_of (by omega) (by omega)) (by omega) (by omega))); first | exact tupU UC | exact uniL_done UC (by omega)))
                ·
                  have g22' := g22
                  try simp only [decide_eq_true_eq, decide_eq_false_iff_not, Bool.not_eq_true', Bool.not_eq_false', Bool.not_false, Bool.not_true] at g22'
                  refine r_guard rfl rfl rfl (fun h' => (Bool.noConfusion (g22.symm.trans h'))) (fun _ => ?_)
                  refine r_op (o_pickF rfl rfl g22 rfl) ?_
                  refine r_end ?_
                  refine t_cond rfl (fun h' => Bool.noConfusion (rfl.symm.trans h')) (fun _ => ?_)
                  refine t_skip ?_
                  refine t_seq ?_
                  refine t_region ?_
                  refine r_op (o_move rfl rfl) ?_
                  refine r_op (o_move rfl rfl) ?_
                  refine r_op (o_max rfl rfl rfl) ?_
                  refine r_op (o_assign rfl rfl) ?_
                  refine r_end ?_
                  refine t_seq ?_
                  refine t_region ?_
                  refine r_op (o_move rfl rfl) ?_
                  refine r_op (o_move rfl rfl) ?_
                  refine r_op (o_min rfl rfl rfl) ?_
                  refine r_op (o_assign rfl rfl) ?_
                  refine r_end ?_
                  refine t_seq ?_
                  refine t_seq ?_
                  refine t_region ?_
                  refine r_op (o_assign rfl rfl) ?_
                  refine r_end ?_
                  refine t_block ?_
                  refine t_loopL (fun m => ⟨[(6, some (.c (.ptr 1 0))), (7, some (.c (.t none (.v (.int .i64 (0)))))), (8, some (.c (.ptr 3 0))), (15, some (.c (.t none (.v (.int .i64 (if (findU (l) (a)) < (findU (l) (b)) then (findU (l) (b)) else (findU (l) (a)))))))), (16, some (.c (.t none (.v (.int .i64 (if (findU (l) (b)) < (findU (l) (a)) then (findU (l) (b)) else (findU (l) (a)))))))), (17, some (.c (.t none (.v (.int .i64 ((m : Int)))))))], [(0, some (.box [.t none (.sl 1 encI (l))])), (1, some (.box [.t none (.v (.slice none 0 0))])), (2, some (.row none 3 true 1 encI ((l.take m).map (repU (findU l a) (findU l b)) ++ l.drop m))), (3, some (.box [.own 2]))], 4⟩ : Nat → St) (fun m => m ≤ l.length) (fun m => l.length - m) 0 ⟨⟨rfl, ⟨rfl, ⟨rfl, ⟨rfl, ⟨rfl, ⟨rfl, trivial⟩⟩⟩⟩⟩⟩, ⟨rfl, ⟨rfl, ⟨(eqR (by simp)), ⟨rfl, trivial⟩⟩⟩⟩, rfl⟩ (by exact Nat.zero_le _) ?_
                  rintro m hI ih0
                  try dsimp only at hI ih0
                  have i1 := hI; have hlen : ((l.take m).map (repU (findU l a) (findU l b)) ++ l.drop m).length = l.length := by (simp; omega)
                  refine t_seq ?_
                  refine t_seq ?_
                  refine t_region ?_
                  refine r_op (o_move rfl rfl) ?_
                  refine r_op (o_fieldb rfl (off := 0) (by kernel_rfl) rfl) ?_
                  refine r_op (o_load1b rfl (by kernel_rfl) rfl rfl rfl) ?_
                  refine r_op (o_leno rfl rfl rfl rfl) ?_
                  refine r_op (o_bin rfl rfl rfl rfl) ?_
                  refine r_end ?_
                  refine t_cond rfl (fun h29 => ?_) (fun h29 => ?_)
                  ·
                    have h29' := h29
                    try simp only [decide_eq_true_eq, decide_eq_false_iff_not, Bool.not_eq_true', Bool.not_eq_false', Bool.not_false, Bool.not_true] at h29'
                    refine t_skip ?_
                    refine t_seq ?_
                    refine t_block ?_
                    refine t_seq ?_
                    refine t_region ?_
                    refine r_op (o_fieldb rfl (off := 0) (by kernel_rfl) rfl) ?_
                    refine r_op (o_load1b rfl (by kernel_rfl) rfl rfl rfl) ?_
                    refine r_op (o_move rfl rfl) ?_
                    obtain ⟨z30, hz31, b32⟩ := at_get (xs := (l.take m).map (repU (findU l a) (findU l b)) ++ l.drop m) (n := (m : Int)) (by first | omega | assumption | (simp; omega)) (by first | omega | assumption | (simp; omega))
                    refine r_op (o_indexo rfl (by kernel_rfl) rfl rfl rfl b32 (at_lt b32 hz31)) ?_
                    refine r_op (o_load1o rfl (by kernel_rfl) rfl rfl rfl hz31) ?_
                    refine r_op (o_move rfl rfl) ?_
                    refine r_op (o_bin rfl rfl rfl rfl) ?_
                    refine r_end ?_
                    refine t_cond rfl (fun h33 => ?_) (fun h33 => ?_)
                    ·
                      have h33' := h33
                      try simp only [decide_eq_true_eq, decide_eq_false_iff_not, Bool.not_eq_true', Bool.not_eq_false', Bool.not_false, Bool.not_true] at h33'
                      refine t_region ?_
                      refine r_op (o_fieldb rfl (off := 0) (by kernel_rfl) rfl) ?_
                      refine r_op (o_load1b rfl (by kernel_rfl) rfl rfl rfl) ?_
                      refine r_op (o_move rfl rfl) ?_
                      refine r_op (o_move rfl rfl) ?_
                      refine r_op (o_indexo rfl (by kernel_rfl) rfl rfl rfl b32 (at_lt b32 hz31)) ?_
                      refine r_op (o_storeo (if (findU (l) (a)) < (findU (l) (b)) then (findU (l) (b)) else (findU (l) (a))) (n := 1) (by kernel_rfl) rfl rfl hz31 rfl rfl rfl rfl (.cons .sc .nil) rfl (fun j h1 h2 => by simp at h1 h2; omega)) ?_
                      refine r_end ?_
                      refine t_endblock ?_
                      refine t_region ?_
                      refine r_op (o_move rfl rfl) ?_
                      refine r_op (o_bin rfl rfl rfl rfl) ?_
                      refine r_op (o_assign rfl rfl) ?_
                      refine r_end ?_
                      refine t_le ?_ (ih0 (m + 1) (by (try dsimp only); omega) (by (try dsimp only); omega))
                      exact ⟨⟨rfl, ⟨rfl, ⟨rfl, ⟨rfl, ⟨rfl, ⟨(eqI (wr64 (by omega) (by omega))), trivial⟩⟩⟩⟩⟩⟩, ⟨rfl, ⟨rfl, ⟨(eqR (by have ma := map_at (l := l) (m := m) hz31 i1; first | exact map_set (f := repU (findU l a) (findU l b)) ma (repU_hit (by assumption)) | exact map_skip (f := repU (findU l a) (findU l b)) ma (repU_miss (by assumption)))), ⟨rfl, trivial⟩⟩⟩⟩, rfl⟩
                    ·
                      have h33' := h33
                      try simp only [decide_eq_true_eq, decide_eq_false_iff_not, Bool.not_eq_true', Bool.not_eq_false', Bool.not_false, Bool.not_true] at h33'
                      refine t_skip ?_
                      refine t_endblock ?_
                      refine t_region ?_
                      refine r_op (o_move rfl rfl) ?_
                      refine r_op (o_bin rfl rfl rfl rfl) ?_
                      refine r_op (o_assign rfl rfl) ?_
                      refine r_end ?_
                      refine t_le ?_ (ih0 (m + 1) (by (try dsimp only); omega) (by (try dsimp only); omega))
                      exact ⟨⟨rfl, ⟨rfl, ⟨rfl, ⟨rfl, ⟨rfl, ⟨(eqI (wr64 (by omega) (by omega))), trivial⟩⟩⟩⟩⟩⟩, ⟨rfl, ⟨rfl, ⟨(eqR (by have ma := map_at (l := l) (m := m) hz31 i1; first | exact map_set (f := repU (findU l a) (findU l b)) ma (repU_hit (by assumption)) | exact map_skip (f := repU (findU l a) (findU l b)) ma (repU_miss (by assumption)))), ⟨rfl, trivial⟩⟩⟩⟩, rfl⟩
                  ·
                    have h29' := h29
                    try simp only [decide_eq_true_eq, decide_eq_false_iff_not, Bool.not_eq_true', Bool.not_eq_false', Bool.not_false, Bool.not_true] at h29'
                    refine t_exit rfl ?_
                    refine t_seq ?_
                    refine t_region ?_
                    refine r_op (o_loadAb rfl (n := 1) (by kernel_rfl) (by kernel_rfl) rfl rfl rfl) ?_
                    refine r_op (o_storeb (n := 1) (by kernel_rfl) rfl rfl rfl rfl rfl rfl) ?_
                    refine r_op (o_assign rfl rfl) ?_
                    refine r_end ?_
                    refine t_ret Try.func17 (.cells (n := 1) (by kernel_rfl) (by kernel_rfl) rfl rfl rfl (.tmp rfl .nil)) rfl fun E S w u hI hd => ?_
                    refine post_mk hI hd ?_ ⟨eqR ?_, trivial⟩ rfl rfl rfl <;> clear hI hd <;> (try clear ih0)
                    all_goals first | rfl | (clear ho ha hb; first | ((have UC : uniC l a b = 2 := by (first | exact uniC_bad (.inl (by assumption)) | exact uniC_bad (.inr (.inl (by first | assumption | exact memU_not (by omega)))) | exact uniC_bad (.inr (.inr (by first | assumption | exact memU_not (by omega)))) | exact uniC_same (by assumption) (by first | assumption | exact memU_of (by omega) (by omega)) (by first | assumption | exact memU_of (by omega) (by omega)) (by omega) | exact uniC_const (by assumption) (by first | assumption | exact memU_of (by omega) (by omega)) (by first | assumption | exact memU_of (by omega) (by omega)) (by omega) (by omega) | exact uniC_done (by assumption) (by first | assumption | exact memU_of (by omega) (by omega)) (by first | assumption | exact memU_of (by omega) (by omega)) (by omega) (by omega))); first | exact tupU UC | exact uniL_keep UC (by decide)) | ((have UC : uniC l a b = 0 := by (first | exact uniC_bad (.inl (by assumption)) | exact uniC_bad (.inr (.inl (by first | assumption | exact memU_not (by omega)))) | exact uniC_bad (.inr (.inr (by first | assumption | exact memU_not (by omega)))) | exact uniC_same (by assumption) (by first | assumption | exact memU_of (by omega) (by omega)) (by first | assumption | exact memU_of (by omega) (by omega)) (by omega) | exact uniC_const (by assumption) (by first | assumption | exact memU_of (by omega) (by omega)) (by first | assumption | exact memU_of (by omega) (by omega)) (by omega) (by omega) | exact uniC_done (by assumption) (by first | assumption | exact memU_of (by omega) (by omega)) (by first | assumption | exact memU_of (by omega) (by omega)) (by omega) (by omega))); first | exact tupU UC | exact uniL_keep UC (by decide)) | ((have UC : uniC l a b = 1 := by (first | exact uniC_bad (.inl (by assumption)) | exact uniC_bad (.inr (.inl (by first | assumption | exact memU_not (by omega)))) | exact uniC_bad (.inr (.inr (by first | assumption | exact memU_not (by omega)))) | exact uniC_same (by assumption) (by first | assumption | exact memU_of (by omega) (by omega)) (by first | assumption | exact memU_of (by omega) (by omega)) (by omega) | exact uniC_const (by assumption) (by first | assumption | exact memU_of (by omega) (by omega)) (by first | assumption | exact memU_of (by omega) (by omega)) (by omega) (by omega) | exact uniC_done (by assumption) (by first | assumption | exact memU_of (by omega) (by omega)) (by first | assumption | exact memU_of (by omega) (by omega)) (by omega) (by omega))); first | exact tupU UC | exact uniL_done UC (by omega)))
          ·
            have g5' := g5
            try simp only [decide_eq_true_eq, decide_eq_false_iff_not, Bool.not_eq_true', Bool.not_eq_false', Bool.not_false, Bool.not_true] at g5'
            refine r_guard rfl rfl rfl (fun h' => (Bool.noConfusion (g5.symm.trans h'))) (fun _ => ?_)
            refine r_skip rfl rfl rfl ?_
            refine r_skip rfl rfl rfl ?_
            refine r_skip rfl rfl rfl ?_
            refine r_skip rfl rfl rfl ?_
            refine r_skip rfl rfl rfl ?_
            refine r_guard rfl rfl rfl (fun h' => (Bool.noConfusion (g5.symm.trans h'))) (fun _ => ?_)
            refine r_op (o_pickT rfl rfl g5 rfl) ?_
            refine r_end ?_
            refine t_cond rfl (fun _ => ?_) (fun h' => Bool.noConfusion (rfl.symm.trans h'))
            refine t_seq ?_
            refine t_region ?_
            refine r_op (o_loadAb rfl (n := 1) (by kernel_rfl) (by kernel_rfl) rfl rfl rfl) ?_
            refine r_op (o_storeb (n := 1) (by kernel_rfl) rfl rfl rfl rfl rfl rfl) ?_
            refine r_op (o_assign rfl rfl) ?_
            refine r_end ?_
            refine t_ret Try.func17 (.cells (n := 1) (by kernel_rfl) (by kernel_rfl) rfl rfl rfl (.tmp rfl .nil)) rfl fun E S w u hI hd => ?_
            refine post_mk hI hd ?_ ⟨eqR ?_, trivial⟩ rfl rfl rfl <;> clear hI hd <;> (try clear ih0)
            all_goals first | rfl | (clear ho ha hb; first | ((have UC : uniC l a b = 2 := by (first | exact uniC_bad (.inl (by assumption)) | exact uniC_bad (.inr (.inl (by first | assumption | exact memU_not (by omega)))) | exact uniC_bad (.inr (.inr (by first | assumption | exact memU_not (by omega)))) | exact uniC_same (by assumption) (by first | assumption | exact memU_of (by omega) (by omega)) (by first | assumption | exact memU_of (by omega) (by omega)) (by omega) | exact uniC_const (by assumption) (by first | assumption | exact memU_of (by omega) (by omega)) (by first | assumption | exact memU_of (by omega) (by omega)) (by omega) (by omega) | exact uniC_done (by assumption) (by first | assumption | exact memU_of (by omega) (by omega)) (by first | assumption | exact memU_of (by omega) (by omega)) (by omega) (by omega))); first | exact tupU UC | exact uniL_keep UC (by decide)) | ((have UC : uniC l a b = 0 := by (first | exact uniC_bad (.inl (by assumption)) | exact uniC_bad (.inr (.inl (by first | assumption | exact memU_not (by omega)))) | exact uniC_bad (.inr (.inr (by first | assumption | exact memU_not (by omega)))) | exact uniC_same (by assumption) (by first | assumption | exact memU_of (by omega) (by omega)) (by first | assumption | exact memU_of (by omega) (by omega)) (by omega) | exact uniC_const (by assumption) (by first | assumption | exact memU_of (by omega) (by omega)) (by first | assumption | exact memU_of (by omega) (by omega)) (by omega) (by omega) | exact uniC_done (by assumption) (by first | assumption | exact memU_of (by omega) (by omega)) (by first | assumption | exact memU_of (by omega) (by omega)) (by omega) (by omega))); first | exact tupU UC | exact uniL_keep UC (by decide)) | ((have UC : uniC l a b = 1 := by (first | exact uniC_bad (.inl (by assumption)) | exact uniC_bad (.inr (.inl (by first | assumption | exact memU_not (by omega)))) | exact uniC_bad (.inr (.inr (by first | assumption | exact memU_not (by omega)))) | exact uniC_same (by assumption) (by first | assumption | exact memU_of (by omega) (by omega)) (by first | assumption | exact memU_of (by omega) (by omega)) (by omega) | exact uniC_const (by assumption) (by first | assumption | exact memU_of (by omega) (by omega)) (by first | assumption | exact memU_of (by omega) (by omega)) (by omega) (by omega) | exact uniC_done (by assumption) (by first | assumption | exact memU_of (by omega) (by omega)) (by first | assumption | exact memU_of (by omega) (by omega)) (by omega) (by omega))); first | exact tupU UC | exact uniL_done UC (by omega)))
        ·
          have g4' := g4
          try simp only [decide_eq_true_eq, decide_eq_false_iff_not, Bool.not_eq_true', Bool.not_eq_false', Bool.not_false, Bool.not_true] at g4'
          refine r_guard rfl rfl rfl (fun h' => (Bool.noConfusion (g4.symm.trans h'))) (fun _ => ?_)
          refine r_guard rfl rfl rfl (fun h' => (Bool.noConfusion (g4.symm.trans h'))) (fun _ => ?_)
          refine r_guard rfl rfl rfl (fun h' => (Bool.noConfusion (g4.symm.trans h'))) (fun _ => ?_)
          refine r_guard rfl rfl rfl (fun h' => (Bool.noConfusion (g4.symm.trans h'))) (fun _ => ?_)
          refine r_guard rfl rfl rfl (fun _ => ?_) (fun h' => (Bool.noConfusion (g3.symm.trans h')))
          refine r_op (o_pickF rfl rfl g4 rfl) ?_
          refine r_op (o_pickF rfl rfl g3 rfl) ?_
          refine r_op (o_move rfl rfl) ?_
          refine r_guard rfl rfl rfl (fun _ => ?_) (fun h' => (Bool.noConfusion (rfl.symm.trans h')))
          refine r_op (o_move rfl rfl) ?_
          refine r_guard rfl rfl rfl (fun _ => ?_) (fun h' => (Bool.noConfusion (rfl.symm.trans h')))
          refine r_op (o_move rfl rfl) ?_
          refine r_guard rfl rfl rfl (fun g34 => ?_) (fun g34 => ?_)
          ·
            have g34' := g34
            try simp only [decide_eq_true_eq, decide_eq_false_iff_not, Bool.not_eq_true', Bool.not_eq_false', Bool.not_false, Bool.not_true] at g34'
            refine r_op (o_move rfl rfl) ?_
            refine r_guard rfl rfl rfl (fun _ => ?_) (fun h' => (Bool.noConfusion (g34.symm.trans h')))
            refine r_op (o_fieldb rfl (off := 0) (by kernel_rfl) rfl) ?_
            refine r_guard rfl rfl rfl (fun _ => ?_) (fun h' => (Bool.noConfusion (g34.symm.trans h')))
            refine r_op (o_load1b rfl (by kernel_rfl) rfl rfl rfl) ?_
            refine r_guard rfl rfl rfl (fun _ => ?_) (fun h' => (Bool.noConfusion (g34.symm.trans h')))
            refine r_op (o_len rfl rfl rfl) ?_
            refine r_guard rfl rfl rfl (fun _ => ?_) (fun h' => (Bool.noConfusion (g34.symm.trans h')))
            refine r_op (o_bin rfl rfl rfl rfl) ?_
            refine r_guard rfl rfl rfl (fun _ => ?_) (fun h' => (Bool.noConfusion (rfl.symm.trans h')))
            refine r_op (o_pickT rfl rfl g34 rfl) ?_
            refine r_op (o_pickF rfl rfl rfl rfl) ?_
            refine r_end ?_
            refine t_cond rfl (fun h35 => ?_) (fun h35 => ?_)
            ·
              have h35' := h35
              try simp only [decide_eq_true_eq, decide_eq_false_iff_not, Bool.not_eq_true', Bool.not_eq_false', Bool.not_false, Bool.not_true] at h35'
              refine t_seq ?_
              refine t_region ?_
              refine r_op (o_loadAb rfl (n := 1) (by kernel_rfl) (by kernel_rfl) rfl rfl rfl) ?_
              refine r_op (o_storeb (n := 1) (by kernel_rfl) rfl rfl rfl rfl rfl rfl) ?_
              refine r_op (o_assign rfl rfl) ?_
              refine r_end ?_
              refine t_ret Try.func17 (.cells (n := 1) (by kernel_rfl) (by kernel_rfl) rfl rfl rfl (.tmp rfl .nil)) rfl fun E S w u hI hd => ?_
              refine post_mk hI hd ?_ ⟨eqR ?_, trivial⟩ rfl rfl rfl <;> clear hI hd <;> (try clear ih0)
              all_goals first | rfl | (clear ho ha hb; first | ((have UC : uniC l a b = 2 := by (first | exact uniC_bad (.inl (by assumption)) | exact uniC_bad (.inr (.inl (by first | assumption | exact memU_not (by omega)))) | exact uniC_bad (.inr (.inr (by first | assumption | exact memU_not (by omega)))) | exact uniC_same (by assumption) (by first | assumption | exact memU_of (by omega) (by omega)) (by first | assumption | exact memU_of (by omega) (by omega)) (by omega) | exact uniC_const (by assumption) (by first | assumption | exact memU_of (by omega) (by omega)) (by first | assumption | exact memU_of (by omega) (by omega)) (by omega) (by omega) | exact uniC_done (by assumption) (by first | assumption | exact memU_of (by omega) (by omega)) (by first | assumption | exact memU_of (by omega) (by omega)) (by omega) (by omega))); first | exact tupU UC | exact uniL_keep UC (by decide)) | ((have UC : uniC l a b = 0 := by (first | exact uniC_bad (.inl (by assumption)) | exact uniC_bad (.inr (.inl (by first | assumption | exact memU_not (by omega)))) | exact uniC_bad (.inr (.inr (by first | assumption | exact memU_not (by omega)))) | exact uniC_same (by assumption) (by first | assumption | exact memU_of (by omega) (by omega)) (by first | assumption | exact memU_of (by omega) (by omega)) (by omega) | exact uniC_const (by assumption) (by first | assumption | exact memU_of (by omega) (by omega)) (by first | assumption | exact memU_of (by omega) (by omega)) (by omega) (by omega) | exact uniC_done (by assumption) (by first | assumption | exact memU_of (by omega) (by omega)) (by first | assumption | exact memU_of (by omega) (by omega)) (by omega) (by omega))); first | exact tupU UC | exact uniL_keep UC (by decide)) | ((have UC : uniC l a b = 1 := by (first | exact uniC_bad (.inl (by assumption)) | exact uniC_bad (.inr (.inl (by first | assumption | exact memU_not (by omega)))) | exact uniC_bad (.inr (.inr (by first | assumption | exact memU_not (by omega)))) | exact uniC_same (by assumption) (by first | assumption | exact memU_of (by omega) (by omega)) (by first | assumption | exact memU_of (by omega) (by omega)) (by omega) | exact uniC_const (by assumption) (by first | assumption | exact memU_of (by omega) (by omega)) (by first | assumption | exact memU_of (by omega) (by omega)) (by omega) (by omega) | exact uniC_done (by assumption) (by first | assumption | exact memU_of (by omega) (by omega)) (by first | assumption | exact memU_of (by omega) (by omega)) (by omega) (by omega))); first | exact tupU UC | exact uniL_done UC (by omega)))
            ·
              have h35' := h35
              try simp only [decide_eq_true_eq, decide_eq_false_iff_not, Bool.not_eq_true', Bool.not_eq_false', Bool.not_false, Bool.not_true] at h35'
              refine t_skip ?_
              refine t_seq ?_
              refine t_region ?_
              refine r_op (o_loadAb rfl (n := 1) (by kernel_rfl) (by kernel_rfl) rfl rfl rfl) ?_
              refine r_op (o_move rfl rfl) ?_
              refine r_op (o_call 4 4 false (Go.Proofs.enters_of Try.func36 (by kernel_rfl) rfl) (c_spec_Find (l) (a) (by first | omega | assumption | (simp; omega)) (by first | omega | assumption | (simp; omega)) (by first | omega | assumption | (simp; omega))) rfl (.cons rfl (.agg (.cons .t0 .nil)) (.cons rfl (.c .t0) .nil)) rfl rfl rfl) ?_
              refine r_op (o_assign rfl rfl) ?_
              refine r_end ?_
              refine t_seq ?_
              refine t_region ?_
              refine r_op (o_loadAb rfl (n := 1) (by kernel_rfl) (by kernel_rfl) rfl rfl rfl) ?_
              refine r_op (o_move rfl rfl) ?_
              refine r_op (o_call 4 4 false (Go.Proofs.enters_of Try.func36 (by kernel_rfl) rfl) (c_spec_Find (l) (b) (by first | omega | assumption | (simp; omega)) (by first | omega | assumption | (simp; omega)) (by first | omega | assumption | (simp; omega))) rfl (.cons rfl (.agg (.cons .t0 .nil)) (.cons rfl (.c .t0) .nil)) rfl rfl rfl) ?_
              refine r_op (o_assign rfl rfl) ?_
              refine r_end ?_
              refine t_seq ?_
              refine t_seq ?_
              refine t_region ?_
              refine r_op (o_move rfl rfl) ?_
              refine r_op (o_move rfl rfl) ?_
              refine r_op (o_bin rfl rfl rfl rfl) ?_
              refine r_end ?_
              refine t_cond rfl (fun h36 => ?_) (fun h36 => ?_)
              ·
                have h36' := h36
                try simp only [decide_eq_true_eq, decide_eq_false_iff_not, Bool.not_eq_true', Bool.not_eq_false', Bool.not_false, Bool.not_true] at h36'
                refine t_seq ?_
                refine t_region ?_
                refine r_op (o_loadAb rfl (n := 1) (by kernel_rfl) (by kernel_rfl) rfl rfl rfl) ?_
                refine r_op (o_storeb (n := 1) (by kernel_rfl) rfl rfl rfl rfl rfl rfl) ?_
                refine r_op (o_assign rfl rfl) ?_
                refine r_end ?_
                refine t_ret Try.func17 (.cells (n := 1) (by kernel_rfl) (by kernel_rfl) rfl rfl rfl (.tmp rfl .nil)) rfl fun E S w u hI hd => ?_
                refine post_mk hI hd ?_ ⟨eqR ?_, trivial⟩ rfl rfl rfl <;> clear hI hd <;> (try clear ih0)
                all_goals first | rfl | (clear ho ha hb; first | ((have UC : uniC l a b = 2 := by (first | exact uniC_bad (.inl (by assumption)) | exact uniC_bad (.inr (.inl (by first | assumption | exact memU_not (by omega)))) | exact uniC_bad (.inr (.inr (by first | assumption | exact memU_not (by omega)))) | exact uniC_same (by assumption) (by first | assumption | exact memU_of (by omega) (by omega)) (by first | assumption | exact memU_of (by omega) (by omega)) (by omega) | exact uniC_const (by assumption) (by first | assumption | exact memU_of (by omega) (by omega)) (by first | assumption | exact memU_of (by omega) (by omega)) (by omega) (by omega) | exact uniC_done (by assumption) (by first | assumption | exact memU_of (by omega) (by omega)) (by first | assumption | exact memU_of (by omega) (by omega)) (by omega) (by omega))); first | exact tupU UC | exact uniL_keep UC (by decide)) | ((have UC : uniC l a b = 0 := by (first | exact uniC_bad (.inl (by assumption)) | exact uniC_bad (.inr (.inl (by first | assumption | exact memU_not (by omega)))) | exact uniC_bad (.inr (.inr (by first | assumption | exact memU_not (by omega)))) | exact uniC_same (by assumption) (by first | assumption | exact memU_of (by omega) (by omega)) (by first | assumption | exact memU_of (by omega) (by omega)) (by omega) | exact uniC_const (by assumption) (by first | assumption | exact memU_of (by omega) (by omega)) (by first | assumption | exact memU_of (by omega) (by omega)) (by omega) (by omega) | exact uniC_done (by assumption) (by first | assumption | exact memU_of (by omega) (by omega)) (by first | assumption | exact memU_of (by omega) (by omega)) (by omega) (by omega))); first | exact tupU UC | exact uniL_keep UC (by decide)) | ((have UC : uniC l a b = 1 := by (first | exact uniC_bad (.inl (by assumption)) | exact uniC_bad (.inr (.inl (by first | assumption | exact memU_not (by omega)))) | exact uniC_bad (.inr (.inr (by first | assumption | exact memU_not (by omega)))) | exact uniC_same (by assumption) (by first | assumption | exact memU_of (by omega) (by omega)) (by first | assumption | exact memU_of (by omega) (by omega)) (by omega) | exact uniC_const (by assumption) (by first | assumption | exact memU_of (by omega) (by omega)) (by first | assumption | exact memU_of (by omega) (by omega)) (by omega) (by omega) | exact uniC_done (by assumption) (by first | assumption | exact memU_of (by omega) (by omega)) (by first | assumption | exact memU_of (by omega) (by omega)) (by omega) (by omega))); first | exact tupU UC | exact uniL_done UC (by omega)))
              ·
                have h36' := h36
                try simp only [decide_eq_true_eq, decide_eq_false_iff_not, Bool.not_eq_true', Bool.not_eq_false', Bool.not_false, Bool.not_true] at h36'
                refine t_skip ?_
                refine t_seq ?_
                refine t_seq ?_
                refine t_region ?_
                refine r_op (o_move rfl rfl) ?_
                refine r_op (o_bin rfl rfl rfl rfl) ?_
                refine r_op (o_move rfl rfl) ?_
                refine r_guard rfl rfl rfl (fun g37 => ?_) (fun g37 => ?_)
                ·
                  have g37' := g37
                  try simp only [decide_eq_true_eq, decide_eq_false_iff_not, Bool.not_eq_true', Bool.not_eq_false', Bool.not_false, Bool.not_true] at g37'
                  refine r_op (o_move rfl rfl) ?_
                  refine r_guard rfl rfl rfl (fun _ => ?_) (fun h' => (Bool.noConfusion (g37.symm.trans h')))
                  refine r_op (o_bin rfl rfl rfl rfl) ?_
                  refine r_op (o_pickT rfl rfl g37 rfl) ?_
                  refine r_end ?_
                  refine t_cond rfl (fun h38 => ?_) (fun h38 => ?_)
                  ·
                    have h38' := h38
                    try simp only [decide_eq_true_eq, decide_eq_false_iff_not, Bool.not_eq_true', Bool.not_eq_false', Bool.not_false, Bool.not_true] at h38'
                    refine t_seq ?_
                    refine t_region ?_
                    refine r_op (o_loadAb rfl (n := 1) (by kernel_rfl) (by kernel_rfl) rfl rfl rfl) ?_
                    refine r_op (o_storeb (n := 1) (by kernel_rfl) rfl rfl rfl rfl rfl rfl) ?_
                    refine r_op (o_assign rfl rfl) ?_
                    refine r_end ?_
                    refine t_ret Try.func17 (.cells (n := 1) (by kernel_rfl) (by kernel_rfl) rfl rfl rfl (.tmp rfl .nil)) rfl fun E S w u hI hd => ?_
                    refine post_mk hI hd ?_ ⟨eqR ?_, trivial⟩ rfl rfl rfl <;> clear hI hd <;> (try clear ih0)
                    all_goals first | rfl | (clear ho ha hb; first | ((have UC : uniC l a b = 2 := by (first | exact uniC_bad (.inl (by assumption)) | exact uniC_bad (.inr (.inl (by first | assumption | exact memU_not (by omega)))) | exact uniC_bad (.inr (.inr (by first | assumption | exact memU_not (by omega)))) | exact uniC_same (by assumption) (by first | assumption | exact memU_of (by omega) (by omega)) (by first | assumption | exact memU_of (by omega) (by omega)) (by omega) | exact uniC_const (by assumption) (by first | assumption | exact memU_of (by omega) (by omega)) (by first | assumption | exact memU_of (by omega) (by omega)) (by omega) (by omega) | exact uniC_done (by assumption) (by first | assumption | exact memU_of (by omega) (by omega)) (by first | assumption | exact memU_of (by omega) (by omega)) (by omega) (by omega))); first | exact tupU UC | exact uniL_keep UC (by decide)) | ((have UC : uniC l a b = 0 := by (first | exact uniC_bad (.inl (by assumption)) | exact uniC_bad (.inr (.inl (by first | assumption | exact memU_not (by omega)))) | exact uniC_bad (.inr (.inr (by first | assumption | exact memU_not (by omega)))) | exact uniC_same (by assumption) (by first | assumption | exact memU_of (by omega) (by omega)) (by first | assumption | exact memU_of (by omega) (by omega)) (by omega) | exact uniC_const (by assumption) (by first | assumption | exact memU_of (by omega) (by omega)) (by first | assumption | exact memU_of (by omega) (by omega)) (by omega) (by omega) | exact uniC_done (by assumption) (by first | assumption | exact memU_of (by omega) (by omega)) (by first | assumption | exact memU_of (by omega) (by omega)) (by omega) (by omega))); first | exact tupU UC | exact uniL_keep UC (by decide)) | ((have UC : uniC l a b = 1 := by (first | exact uniC_bad (.inl (by assumption)) | exact uniC_bad (.inr (.inl (by first | assumption | exact memU_not (by omega)))) | exact uniC_bad (.inr (.inr (by first | assumption | exact memU_not (by omega)))) | exact uniC_same (by assumption) (by first | assumption | exact memU_of (by omega) (by omega)) (by first | assumption | exact memU_of (by omega) (by omega)) (by omega) | exact uniC_const (by assumption) (by first | assumption | exact memU_of (by omega) (by omega)) (by first | assumption | exact memU_of (by omega) (by omega)) (by omega) (by omega) | exact uniC_done (by assumption) (by first | assumption | exact memU_of (by omega) (by omega)) (by first | assumption | exact memU_of (by omega) (by omega)) (by omega) (by omega))); first | exact tupU UC | exact uniL_done UC (by omega)))
                  ·
                    have h38' := h38
                    try simp only [decide_eq_true_eq, decide_eq_false_iff_not, Bool.not_eq_true', Bool.not_eq_false', Bool.not_false, Bool.not_true] at h38'
                    refine t_skip ?_
                    refine t_seq ?_
                    refine t_region ?_
                    refine r_op (o_move rfl rfl) ?_
                    refine r_op (o_move rfl rfl) ?_
                    refine r_op (o_max rfl rfl rfl) ?_
                    refine r_op (o_assign rfl rfl) ?_
                    refine r_end ?_
                    refine t_seq ?_
                    refine t_region ?_
                    refine r_op (o_move rfl rfl) ?_
                    refine r_op (o_move rfl rfl) ?_
                    refine r_op (o_min rfl rfl rfl) ?_
                    refine r_op (o_assign rfl rfl) ?_
                    refine r_end ?_
                    refine t_seq ?_
                    refine t_seq ?_
                    refine t_region ?_
                    refine r_op (o_assign rfl rfl) ?_
                    refine r_end ?_
                    refine t_block ?_
                    refine t_loopL (fun m => ⟨[(6, some (.c (.ptr 1 0))), (7, some (.c (.t none (.v (.int .i64 (0)))))), (8, some (.c (.ptr 3 0))), (15, some (.c (.t none (.v (.int .i64 (if (findU (l) (a)) < (findU (l) (b)) then (findU (l) (b)) else (findU (l) (a)))))))), (16, some (.c (.t none (.v (.int .i64 (if (findU (l) (b)) < (findU (l) (a)) then (findU (l) (b)) else (findU (l) (a)))))))), (17, some (.c (.t none (.v (.int .i64 ((m : Int)))))))], [(0, some (.box [.t none (.sl 1 encI (l))])), (1, some (.box [.t none (.v (.slice none 0 0))])), (2, some (.row none 3 true 1 encI ((l.take m).map (repU (findU l a) (findU l b)) ++ l.drop m))), (3, some (.box [.own 2]))], 4⟩ : Nat → St) (fun m => m ≤ l.length) (fun m => l.length - m) 0 ⟨⟨rfl, ⟨rfl, ⟨rfl, ⟨rfl, ⟨rfl, ⟨rfl, trivial⟩⟩⟩⟩⟩⟩, ⟨rfl, ⟨rfl, ⟨(eqR (by simp)), ⟨rfl, trivial⟩⟩⟩⟩, rfl⟩ (by exact Nat.zero_le _) ?_
                    rintro m hI ih0
                    try dsimp only at hI ih0
                    have i1 := hI; have hlen : ((l.take m).map (repU (findU l a) (findU l b)) ++ l.drop m).length = l.length := by (simp; omega)
                    refine t_seq ?_
                    refine t_seq ?_
                    refine t_region ?_
                    refine r_op (o_move rfl rfl) ?_
                    refine r_op (o_fieldb rfl (off := 0) (by kernel_rfl) rfl) ?_
                    refine r_op (o_load1b rfl (by kernel_rfl) rfl rfl rfl) ?_
                    refine r_op (o_leno rfl rfl rfl rfl) ?_
                    refine r_op (o_bin rfl rfl rfl rfl) ?_
                    refine r_end ?_
                    refine t_cond rfl (fun h39 => ?_) (fun h39 => ?_)
                    ·
                      have h39' := h39
                      try simp only [decide_eq_true_eq, decide_eq_false_iff_not, Bool.not_eq_true', Bool.not_eq_false', Bool.not_false, Bool.not_true] at h39'
                      refine t_skip ?_
                      refine t_seq ?_
                      refine t_block ?_
                      refine t_seq ?_
                      refine t_region ?_
                      refine r_op (o_fieldb rfl (off := 0) (by kernel_rfl) rfl) ?_
                      refine r_op (o_load1b rfl (by kernel_rfl) rfl rfl rfl) ?_
                      refine r_op (o_move rfl rfl) ?_
                      obtain ⟨z40, hz41, b42⟩ := at_get (xs := (l.take m).map (repU (findU l a) (findU l b)) ++ l.drop m) (n := (m : Int)) (by first | omega | assumption | (simp; omega)) (by first | omega | assumption | (simp; omega))
                      refine r_op (o_indexo rfl (by kernel_rfl) rfl rfl rfl b42 (at_lt b42 hz41)) ?_
                      refine r_op (o_load1o rfl (by kernel_rfl) rfl rfl rfl hz41) ?_
                      refine r_op (o_move rfl rfl) ?_
                      refine r_op (o_bin rfl rfl rfl rfl) ?_
                      refine r_end ?_
                      refine t_cond rfl (fun h43 => ?_) (fun h43 => ?_)
                      ·
                        have h43' := h43
                        try simp only [decide_eq_true_eq, decide_eq_false_iff_not, Bool.not_eq_true', Bool.not_eq_false', Bool.not_false, Bool.not_true] at h43'
                        refine t_region ?_
                        refine r_op (o_fieldb rfl (off := 0) (by kernel_rfl) rfl) ?_
                        refine r_op (o_load1b rfl (by kernel_rfl) rfl rfl rfl) ?_
                        refine r_op (o_move rfl rfl) ?_
                        refine r_op (o_move rfl rfl) ?_
                        refine r_op (o_indexo rfl (by kernel_rfl) rfl rfl rfl b42 (at_lt b42 hz41)) ?_
                        refine r_op (o_storeo (if (findU (l) (a)) < (findU (l) (b)) then (findU (l) (b)) else (findU (l) (a))) (n := 1) (by kernel_rfl) rfl rfl hz41 rfl rfl rfl rfl (.cons .sc .nil) rfl (fun j h1 h2 => by simp at h1 h2; omega)) ?_
                        refine r_end ?_
                        refine t_endblock ?_
                        refine t_region ?_
                        refine r_op (o_move rfl rfl) ?_
                        refine r_op (o_bin rfl rfl rfl rfl) ?_
                        refine r_op (o_assign rfl rfl) ?_
                        refine r_end ?_
                        refine t_le ?_ (ih0 (m + 1) (by (try dsimp only); omega) (by (try dsimp only); omega))
                        exact ⟨⟨rfl, ⟨rfl, ⟨rfl, ⟨rfl, ⟨rfl, ⟨(eqI (wr64 (by omega) (by omega))), trivial⟩⟩⟩⟩⟩⟩, ⟨rfl, ⟨rfl, ⟨(eqR (by have ma := map_at (l := l) (m := m) hz41 i1; first | exact map_set (f := repU (findU l a) (findU l b)) ma (repU_hit (by assumption)) | exact map_skip (f := repU (findU l a) (findU l b)) ma (repU_miss (by assumption)))), ⟨rfl, trivial⟩⟩⟩⟩, rfl⟩
                      ·
                        have h43' := h43
                        try simp only [decide_eq_true_eq, decide_eq_false_iff_not, Bool.not_eq_true', Bool.not_eq_false', Bool.not_false, Bool.not_true] at h43'
                        refine t_skip ?_
                        refine t_endblock ?_
                        refine t_region ?_
                        refine r_op (o_move rfl rfl) ?_
                        refine r_op (o_bin rfl rfl rfl rfl) ?_
                        refine r_op (o_assign rfl rfl) ?_
                        refine r_end ?_
                        refine t_le ?_ (ih0 (m + 1) (by (try dsimp only); omega) (by (try dsimp only); omega))
                        exact ⟨⟨rfl, ⟨rfl, ⟨rfl, ⟨rfl, ⟨rfl, ⟨(eqI (wr64 (by omega) (by omega))), trivial⟩⟩⟩⟩⟩⟩, ⟨rfl, ⟨rfl, ⟨(eqR (by have ma := map_at (l := l) (m := m) hz41 i1; first | exact map_set (f := repU (findU l a) (findU l b)) ma (repU_hit (by assumption)) | exact map_skip (f := repU (findU l a) (findU l b)) ma (repU_miss (by assumption)))), ⟨rfl, trivial⟩⟩⟩⟩, rfl⟩
                    ·
                      have h39' := h39
                      try simp only [decide_eq_true_eq, decide_eq_false_iff_not, Bool.not_eq_true', Bool.not_eq_false', Bool.not_false, Bool.not_true] at h39'
                      refine t_exit rfl ?_
                      refine t_seq ?_
                      refine t_region ?_
                      refine r_op (o_loadAb rfl (n := 1) (by kernel_rfl) (by kernel_rfl) rfl rfl rfl) ?_
                      refine r_op (o_storeb (n := 1) (by kernel_rfl) rfl rfl rfl rfl rfl rfl) ?_
                      refine r_op (o_assign rfl rfl) ?_
                      refine r_end ?_
                      refine t_ret Try.func17 (.cells (n := 1) (by kernel_rfl) (by kernel_rfl) rfl rfl rfl (.tmp rfl .nil)) rfl fun E S w u hI hd => ?_
                      refine post_mk hI hd ?_ ⟨eqR ?_, trivial⟩ rfl rfl rfl <;> clear hI hd <;> (try clear ih0)
                      all_goals first | rfl | (clear ho ha hb; first | ((have UC : uniC l a b = 2 := by (first | exact uniC_bad (.inl (by assumption)) | exact uniC_bad (.inr (.inl (by first | assumption | exact memU_not (by omega)))) | exact uniC_bad (.inr (.inr (by first | assumption | exact memU_not (by omega)))) | exact uniC_same (by assumption) (by first | assumption | exact memU_of (by omega) (by omega)) (by first | assumption | exact memU_of (by omega) (by omega)) (by omega) | exact uniC_const (by assumption) (by first | assumption | exact memU_of (by omega) (by omega)) (by first | assumption | exact memU_of (by omega) (by omega)) (by omega) (by omega) | exact uniC_done (by assumption) (by first | assumption | exact memU_of (by omega) (by omega)) (by first | assumption | exact memU_of (by omega) (by omega)) (by omega) (by omega))); first | exact tupU UC | exact uniL_keep UC (by decide)) | ((have UC : uniC l a b = 0 := by (first | exact uniC_bad (.inl (by assumption)) | exact uniC_bad (.inr (.inl (by first | assumption | exact memU_not (by omega)))) | exact uniC_bad (.inr (.inr (by first | assumption | exact memU_not (by omega)))) | exact uniC_same (by assumption) (by first | assumption | exact memU_of (by omega) (by omega)) (by first | assumption | exact memU_of (by omega) (by omega)) (by omega) | exact uniC_const (by assumption) (by first | assumption | exact memU_of (by omega) (by omega)) (by first | assumption | exact memU_of (by omega) (by omega)) (by omega) (by omega) | exact uniC_done (by assumption) (by first | assumption | exact memU_of (by omega) (by omega)) (by first | assumption | exact memU_of (by omega) (by omega)) (by omega) (by omega))); first | exact tupU UC | exact uniL_keep UC (by decide)) | ((have UC : uniC l a b = 1 := by (first | exact uniC_bad (.inl (by assumption)) | exact uniC_bad (.inr (.inl (by first | assumption | exact memU_not (by omega)))) | exact uniC_bad (.inr (.inr (by first | assumption | exact memU_not (by omega)))) | exact uniC_same (by assumption) (by first | assumption | exact memU_of (by omega) (by omega)) (by first | assumption | exact memU_of (by omega) (by omega)) (by omega) | exact uniC_const (by assumption) (by first | assumption | exact memU_of (by omega) (by omega)) (by first | assumption | exact memU_of (by omega) (by omega)) (by omega) (by omega) | exact uniC_done (by assumption) (by first | assumption | exact memU_of (by omega) (by omega)) (by first | assumption | exact memU_of (by omega) (by omega)) (by omega) (by omega))); first | exact tupU UC | exact uniL_done UC (by omega)))
                ·
                  have g37' := g37
                  try simp only [decide_eq_true_eq, decide_eq_false_iff_not, Bool.not_eq_true', Bool.not_eq_false', Bool.not_false, Bool.not_true] at g37'
                  refine r_guard rfl rfl rfl (fun h' => (Bool.noConfusion (g37.symm.trans h'))) (fun _ => ?_)
                  refine r_op (o_pickF rfl rfl g37 rfl) ?_
                  refine r_end ?_
                  refine t_cond rfl (fun h' => Bool.noConfusion (rfl.symm.trans h')) (fun _ => ?_)
                  refine t_skip ?_
                  refine t_seq ?_
                  refine t_region ?_
                  refine r_op (o_move rfl rfl) ?_
                  refine r_op (o_move rfl rfl) ?_
                  refine r_op (o_max rfl rfl rfl) ?_
                  refine r_op (o_assign rfl rfl) ?_
                  refine r_end ?_
                  refine t_seq ?_
                  refine t_region ?_
                  refine r_op (o_move rfl rfl) ?_
                  refine r_op (o_move rfl rfl) ?_
                  refine r_op (o_min rfl rfl rfl) ?_
                  refine r_op (o_assign rfl rfl) ?_
                  refine r_end ?_
                  refine t_seq ?_
                  refine t_seq ?_
                  refine t_region ?_
                  refine r_op (o_assign rfl rfl) ?_
                  refine r_end ?_
                  refine t_block ?_
                  refine t_loopL (fun m => ⟨[(6, some (.c (.ptr 1 0))), (7, some (.c (.t none (.v (.int .i64 (0)))))), (8, some (.c (.ptr 3 0))), (15, some (.c (.t none (.v (.int .i64 (if (findU (l) (a)) < (findU (l) (b)) then (findU (l) (b)) else (findU (l) (a)))))))), (16, some (.c (.t none (.v (.int .i64 (if (findU (l) (b)) < (findU (l) (a)) then (findU (l) (b)) else (findU (l) (a)))))))), (17, some (.c (.t none (.v (.int .i64 ((m : Int)))))))], [(0, some (.box [.t none (.sl 1 encI (l))])), (1, some (.box [.t none (.v (.slice none 0 0))])), (2, some (.row none 3 true 1 encI ((l.take m).map (repU (findU l a) (findU l b)) ++ l.drop m))), (3, some (.box [.own 2]))], 4⟩ : Nat → St) (fun m => m ≤ l.length) (fun m => l.length - m) 0 ⟨⟨rfl, ⟨rfl, ⟨rfl, ⟨rfl, ⟨rfl, ⟨rfl, trivial⟩⟩⟩⟩⟩⟩, ⟨rfl, ⟨rfl, ⟨(eqR (by simp)), ⟨rfl, trivial⟩⟩⟩⟩, rfl⟩ (by exact Nat.zero_le _) ?_
                  rintro m hI ih0
                  try dsimp only at hI ih0
                  have i1 := hI; have hlen : ((l.take m).map (repU (findU l a) (findU l b)) ++ l.drop m).length = l.length := by (simp; omega)
                  refine t_seq ?_
                  refine t_seq ?_
                  refine t_region ?_
                  refine r_op (o_move rfl rfl) ?_
                  refine r_op (o_fieldb rfl (off := 0) (by kernel_rfl) rfl) ?_
                  refine r_op (o_load1b rfl (by kernel_rfl) rfl rfl rfl) ?_
                  refine r_op (o_leno rfl rfl rfl rfl) ?_
                  refine r_op (o_bin rfl rfl rfl rfl) ?_
                  refine r_end ?_
                  refine t_cond rfl (fun h44 => ?_) (fun h44 => ?_)
                  ·
                    have h44' := h44
                    try simp only [decide_eq_true_eq, decide_eq_false_iff_not, Bool.not_eq_true', Bool.not_eq_false', Bool.not_false, Bool.not_true] at h44'
                    refine t_skip ?_
                    refine t_seq ?_
                    refine t_block ?_
                    refine t_seq ?_
                    refine t_region ?_
                    refine r_op (o_fieldb rfl (off := 0) (by kernel_rfl) rfl) ?_
                    refine r_op (o_load1b rfl (by kernel_rfl) rfl rfl rfl) ?_
                    refine r_op (o_move rfl rfl) ?_
                    obtain ⟨z45, hz46, b47⟩ := at_get (xs := (l.take m).map (repU (findU l a) (findU l b)) ++ l.drop m) (n := (m : Int)) (by first | omega | assumption | (simp; omega)) (by first | omega | assumption | (simp; omega))
                    refine r_op (o_indexo rfl (by kernel_rfl) rfl rfl rfl b47 (at_lt b47 hz46)) ?_
                    refine r_op (o_load1o rfl (by kernel_rfl) rfl rfl rfl hz46) ?_
                    refine r_op (o_move rfl rfl) ?_
                    refine r_op (o_bin rfl rfl rfl rfl) ?_
                    refine r_end ?_
                    refine t_cond rfl (fun h48 => ?_) (fun h48 => ?_)
                    ·
                      have h48' := h48
                      try simp only [decide_eq_true_eq, decide_eq_false_iff_not, Bool.not_eq_true', Bool.not_eq_false', Bool.not_false, Bool.not_true] at h48'
                      refine t_region ?_
                      refine r_op (o_fieldb rfl (off := 0) (by kernel_rfl) rfl) ?_
                      refine r_op (o_load1b rfl (by kernel_rfl) rfl rfl rfl) ?_
                      refine r_op (o_move rfl rfl) ?_
                      refine r_op (o_move rfl rfl) ?_
                      refine r_op (o_indexo rfl (by kernel_rfl) rfl rfl rfl b47 (at_lt b47 hz46)) ?_
                      refine r_op (o_storeo (if (findU (l) (a)) < (findU (l) (b)) then (findU (l) (b)) else (findU (l) (a))) (n := 1) (by kernel_rfl) rfl rfl hz46 rfl rfl rfl rfl (.cons .sc .nil) rfl (fun j h1 h2 => by simp at h1 h2; omega)) ?_
                      refine r_end ?_
                      refine t_endblock ?_
                      refine t_region ?_
                      refine r_op (o_move rfl rfl) ?_
                      refine r_op (o_bin rfl rfl rfl rfl) ?_
                      refine r_op (o_assign rfl rfl) ?_
                      refine r_end ?_
                      refine t_le ?_ (ih0 (m + 1) (by (try dsimp only); omega) (by (try dsimp only); omega))
                      exact ⟨⟨rfl, ⟨rfl, ⟨rfl, ⟨rfl, ⟨rfl, ⟨(eqI (wr64 (by omega) (by omega))), trivial⟩⟩⟩⟩⟩⟩, ⟨rfl, ⟨rfl, ⟨(eqR (by have ma := map_at (l := l) (m := m) hz46 i1; first | exact map_set (f := repU (findU l a) (findU l b)) ma (repU_hit (by assumption)) | exact map_skip (f := repU (findU l a) (findU l b)) ma (repU_miss (by assumption)))), ⟨rfl, trivial⟩⟩⟩⟩, rfl⟩
                    ·
                      have h48' := h48
                      try simp only [decide_eq_true_eq, decide_eq_false_iff_not, Bool.not_eq_true', Bool.not_eq_false', Bool.not_false, Bool.not_true] at h48'
                      refine t_skip ?_
                      refine t_endblock ?_
                      refine t_region ?_
                      refine r_op (o_move rfl rfl) ?_
                      refine r_op (o_bin rfl rfl rfl rfl) ?_
                      refine r_op (o_assign rfl rfl) ?_
                      refine r_end ?_
                      refine t_le ?_ (ih0 (m + 1) (by (try dsimp only); omega) (by (try dsimp only); omega))
                      exact ⟨⟨rfl, ⟨rfl, ⟨rfl, ⟨rfl, ⟨rfl, ⟨(eqI (wr64 (by omega) (by omega))), trivial⟩⟩⟩⟩⟩⟩, ⟨rfl, ⟨rfl, ⟨(eqR (by have ma := map_at (l := l) (m := m) hz46 i1; first | exact map_set (f := repU (findU l a) (findU l b)) ma (repU_hit (by assumption)) | exact map_skip (f := repU (findU l a) (findU l b)) ma (repU_miss (by assumption)))), ⟨rfl, trivial⟩⟩⟩⟩, rfl⟩
                  ·
                    have h44' := h44
                    try simp only [decide_eq_true_eq, decide_eq_false_iff_not, Bool.not_eq_true', Bool.not_eq_false', Bool.not_false, Bool.not_true] at h44'
                    refine t_exit rfl ?_
                    refine t_seq ?_
                    refine t_region ?_
                    refine r_op (o_loadAb rfl (n := 1) (by kernel_rfl) (by kernel_rfl) rfl rfl rfl) ?_
                    refine r_op (o_storeb (n := 1) (by kernel_rfl) rfl rfl rfl rfl rfl rfl) ?_
                    refine r_op (o_assign rfl rfl) ?_
                    refine r_end ?_
                    refine t_ret Try.func17 (.cells (n := 1) (by kernel_rfl) (by kernel_rfl) rfl rfl rfl (.tmp rfl .nil)) rfl fun E S w u hI hd => ?_
                    refine post_mk hI hd ?_ ⟨eqR ?_, trivial⟩ rfl rfl rfl <;> clear hI hd <;> (try clear ih0)
                    all_goals first | rfl | (clear ho ha hb; first | ((have UC : uniC l a b = 2 := by (first | exact uniC_bad (.inl (by assumption)) | exact uniC_bad (.inr (.inl (by first | assumption | exact memU_not (by omega)))) | exact uniC_bad (.inr (.inr (by first | assumption | exact memU_not (by omega)))) | exact uniC_same (by assumption) (by first | assumption | exact memU_of (by omega) (by omega)) (by first | assumption | exact memU_of (by omega) (by omega)) (by omega) | exact uniC_const (by assumption) (by first | assumption | exact memU_of (by omega) (by omega)) (by first | assumption | exact memU_of (by omega) (by omega)) (by omega) (by omega) | exact uniC_done (by assumption) (by first | assumption | exact memU_of (by omega) (by omega)) (by first | assumption | exact memU_of (by omega) (by omega)) (by omega) (by omega))); first | exact tupU UC | exact uniL_keep UC (by decide)) | ((have UC : uniC l a b = 0 := by (first | exact uniC_bad (.inl (by assumption)) | exact uniC_bad (.inr (.inl (by first | assumption | exact memU_not (by omega)))) | exact uniC_bad (.inr (.inr (by first | assumption | exact memU_not (by omega)))) | exact uniC_same (by assumption) (by first | assumption | exact memU_of (by omega) (by omega)) (by first | assumption | exact memU_of (by omega) (by omega)) (by omega) | exact uniC_const (by assumption) (by first | assumption | exact memU_of (by omega) (by omega)) (by first | assumption | exact memU_of (by omega) (by omega)) (by omega) (by omega) | exact uniC_done (by assumption) (by first | assumption | exact memU_of (by omega) (by omega)) (by first | assumption | exact memU_of (by omega) (by omega)) (by omega) (by omega))); first | exact tupU UC | exact uniL_keep UC (by decide)) | ((have UC : uniC l a b = 1 := by (first | exact uniC_bad (.inl (by assumption)) | exact uniC_bad (.inr (.inl (by first | assumption | exact memU_not (by omega)))) | exact uniC_bad (.inr (.inr (by first | assumption | exact memU_not (by omega)))) | exact uniC_same (by assumption) (by first | assumption | exact memU_of (by omega) (by omega)) (by first | assumption | exact memU_of (by omega) (by omega)) (by omega) | exact uniC_const (by assumption) (by first | assumption | exact memU_of (by omega) (by omega)) (by first | assumption | exact memU_of (by omega) (by omega)) (by omega) (by omega) | exact uniC_done (by assumption) (by first | assumption | exact memU_of (by omega) (by omega)) (by first | assumption | exact memU_of (by omega) (by omega)) (by omega) (by omega))); first | exact tupU UC | exact uniL_done UC (by omega)))
          ·
            have g34' := g34
            try simp only [decide_eq_true_eq, decide_eq_false_iff_not, Bool.not_eq_true', Bool.not_eq_false', Bool.not_false, Bool.not_true] at g34'
            refine r_guard rfl rfl rfl (fun h' => (Bool.noConfusion (g34.symm.trans h'))) (fun _ => ?_)
            refine r_guard rfl rfl rfl (fun h' => (Bool.noConfusion (g34.symm.trans h'))) (fun _ => ?_)
            refine r_guard rfl rfl rfl (fun h' => (Bool.noConfusion (g34.symm.trans h'))) (fun _ => ?_)
            refine r_guard rfl rfl rfl (fun h' => (Bool.noConfusion (g34.symm.trans h'))) (fun _ => ?_)
            refine r_guard rfl rfl rfl (fun _ => ?_) (fun h' => (Bool.noConfusion (rfl.symm.trans h')))
            refine r_op (o_pickF rfl rfl g34 rfl) ?_
            refine r_op (o_pickF rfl rfl rfl rfl) ?_
            refine r_end ?_
            refine t_cond rfl (fun h' => Bool.noConfusion (rfl.symm.trans h')) (fun _ => ?_)
            refine t_skip ?_
            refine t_seq ?_
            refine t_region ?_
            refine r_op (o_loadAb rfl (n := 1) (by kernel_rfl) (by kernel_rfl) rfl rfl rfl) ?_
            refine r_op (o_move rfl rfl) ?_
            refine r_op (o_call 4 4 false (Go.Proofs.enters_of Try.func36 (by kernel_rfl) rfl) (c_spec_Find (l) (a) (by first | omega | assumption | (simp; omega)) (by first | omega | assumption | (simp; omega)) (by first | omega | assumption | (simp; omega))) rfl (.cons rfl (.agg (.cons .t0 .nil)) (.cons rfl (.c .t0) .nil)) rfl rfl rfl) ?_
            refine r_op (o_assign rfl rfl) ?_
            refine r_end ?_
            refine t_seq ?_
            refine t_region ?_
            refine r_op (o_loadAb rfl (n := 1) (by kernel_rfl) (by kernel_rfl) rfl rfl rfl) ?_
            refine r_op (o_move rfl rfl) ?_
            refine r_op (o_call 4 4 false (Go.Proofs.enters_of Try.func36 (by kernel_rfl) rfl) (c_spec_Find (l) (b) (by first | omega | assumption | (simp; omega)) (by first | omega | assumption | (simp; omega)) (by first | omega | assumption | (simp; omega))) rfl (.cons rfl (.agg (.cons .t0 .nil)) (.cons rfl (.c .t0) .nil)) rfl rfl rfl) ?_
            refine r_op (o_assign rfl rfl) ?_
            refine r_end ?_
            refine t_seq ?_
            refine t_seq ?_
            refine t_region ?_
            refine r_op (o_move rfl rfl) ?_
            refine r_op (o_move rfl rfl) ?_
            refine r_op (o_bin rfl rfl rfl rfl) ?_
            refine r_end ?_
            refine t_cond rfl (fun h49 => ?_) (fun h49 => ?_)
            ·
              have h49' := h49
              try simp only [decide_eq_true_eq, decide_eq_false_iff_not, Bool.not_eq_true', Bool.not_eq_false', Bool.not_false, Bool.not_true] at h49'
              refine t_seq ?_
              refine t_region ?_
              refine r_op (o_loadAb rfl (n := 1) (by kernel_rfl) (by kernel_rfl) rfl rfl rfl) ?_
              refine r_op (o_storeb (n := 1) (by kernel_rfl) rfl rfl rfl rfl rfl rfl) ?_
              refine r_op (o_assign rfl rfl) ?_
              refine r_end ?_
              refine t_ret Try.func17 (.cells (n := 1) (by kernel_rfl) (by kernel_rfl) rfl rfl rfl (.tmp rfl .nil)) rfl fun E S w u hI hd => ?_
              refine post_mk hI hd ?_ ⟨eqR ?_, trivial⟩ rfl rfl rfl <;> clear hI hd <;> (try clear ih0)
              all_goals first | rfl | (clear ho ha hb; first | ((have UC : uniC l a b = 2 := by (first | exact uniC_bad (.inl (by assumption)) | exact uniC_bad (.inr (.inl (by first | assumption | exact memU_not (by omega)))) | exact uniC_bad (.inr (.inr (by first | assumption | exact memU_not (by omega)))) | exact uniC_same (by assumption) (by first | assumption | exact memU_of (by omega) (by omega)) (by first | assumption | exact memU_of (by omega) (by omega)) (by omega) | exact uniC_const (by assumption) (by first | assumption | exact memU_of (by omega) (by omega)) (by first | assumption | exact memU_of (by omega) (by omega)) (by omega) (by omega) | exact uniC_done (by assumption) (by first | assumption | exact memU_of (by omega) (by omega)) (by first | assumption | exact memU_of (by omega) (by omega)) (by omega) (by omega))); first | exact tupU UC | exact uniL_keep UC (by decide)) | ((have UC : uniC l a b = 0 := by (first | exact uniC_bad (.inl (by assumption)) | exact uniC_bad (.inr (.inl (by first | assumption | exact memU_not (by omega)))) | exact uniC_bad (.inr (.inr (by first | assumption | exact memU_not (by omega)))) | exact uniC_same (by assumption) (by first | assumption | exact memU_of (by omega) (by omega)) (by first | assumption | exact memU_of (by omega) (by omega)) (by omega) | exact uniC_const (by assumption) (by first | assumption | exact memU_of (by omega) (by omega)) (by first | assumption | exact memU_of (by omega) (by omega)) (by omega) (by omega) | exact uniC_done (by assumption) (by first | assumption | exact memU_of (by omega) (by omega)) (by first | assumption | exact memU_of (by omega) (by omega)) (by omega) (by omega))); first | exact tupU UC | exact uniL_keep UC (by decide)) | ((have UC : uniC l a b = 1 := by (first | exact uniC_bad (.inl (by assumption)) | exact uniC_bad (.inr (.inl (by first | assumption | exact memU_not (by omega)))) | exact uniC_bad (.inr (.inr (by first | assumption | exact memU_not (by omega)))) | exact uniC_same (by assumption) (by first | assumption | exact memU_of (by omega) (by omega)) (by first | assumption | exact memU_of (by omega) (by omega)) (by omega) | exact uniC_const (by assumption) (by first | assumption | exact memU_of (by omega) (by omega)) (by first | assumption | exact memU_of (by omega) (by omega)) (by omega) (by omega) | exact uniC_done (by assumption) (by first | assumption | exact memU_of (by omega) (by omega)) (by first | assumption | exact memU_of (by omega) (by omega)) (by omega) (by omega))); first | exact tupU UC | exact uniL_done UC (by omega)))
            ·
              have h49' := h49
              try simp only [decide_eq_true_eq, decide_eq_false_iff_not, Bool.not_eq_true', Bool.not_eq_false', Bool.not_false, Bool.not_true] at h49'
              refine t_skip ?_
              refine t_seq ?_
              refine t_seq ?_
              refine t_region ?_
              refine r_op (o_move rfl rfl) ?_
              refine r_op (o_bin rfl rfl rfl rfl) ?_
              refine r_op (o_move rfl rfl) ?_
              refine r_guard rfl rfl rfl (fun g50 => ?_) (fun g50 => ?_)
              ·
                have g50' := g50
                try simp only [decide_eq_true_eq, decide_eq_false_iff_not, Bool.not_eq_true', Bool.not_eq_false', Bool.not_false, Bool.not_true] at g50'
                refine r_op (o_move rfl rfl) ?_
                refine r_guard rfl rfl rfl (fun _ => ?_) (fun h' => (Bool.noConfusion (g50.symm.trans h')))
                refine r_op (o_bin rfl rfl rfl rfl) ?_
                refine r_op (o_pickT rfl rfl g50 rfl) ?_
                refine r_end ?_
                refine t_cond rfl (fun h51 => ?_) (fun h51 => ?_)
                ·
                  have h51' := h51
                  try simp only [decide_eq_true_eq, decide_eq_false_iff_not, Bool.not_eq_true', Bool.not_eq_false', Bool.not_false, Bool.not_true] at h51'
                  refine t_seq ?_
                  refine t_region ?_
                  refine r_op (o_loadAb rfl (n := 1) (by kernel_rfl) (by kernel_rfl) rfl rfl rfl) ?_
                  refine r_op (o_storeb (n := 1) (by kernel_rfl) rfl rfl rfl rfl rfl rfl) ?_
                  refine r_op (o_assign rfl rfl) ?_
                  refine r_end ?_
                  refine t_ret Try.func17 (.cells (n := 1) (by kernel_rfl) (by kernel_rfl) rfl rfl rfl (.tmp rfl .nil)) rfl fun E S w u hI hd => ?_
                  refine post_mk hI hd ?_ ⟨eqR ?_, trivial⟩ rfl rfl rfl <;> clear hI hd <;> (try clear ih0)
                  all_goals first | rfl | (clear ho ha hb; first | ((have UC : uniC l a b = 2 := by (first | exact uniC_bad (.inl (by assumption)) | exact uniC_bad (.inr (.inl (by first | assumption | exact memU_not (by omega)))) | exact uniC_bad (.inr (.inr (by first | assumption | exact memU_not (by omega)))) | exact uniC_same (by assumption) (by first | assumption | exact memU_of (by omega) (by omega)) (by first | assumption | exact memU_of (by omega) (by omega)) (by omega) | exact uniC_const (by assumption) (by first | assumption | exact memU_of (by omega) (by omega)) (by first | assumption | exact memU_of (by omega) (by omega)) (by omega) (by omega) | exact uniC_done (by assumption) (by first | assumption | exact memU_of (by omega) (by omega)) (by first | assumption | exact memU_of (by omega) (by omega)) (by omega) (by omega))); first | exact tupU UC | exact uniL_keep UC (by decide)) | ((have UC : uniC l a b = 0 := by (first | exact uniC_bad (.inl (by assumption)) | exact uniC_bad (.inr (.inl (by first | assumption | exact memU_not (by omega)))) | exact uniC_bad (.inr (.inr (by first | assumption | exact memU_not (by omega)))) | exact uniC_same (by assumption) (by first | assumption | exact memU_of (by omega) (by omega)) (by first | assumption | exact memU_of (by omega) (by omega)) (by omega) | exact uniC_const (by assumption) (by first | assumption | exact memU_of (by omega) (by omega)) (by first | assumption | exact memU_of (by omega) (by omega)) (by omega) (by omega) | exact uniC_done (by assumption) (by first | assumption | exact memU_of (by omega) (by omega)) (by first | assumption | exact memU_of (by omega) (by omega)) (by omega) (by omega))); first | exact tupU UC | exact uniL_keep UC (by decide)) | ((have UC : uniC l a b = 1 := by (first | exact uniC_bad (.inl (by assumption)) | exact uniC_bad (.inr (.inl (by first | assumption | exact memU_not (by omega)))) | exact uniC_bad (.inr (.inr (by first | assumption | exact memU_not (by omega)))) | exact uniC_same (by assumption) (by first | assumption | exact memU_of (by omega) (by omega)) (by first | assumption | exact memU_of (by omega) (by omega)) (by omega) | exact uniC_const (by assumption) (by first | assumption | exact memU_of (by omega) (by omega)) (by first | assumption | exact memU_of (by omega) (by omega)) (by omega) (by omega) | exact uniC_done (by assumption) (by first | assumption | exact memU_of (by omega) (by omega)) (by first | assumption | exact memU_of (by omega) (by omega)) (by omega) (by omega))); first | exact tupU UC | exact uniL_done UC (by omega)))
                ·
                  have h51' := h51
                  try simp only [decide_eq_true_eq, decide_eq_false_iff_not, Bool.not_eq_true', Bool.not_eq_false', Bool.not_false, Bool.not_true] at h51'
                  refine t_skip ?_
                  refine t_seq ?_
                  refine t_region ?_
                  refine r_op (o_move rfl rfl) ?_
                  refine r_op (o_move rfl rfl) ?_
                  refine r_op (o_max rfl rfl rfl) ?_
                  refine r_op (o_assign rfl rfl) ?_
                  refine r_end ?_
                  refine t_seq ?_
                  refine t_region ?_
                  refine r_op (o_move rfl rfl) ?_
                  refine r_op (o_move rfl rfl) ?_
                  refine r_op (o_min rfl rfl rfl) ?_
                  refine r_op (o_assign rfl rfl) ?_
                  refine r_end ?_
                  refine t_seq ?_
                  refine t_seq ?_
                  refine t_region ?_
                  refine r_op (o_assign rfl rfl) ?_
                  refine r_end ?_
                  refine t_block ?_
                  refine t_loopL (fun m => ⟨[(6, some (.c (.ptr 1 0))), (7, some (.c (.t none (.v (.int .i64 (0)))))), (8, some (.c (.ptr 3 0))), (15, some (.c (.t none (.v (.int .i64 (if (findU (l) (a)) < (findU (l) (b)) then (findU (l) (b)) else (findU (l) (a)))))))), (16, some (.c (.t none (.v (.int .i64 (if (findU (l) (b)) < (findU (l) (a)) then (findU (l) (b)) else (findU (l) (a)))))))), (17, some (.c (.t none (.v (.int .i64 ((m : Int)))))))], [(0, some (.box [.t none (.sl 1 encI (l))])), (1, some (.box [.t none (.v (.slice none 0 0))])), (2, some (.row none 3 true 1 encI ((l.take m).map (repU (findU l a) (findU l b)) ++ l.drop m))), (3, some (.box [.own 2]))], 4⟩ : Nat → St) (fun m => m ≤ l.length) (fun m => l.length - m) 0 ⟨⟨rfl, ⟨rfl, ⟨rfl, ⟨rfl, ⟨rfl, ⟨rfl, trivial⟩⟩⟩⟩⟩⟩, ⟨rfl, ⟨rfl, ⟨(eqR (by simp)), ⟨rfl, trivial⟩⟩⟩⟩, rfl⟩ (by exact Nat.zero_le _) ?_
                  rintro m hI ih0
                  try dsimp only at hI ih0
                  have i1 := hI; have hlen : ((l.take m).map (repU (findU l a) (findU l b)) ++ l.drop m).length = l.length := by (simp; omega)
                  refine t_seq ?_
                  refine t_seq ?_
                  refine t_region ?_
                  refine r_op (o_move rfl rfl) ?_
                  refine r_op (o_fieldb rfl (off := 0) (by kernel_rfl) rfl) ?_
                  refine r_op (o_load1b rfl (by kernel_rfl) rfl rfl rfl) ?_
                  refine r_op (o_leno rfl rfl rfl rfl) ?_
                  refine r_op (o_bin rfl rfl rfl rfl) ?_
                  refine r_end ?_
                  refine t_cond rfl (fun h52 => ?_) (fun h52 => ?_)
                  ·
                    have h52' := h52
                    try simp only [decide_eq_true_eq, decide_eq_false_iff_not, Bool.not_eq_true', Bool.not_eq_false', Bool.not_false, Bool.not_true] at h52'
                    refine t_skip ?_
                    refine t_seq ?_
                    refine t_block ?_
                    refine t_seq ?_
                    refine t_region ?_
                    refine r_op (o_fieldb rfl (off := 0) (by kernel_rfl) rfl) ?_
                    refine r_op (o_load1b rfl (by kernel_rfl) rfl rfl rfl) ?_
                    refine r_op (o_move rfl rfl) ?_
                    obtain ⟨z53, hz54, b55⟩ := at_get (xs := (l.take m).map (repU (findU l a) (findU l b)) ++ l.drop m) (n := (m : Int)) (by first | omega | assumption | (simp; omega)) (by first | omega | assumption | (simp; omega))
                    refine r_op (o_indexo rfl (by kernel_rfl) rfl rfl rfl b55 (at_lt b55 hz54)) ?_
                    refine r_op (o_load1o rfl (by kernel_rfl) rfl rfl rfl hz54) ?_
                    refine r_op (o_move rfl rfl) ?_
                    refine r_op (o_bin rfl rfl rfl rfl) ?_
                    refine r_end ?_
                    refine t_cond rfl (fun h56 => ?_) (fun h56 => ?_)
                    ·
                      have h56' := h56
                      try simp only [decide_eq_true_eq, decide_eq_false_iff_not, Bool.not_eq_true', Bool.not_eq_false', Bool.not_false, Bool.not_true] at h56'
                      refine t_region ?_
                      refine r_op (o_fieldb rfl (off := 0) (by kernel_rfl) rfl) ?_
                      refine r_op (o_load1b rfl (by kernel_rfl) rfl rfl rfl) ?_
                      refine r_op (o_move rfl rfl) ?_
                      refine r_op (o_move rfl rfl) ?_
                      refine r_op (o_indexo rfl (by kernel_rfl) rfl rfl rfl b55 (at_lt b55 hz54)) ?_
                      refine r_op (o_storeo (if (findU (l) (a)) < (findU (l) (b)) then (findU (l) (b)) else (findU (l) (a))) (n := 1) (by kernel_rfl) rfl rfl hz54 rfl rfl rfl rfl (.cons .sc .nil) rfl (fun j h1 h2 => by simp at h1 h2; omega)) ?_
                      refine r_end ?_
                      refine t_endblock ?_
                      refine t_region ?_
                      refine r_op (o_move rfl rfl) ?_
                      refine r_op (o_bin rfl rfl rfl rfl) ?_
                      refine r_op (o_assign rfl rfl) ?_
                      refine r_end ?_
                      refine t_le ?_ (ih0 (m + 1) (by (try dsimp only); omega) (by (try dsimp only); omega))
                      exact ⟨⟨rfl, ⟨rfl, ⟨rfl, ⟨rfl, ⟨rfl, ⟨(eqI (wr64 (by omega) (by omega))), trivial⟩⟩⟩⟩⟩⟩, ⟨rfl, ⟨rfl, ⟨(eqR (by have ma := map_at (l := l) (m := m) hz54 i1; first | exact map_set (f := repU (findU l a) (findU l b)) ma (repU_hit (by assumption)) | exact map_skip (f := repU (findU l a) (findU l b)) ma (repU_miss (by assumption)))), ⟨rfl, trivial⟩⟩⟩⟩, rfl⟩
                    ·
                      have h56' := h56
                      try simp only [decide_eq_true_eq, decide_eq_false_iff_not, Bool.not_eq_true', Bool.not_eq_false', Bool.not_false, Bool.not_true] at h56'
                      refine t_skip ?_
                      refine t_endblock ?_
                      refine t_region ?_
                      refine r_op (o_move rfl rfl) ?_
                      refine r_op (o_bin rfl rfl rfl rfl) ?_
                      refine r_op (o_assign rfl rfl) ?_
                      refine r_end ?_
                      refine t_le ?_ (ih0 (m + 1) (by (try dsimp only); omega) (by (try dsimp only); omega))
                      exact ⟨⟨rfl, ⟨rfl, ⟨rfl, ⟨rfl, ⟨rfl, ⟨(eqI (wr64 (by omega) (by omega))), trivial⟩⟩⟩⟩⟩⟩, ⟨rfl, ⟨rfl, ⟨(eqR (by have ma := map_at (l := l) (m := m) hz54 i1; first | exact map_set (f := repU (findU l a) (findU l b)) ma (repU_hit (by assumption)) | exact map_skip (f := repU (findU l a) (findU l b)) ma (repU_miss (by assumption)))), ⟨rfl, trivial⟩⟩⟩⟩, rfl⟩
                  ·
                    have h52' := h52
                    try simp only [decide_eq_true_eq, decide_eq_false_iff_not, Bool.not_eq_true', Bool.not_eq_false', Bool.not_false, Bool.not_true] at h52'
                    refine t_exit rfl ?_
                    refine t_seq ?_
                    refine t_region ?_
                    refine r_op (o_loadAb rfl (n := 1) (by kernel_rfl) (by kernel_rfl) rfl rfl rfl) ?_
                    refine r_op (o_storeb (n := 1) (by kernel_rfl) rfl rfl rfl rfl rfl rfl) ?_
                    refine r_op (o_assign rfl rfl) ?_
                    refine r_end ?_
                    refine t_ret Try.func17 (.cells (n := 1) (by kernel_rfl) (by kernel_rfl) rfl rfl rfl (.tmp rfl .nil)) rfl fun E S w u hI hd => ?_
                    refine post_mk hI hd ?_ ⟨eqR ?_, trivial⟩ rfl rfl rfl <;> clear hI hd <;> (try clear ih0)
                    all_goals first | rfl | (clear ho ha hb; first | ((have UC : uniC l a b = 2 := by (first | exact uniC_bad (.inl (by assumption)) | exact uniC_bad (.inr (.inl (by first | assumption | exact memU_not (by omega)))) | exact uniC_bad (.inr (.inr (by first | assumption | exact memU_not (by omega)))) | exact uniC_same (by assumption) (by first | assumption | exact memU_of (by omega) (by omega)) (by first | assumption | exact memU_of (by omega) (by omega)) (by omega) | exact uniC_const (by assumption) (by first | assumption | exact memU_of (by omega) (by omega)) (by first | assumption | exact memU_of (by omega) (by omega)) (by omega) (by omega) | exact uniC_done (by assumption) (by first | assumption | exact memU_of (by omega) (by omega)) (by first | assumption | exact memU_of (by omega) (by omega)) (by omega) (by omega))); first | exact tupU UC | exact uniL_keep UC (by decide)) | ((have UC : uniC l a b = 0 := by (first | exact uniC_bad (.inl (by assumption)) | exact uniC_bad (.inr (.inl (by first | assumption | exact memU_not (by omega)))) | exact uniC_bad (.inr (.inr (by first | assumption | exact memU_not (by omega)))) | exact uniC_same (by assumption) (by first | assumption | exact memU_of (by omega) (by omega)) (by first | assumption | exact memU_of (by omega) (by omega)) (by omega) | exact uniC_const (by assumption) (by first | assumption | exact memU_of (by omega) (by omega)) (by first | assumption | exact memU_of (by omega) (by omega)) (by omega) (by omega) | exact uniC_done (by assumption) (by first | assumption | exact memU_of (by omega) (by omega)) (by first | assumption | exact memU_of (by omega) (by omega)) (by omega) (by omega))); first | exact tupU UC | exact uniL_keep UC (by decide)) | ((have UC : uniC l a b = 1 := by (first | exact uniC_bad (.inl (by assumption)) | exact uniC_bad (.inr (.inl (by first | assumption | exact memU_not (by omega)))) | exact uniC_bad (.inr (.inr (by first | assumption | exact memU_not (by omega)))) | exact uniC_same (by assumption) (by first | assumption | exact memU_of (by omega) (by omega)) (by first | assumption | exact memU_of (by omega) (by omega)) (by omega) | exact uniC_const (by assumption) (by first | assumption | exact memU_of (by omega) (by omega)) (by first | assumption | exact memU_of (by omega) (by omega)) (by omega) (by omega) | exact uniC_done (by assumption) (by first | assumption | exact memU_of (by omega) (by omega)) (by first | assumption | exact memU_of (by omega) (by omega)) (by omega) (by omega))); first | exact tupU UC | exact uniL_done UC (by omega)))
              ·
                have g50' := g50
                try simp only [decide_eq_true_eq, decide_eq_false_iff_not, Bool.not_eq_true', Bool.not_eq_false', Bool.not_false, Bool.not_true] at g50'
                refine r_guard rfl rfl rfl (fun h' => (Bool.noConfusion (g50.symm.trans h'))) (fun _ => ?_)
                refine r_op (o_pickF rfl rfl g50 rfl) ?_
                refine r_end ?_
                refine t_cond rfl (fun h' => Bool.noConfusion (rfl.symm.trans h')) (fun _ => ?_)
                refine t_skip ?_
                refine t_seq ?_
                refine t_region ?_
                refine r_op (o_move rfl rfl) ?_
                refine r_op (o_move rfl rfl) ?_
                refine r_op (o_max rfl rfl rfl) ?_
                refine r_op (o_assign rfl rfl) ?_
                refine r_end ?_
                refine t_seq ?_
                refine t_region ?_
                refine r_op (o_move rfl rfl) ?_
                refine r_op (o_move rfl rfl) ?_
                refine r_op (o_min rfl rfl rfl) ?_
                refine r_op (o_assign rfl rfl) ?_
                refine r_end ?_
                refine t_seq ?_
                refine t_seq ?_
                refine t_region ?_
                refine r_op (o_assign rfl rfl) ?_
                refine r_end ?_
                refine t_block ?_
                refine t_loopL (fun m => ⟨[(6, some (.c (.ptr 1 0))), (7, some (.c (.t none (.v (.int .i64 (0)))))), (8, some (.c (.ptr 3 0))), (15, some (.c (.t none (.v (.int .i64 (if (findU (l) (a)) < (findU (l) (b)) then (findU (l) (b)) else (findU (l) (a)))))))), (16, some (.c (.t none (.v (.int .i64 (if (findU (l) (b)) < (findU (l) (a)) then (findU (l) (b)) else (findU (l) (a)))))))), (17, some (.c (.t none (.v (.int .i64 ((m : Int)))))))], [(0, some (.box [.t none (.sl 1 encI (l))])), (1, some (.box [.t none (.v (.slice none 0 0))])), (2, some (.row none 3 true 1 encI ((l.take m).map (repU (findU l a) (findU l b)) ++ l.drop m))), (3, some (.box [.own 2]))], 4⟩ : Nat → St) (fun m => m ≤ l.length) (fun m => l.length - m) 0 ⟨⟨rfl, ⟨rfl, ⟨rfl, ⟨rfl, ⟨rfl, ⟨rfl, trivial⟩⟩⟩⟩⟩⟩, ⟨rfl, ⟨rfl, ⟨(eqR (by simp)), ⟨rfl, trivial⟩⟩⟩⟩, rfl⟩ (by exact Nat.zero_le _) ?_
                rintro m hI ih0
                try dsimp only at hI ih0
                have i1 := hI; have hlen : ((l.take m).map (repU (findU l a) (findU l b)) ++ l.drop m).length = l.length := by (simp; omega)
                refine t_seq ?_
                refine t_seq ?_
                refine t_region ?_
                refine r_op (o_move rfl rfl) ?_
                refine r_op (o_fieldb rfl (off := 0) (by kernel_rfl) rfl) ?_
                refine r_op (o_load1b rfl (by kernel_rfl) rfl rfl rfl) ?_
                refine r_op (o_leno rfl rfl rfl rfl) ?_
                refine r_op (o_bin rfl rfl rfl rfl) ?_
                refine r_end ?_
                refine t_cond rfl (fun h57 => ?_) (fun h57 => ?_)
                ·
                  have h57' := h57
                  try simp only [decide_eq_true_eq, decide_eq_false_iff_not, Bool.not_eq_true', Bool.not_eq_false', Bool.not_false, Bool.not_true] at h57'
                  refine t_skip ?_
                  refine t_seq ?_
                  refine t_block ?_
                  refine t_seq ?_
                  refine t_region ?_
                  refine r_op (o_fieldb rfl (off := 0) (by kernel_rfl) rfl) ?_
                  refine r_op (o_load1b rfl (by kernel_rfl) rfl rfl rfl) ?_
                  refine r_op (o_move rfl rfl) ?_
                  obtain ⟨z58, hz59, b60⟩ := at_get (xs := (l.take m).map (repU (findU l a) (findU l b)) ++ l.drop m) (n := (m : Int)) (by first | omega | assumption | (simp; omega)) (by first | omega | assumption | (simp; omega))
                  refine r_op (o_indexo rfl (by kernel_rfl) rfl rfl rfl b60 (at_lt b60 hz59)) ?_
                  refine r_op (o_load1o rfl (by kernel_rfl) rfl rfl rfl hz59) ?_
                  refine r_op (o_move rfl rfl) ?_
                  refine r_op (o_bin rfl rfl rfl rfl) ?_
                  refine r_end ?_
                  refine t_cond rfl (fun h61 => ?_) (fun h61 => ?_)
                  ·
                    have h61' := h61
                    try simp only [decide_eq_true_eq, decide_eq_false_iff_not, Bool.not_eq_true', Bool.not_eq_false', Bool.not_false, Bool.not_true] at h61'
                    refine t_region ?_
                    refine r_op (o_fieldb rfl (off := 0) (by kernel_rfl) rfl) ?_
                    refine r_op (o_load1b rfl (by kernel_rfl) rfl rfl rfl) ?_
                    refine r_op (o_move rfl rfl) ?_
                    refine r_op (o_move rfl rfl) ?_
                    refine r_op (o_indexo rfl (by kernel_rfl) rfl rfl rfl b60 (at_lt b60 hz59)) ?_
                    refine r_op (o_storeo (if (findU (l) (a)) < (findU (l) (b)) then (findU (l) (b)) else (findU (l) (a))) (n := 1) (by kernel_rfl) rfl rfl hz59 rfl rfl rfl rfl (.cons .sc .nil) rfl (fun j h1 h2 => by simp at h1 h2; omega)) ?_
                    refine r_end ?_
                    refine t_endblock ?_
                    refine t_region ?_
                    refine r_op (o_move rfl rfl) ?_
                    refine r_op (o_bin rfl rfl rfl rfl) ?_
                    refine r_op (o_assign rfl rfl) ?_
                    refine r_end ?_
                    refine t_le ?_ (ih0 (m + 1) (by (try dsimp only); omega) (by (try dsimp only); omega))
                    exact ⟨⟨rfl, ⟨rfl, ⟨rfl, ⟨rfl, ⟨rfl, ⟨(eqI (wr64 (by omega) (by omega))), trivial⟩⟩⟩⟩⟩⟩, ⟨rfl, ⟨rfl, ⟨(eqR (by have ma := map_at (l := l) (m := m) hz59 i1; first | exact map_set (f := repU (findU l a) (findU l b)) ma (repU_hit (by assumption)) | exact map_skip (f := repU (findU l a) (findU l b)) ma (repU_miss (by assumption)))), ⟨rfl, trivial⟩⟩⟩⟩, rfl⟩
                  ·
                    have h61' := h61
                    try simp only [decide_eq_true_eq, decide_eq_false_iff_not, Bool.not_eq_true', Bool.not_eq_false', Bool.not_false, Bool.not_true] at h61'
                    refine t_skip ?_
                    refine t_endblock ?_
                    refine t_region ?_
                    refine r_op (o_move rfl rfl) ?_
                    refine r_op (o_bin rfl rfl rfl rfl) ?_
                    refine r_op (o_assign rfl rfl) ?_
                    refine r_end ?_
                    refine t_le ?_ (ih0 (m + 1) (by (try dsimp only); omega) (by (try dsimp only); omega))
                    exact ⟨⟨rfl, ⟨rfl, ⟨rfl, ⟨rfl, ⟨rfl, ⟨(eqI (wr64 (by omega) (by omega))), trivial⟩⟩⟩⟩⟩⟩, ⟨rfl, ⟨rfl, ⟨(eqR (by have ma := map_at (l := l) (m := m) hz59 i1; first | exact map_set (f := repU (findU l a) (findU l b)) ma (repU_hit (by assumption)) | exact map_skip (f := repU (findU l a) (findU l b)) ma (repU_miss (by assumption)))), ⟨rfl, trivial⟩⟩⟩⟩, rfl⟩
                ·
                  have h57' := h57
                  try simp only [decide_eq_true_eq, decide_eq_false_iff_not, Bool.not_eq_true', Bool.not_eq_false', Bool.not_false, Bool.not_true] at h57'
                  refine t_exit rfl ?_
                  refine t_seq ?_
                  refine t_region ?_
                  refine r_op (o_loadAb rfl (n := 1) (by kernel_rfl) (by kernel_rfl) rfl rfl rfl) ?_
                  refine r_op (o_storeb (n := 1) (by kernel_rfl) rfl rfl rfl rfl rfl rfl) ?_
                  refine r_op (o_assign rfl rfl) ?_
                  refine r_end ?_
                  refine t_ret Try.func17 (.cells (n := 1) (by kernel_rfl) (by kernel_rfl) rfl rfl rfl (.tmp rfl .nil)) rfl fun E S w u hI hd => ?_
                  refine post_mk hI hd ?_ ⟨eqR ?_, trivial⟩ rfl rfl rfl <;> clear hI hd <;> (try clear ih0)
                  all_goals first | rfl | (clear ho ha hb; first | ((have UC : uniC l a b = 2 := by (first | exact uniC_bad (.inl (by assumption)) | exact uniC_bad (.inr (.inl (by first | assumption | exact memU_not (by omega)))) | exact uniC_bad (.inr (.inr (by first | assumption | exact memU_not (by omega)))) | exact uniC_same (by assumption) (by first | assumption | exact memU_of (by omega) (by omega)) (by first | assumption | exact memU_of (by omega) (by omega)) (by omega) | exact uniC_const (by assumption) (by first | assumption | exact memU_of (by omega) (by omega)) (by first | assumption | exact memU_of (by omega) (by omega)) (by omega) (by omega) | exact uniC_done (by assumption) (by first | assumption | exact memU_of (by omega) (by omega)) (by first | assumption | exact memU_of (by omega) (by omega)) (by omega) (by omega))); first | exact tupU UC | exact uniL_keep UC (by decide)) | ((have UC : uniC l a b = 0 := by (first | exact uniC_bad (.inl (by assumption)) | exact uniC_bad (.inr (.inl (by first | assumption | exact memU_not (by omega)))) | exact uniC_bad (.inr (.inr (by first | assumption | exact memU_not (by omega)))) | exact uniC_same (by assumption) (by first | assumption | exact memU_of (by omega) (by omega)) (by first | assumption | exact memU_of (by omega) (by omega)) (by omega) | exact uniC_const (by assumption) (by first | assumption | exact memU_of (by omega) (by omega)) (by first | assumption | exact memU_of (by omega) (by omega)) (by omega) (by omega) | exact uniC_done (by assumption) (by first | assumption | exact memU_of (by omega) (by omega)) (by first | assumption | exact memU_of (by omega) (by omega)) (by omega) (by omega))); first | exact tupU UC | exact uniL_keep UC (by decide)) | ((have UC : uniC l a b = 1 := by (first | exact uniC_bad (.inl (by assumption)) | exact uniC_bad (.inr (.inl (by first | assumption | exact memU_not (by omega)))) | exact uniC_bad (.inr (.inr (by first | assumption | exact memU_not (by omega)))) | exact uniC_same (by assumption) (by first | assumption | exact memU_of (by omega) (by omega)) (by first | assumption | exact memU_of (by omega) (by omega)) (by omega) | exact uniC_const (by assumption) (by first | assumption | exact memU_of (by omega) (by omega)) (by first | assumption | exact memU_of (by omega) (by omega)) (by omega) (by omega) | exact uniC_done (by assumption) (by first | assumption | exact memU_of (by omega) (by omega)) (by first | assumption | exact memU_of (by omega) (by omega)) (by omega) (by omega))); first | exact tupU UC | exact uniL_done UC (by omega)))
      ·
        have g3' := g3
        try simp only [decide_eq_true_eq, decide_eq_false_iff_not, Bool.not_eq_true', Bool.not_eq_false', Bool.not_false, Bool.not_true] at g3'
        refine r_guard rfl rfl rfl (fun h' => (Bool.noConfusion (g3.symm.trans h'))) (fun _ => ?_)
        refine r_skip rfl rfl rfl ?_
        refine r_skip rfl rfl rfl ?_
        refine r_skip rfl rfl rfl ?_
        refine r_skip rfl rfl rfl ?_
        refine r_skip rfl rfl rfl ?_
        refine r_guard rfl rfl rfl (fun h' => (Bool.noConfusion (g3.symm.trans h'))) (fun _ => ?_)
        refine r_op (o_pickT rfl rfl g3 rfl) ?_
        refine r_op (o_move rfl rfl) ?_
        refine r_guard rfl rfl rfl (fun h' => (Bool.noConfusion (rfl.symm.trans h'))) (fun _ => ?_)
        refine r_guard rfl rfl rfl (fun h' => (Bool.noConfusion (rfl.symm.trans h'))) (fun _ => ?_)
        refine r_skip rfl rfl rfl ?_
        refine r_skip rfl rfl rfl ?_
        refine r_skip rfl rfl rfl ?_
        refine r_skip rfl rfl rfl ?_
        refine r_skip rfl rfl rfl ?_
        refine r_guard rfl rfl rfl (fun h' => (Bool.noConfusion (rfl.symm.trans h'))) (fun _ => ?_)
        refine r_op (o_pickT rfl rfl rfl rfl) ?_
        refine r_end ?_
        refine t_cond rfl (fun _ => ?_) (fun h' => Bool.noConfusion (rfl.symm.trans h'))
        refine t_seq ?_
        refine t_region ?_
        refine r_op (o_loadAb rfl (n := 1) (by kernel_rfl) (by kernel_rfl) rfl rfl rfl) ?_
        refine r_op (o_storeb (n := 1) (by kernel_rfl) rfl rfl rfl rfl rfl rfl) ?_
        refine r_op (o_assign rfl rfl) ?_
        refine r_end ?_
        refine t_ret Try.func17 (.cells (n := 1) (by kernel_rfl) (by kernel_rfl) rfl rfl rfl (.tmp rfl .nil)) rfl fun E S w u hI hd => ?_
        refine post_mk hI hd ?_ ⟨eqR ?_, trivial⟩ rfl rfl rfl <;> clear hI hd <;> (try clear ih0)
        all_goals first | rfl | (clear ho ha hb; first | ((have UC : uniC l a b = 2 := by (first | exact uniC_bad (.inl (by assumption)) | exact uniC_bad (.inr (.inl (by first | assumption | exact memU_not (by omega)))) | exact uniC_bad (.inr (.inr (by first | assumption | exact memU_not (by omega)))) | exact uniC_same (by assumption) (by first | assumption | exact memU_of (by omega) (by omega)) (by first | assumption | exact memU_of (by omega) (by omega)) (by omega) | exact uniC_const (by assumption) (by first | assumption | exact memU_of (by omega) (by omega)) (by first | assumption | exact memU_of (by omega) (by omega)) (by omega) (by omega) | exact uniC_done (by assumption) (by first | assumption | exact memU_of (by omega) (by omega)) (by first | assumption | exact memU_of (by omega) (by omega)) (by omega) (by omega))); first | exact tupU UC | exact uniL_keep UC (by decide)) | ((have UC : uniC l a b = 0 := by (first | exact uniC_bad (.inl (by assumption)) | exact uniC_bad (.inr (.inl (by first | assumption | exact memU_not (by omega)))) | exact uniC_bad (.inr (.inr (by first | assumption | exact memU_not (by omega)))) | exact uniC_same (by assumption) (by first | assumption | exact memU_of (by omega) (by omega)) (by first | assumption | exact memU_of (by omega) (by omega)) (by omega) | exact uniC_const (by assumption) (by first | assumption | exact memU_of (by omega) (by omega)) (by first | assumption | exact memU_of (by omega) (by omega)) (by omega) (by omega) | exact uniC_done (by assumption) (by first | assumption | exact memU_of (by omega) (by omega)) (by first | assumption | exact memU_of (by omega) (by omega)) (by omega) (by omega))); first | exact tupU UC | exact uniL_keep UC (by decide)) | ((have UC : uniC l a b = 1 := by (first | exact uniC_bad (.inl (by assumption)) | exact uniC_bad (.inr (.inl (by first | assumption | exact memU_not (by omega)))) | exact uniC_bad (.inr (.inr (by first | assumption | exact memU_not (by omega)))) | exact uniC_same (by assumption) (by first | assumption | exact memU_of (by omega) (by omega)) (by first | assumption | exact memU_of (by omega) (by omega)) (by omega) | exact uniC_const (by assumption) (by first | assumption | exact memU_of (by omega) (by omega)) (by first | assumption | exact memU_of (by omega) (by omega)) (by omega) (by omega) | exact uniC_done (by assumption) (by first | assumption | exact memU_of (by omega) (by omega)) (by first | assumption | exact memU_of (by omega) (by omega)) (by omega) (by omega))); first | exact tupU UC | exact uniL_done UC (by omega)))
    ·
      have g2' := g2
      try simp only [decide_eq_true_eq, decide_eq_false_iff_not, Bool.not_eq_true', Bool.not_eq_false', Bool.not_false, Bool.not_true] at g2'
      refine r_guard rfl rfl rfl (fun h' => (Bool.noConfusion (g2.symm.trans h'))) (fun _ => ?_)
      refine r_guard rfl rfl rfl (fun h' => (Bool.noConfusion (g2.symm.trans h'))) (fun _ => ?_)
      refine r_op (o_pickT rfl rfl g2 rfl) ?_
      refine r_op (o_move rfl rfl) ?_
      refine r_guard rfl rfl rfl (fun h' => (Bool.noConfusion (rfl.symm.trans h'))) (fun _ => ?_)
      refine r_guard rfl rfl rfl (fun h' => (Bool.noConfusion (rfl.symm.trans h'))) (fun _ => ?_)
      refine r_skip rfl rfl rfl ?_
      refine r_skip rfl rfl rfl ?_
      refine r_skip rfl rfl rfl ?_
      refine r_skip rfl rfl rfl ?_
      refine r_skip rfl rfl rfl ?_
      refine r_guard rfl rfl rfl (fun h' => (Bool.noConfusion (rfl.symm.trans h'))) (fun _ => ?_)
      refine r_op (o_pickT rfl rfl rfl rfl) ?_
      refine r_op (o_move rfl rfl) ?_
      refine r_guard rfl rfl rfl (fun h' => (Bool.noConfusion (rfl.symm.trans h'))) (fun _ => ?_)
      refine r_guard rfl rfl rfl (fun h' => (Bool.noConfusion (rfl.symm.trans h'))) (fun _ => ?_)
      refine r_skip rfl rfl rfl ?_
      refine r_skip rfl rfl rfl ?_
      refine r_skip rfl rfl rfl ?_
      refine r_skip rfl rfl rfl ?_
      refine r_skip rfl rfl rfl ?_
      refine r_guard rfl rfl rfl (fun h' => (Bool.noConfusion (rfl.symm.trans h'))) (fun _ => ?_)
      refine r_op (o_pickT rfl rfl rfl rfl) ?_
      refine r_end ?_
      refine t_cond rfl (fun _ => ?_) (fun h' => Bool.noConfusion (rfl.symm.trans h'))
      refine t_seq ?_
      refine t_region ?_
      refine r_op (o_loadAb rfl (n := 1) (by kernel_rfl) (by kernel_rfl) rfl rfl rfl) ?_
      refine r_op (o_storeb (n := 1) (by kernel_rfl) rfl rfl rfl rfl rfl rfl) ?_
      refine r_op (o_assign rfl rfl) ?_
      refine r_end ?_
      refine t_ret Try.func17 (.cells (n := 1) (by kernel_rfl) (by kernel_rfl) rfl rfl rfl (.tmp rfl .nil)) rfl fun E S w u hI hd => ?_
      refine post_mk hI hd ?_ ⟨eqR ?_, trivial⟩ rfl rfl rfl <;> clear hI hd <;> (try clear ih0)
      all_goals first | rfl | (clear ho ha hb; first | ((have UC : uniC l a b = 2 := by (first | exact uniC_bad (.inl (by assumption)) | exact uniC_bad (.inr (.inl (by first | assumption | exact memU_not (by omega)))) | exact uniC_bad (.inr (.inr (by first | assumption | exact memU_not (by omega)))) | exact uniC_same (by assumption) (by first | assumption | exact memU_of (by omega) (by omega)) (by first | assumption | exact memU_of (by omega) (by omega)) (by omega) | exact uniC_const (by assumption) (by first | assumption | exact memU_of (by omega) (by omega)) (by first | assumption | exact memU_of (by omega) (by omega)) (by omega) (by omega) | exact uniC_done (by assumption) (by first | assumption | exact memU_of (by omega) (by omega)) (by first | assumption | exact memU_of (by omega) (by omega)) (by omega) (by omega))); first | exact tupU UC | exact uniL_keep UC (by decide)) | ((have UC : uniC l a b = 0 := by (first | exact uniC_bad (.inl (by assumption)) | exact uniC_bad (.inr (.inl (by first | assumption | exact memU_not (by omega)))) | exact uniC_bad (.inr (.inr (by first | assumption | exact memU_not (by omega)))) | exact uniC_same (by assumption) (by first | assumption | exact memU_of (by omega) (by omega)) (by first | assumption | exact memU_of (by omega) (by omega)) (by omega) | exact uniC_const (by assumption) (by first | assumption | exact memU_of (by omega) (by omega)) (by first | assumption | exact memU_of (by omega) (by omega)) (by omega) (by omega) | exact uniC_done (by assumption) (by first | assumption | exact memU_of (by omega) (by omega)) (by first | assumption | exact memU_of (by omega) (by omega)) (by omega) (by omega))); first | exact tupU UC | exact uniL_keep UC (by decide)) | ((have UC : uniC l a b = 1 := by (first | exact uniC_bad (.inl (by assumption)) | exact uniC_bad (.inr (.inl (by first | assumption | exact memU_not (by omega)))) | exact uniC_bad (.inr (.inr (by first | assumption | exact memU_not (by omega)))) | exact uniC_same (by assumption) (by first | assumption | exact memU_of (by omega) (by omega)) (by first | assumption | exact memU_of (by omega) (by omega)) (by omega) | exact uniC_const (by assumption) (by first | assumption | exact memU_of (by omega) (by omega)) (by first | assumption | exact memU_of (by omega) (by omega)) (by omega) (by omega) | exact uniC_done (by assumption) (by first | assumption | exact memU_of (by omega) (by omega)) (by first | assumption | exact memU_of (by omega) (by omega)) (by omega) (by omega))); first | exact tupU UC | exact uniL_done UC (by omega)))
  ·
    have g1' := g1
    try simp only [decide_eq_true_eq, decide_eq_false_iff_not, Bool.not_eq_true', Bool.not_eq_false', Bool.not_false, Bool.not_true] at g1'
    refine r_guard rfl rfl rfl (fun h' => (Bool.noConfusion (g1.symm.trans h'))) (fun _ => ?_)
    refine r_guard rfl rfl rfl (fun h' => (Bool.noConfusion (g1.symm.trans h'))) (fun _ => ?_)
    refine r_op (o_pickT rfl rfl g1 rfl) ?_
    refine r_op (o_move rfl rfl) ?_
    refine r_guard rfl rfl rfl (fun h' => (Bool.noConfusion (rfl.symm.trans h'))) (fun _ => ?_)
    refine r_guard rfl rfl rfl (fun h' => (Bool.noConfusion (rfl.symm.trans h'))) (fun _ => ?_)
    refine r_guard rfl rfl rfl (fun h' => (Bool.noConfusion (rfl.symm.trans h'))) (fun _ => ?_)
    refine r_op (o_pickT rfl rfl rfl rfl) ?_
    refine r_op (o_move rfl rfl) ?_
    refine r_guard rfl rfl rfl (fun h' => (Bool.noConfusion (rfl.symm.trans h'))) (fun _ => ?_)
    refine r_guard rfl rfl rfl (fun h' => (Bool.noConfusion (rfl.symm.trans h'))) (fun _ => ?_)
    refine r_skip rfl rfl rfl ?_
    refine r_skip rfl rfl rfl ?_
    refine r_skip rfl rfl rfl ?_
    refine r_skip rfl rfl rfl ?_
    refine r_skip rfl rfl rfl ?_
    refine r_guard rfl rfl rfl (fun h' => (Bool.noConfusion (rfl.symm.trans h'))) (fun _ => ?_)
    refine r_op (o_pickT rfl rfl rfl rfl) ?_
    refine r_op (o_move rfl rfl) ?_
    refine r_guard rfl rfl rfl (fun h' => (Bool.noConfusion (rfl.symm.trans h'))) (fun _ => ?_)
    refine r_guard rfl rfl rfl (fun h' => (Bool.noConfusion (rfl.symm.trans h'))) (fun _ => ?_)
    refine r_skip rfl rfl rfl ?_
    refine r_skip rfl rfl rfl ?_
    refine r_skip rfl rfl rfl ?_
    refine r_skip rfl rfl rfl ?_
    refine r_skip rfl rfl rfl ?_
    refine r_guard rfl rfl rfl (fun h' => (Bool.noConfusion (rfl.symm.trans h'))) (fun _ => ?_)
    refine r_op (o_pickT rfl rfl rfl rfl) ?_
    refine r_end ?_
    refine t_cond rfl (fun _ => ?_) (fun h' => Bool.noConfusion (rfl.symm.trans h'))
    refine t_seq ?_
    refine t_region ?_
    refine r_op (o_loadAb rfl (n := 1) (by kernel_rfl) (by kernel_rfl) rfl rfl rfl) ?_
    refine r_op (o_storeb (n := 1) (by kernel_rfl) rfl rfl rfl rfl rfl rfl) ?_
    refine r_op (o_assign rfl rfl) ?_
    refine r_end ?_
    refine t_ret Try.func17 (.cells (n := 1) (by kernel_rfl) (by kernel_rfl) rfl rfl rfl (.tmp rfl .nil)) rfl fun E S w u hI hd => ?_
    refine post_mk hI hd ?_ ⟨eqR ?_, trivial⟩ rfl rfl rfl <;> clear hI hd <;> (try clear ih0)
    all_goals first | rfl | (clear ho ha hb; first | ((have UC : uniC l a b = 2 := by (first | exact uniC_bad (.inl (by assumption)) | exact uniC_bad (.inr (.inl (by first | assumption | exact memU_not (by omega)))) | exact uniC_bad (.inr (.inr (by first | assumption | exact memU_not (by omega)))) | exact uniC_same (by assumption) (by first | assumption | exact memU_of (by omega) (by omega)) (by first | assumption | exact memU_of (by omega) (by omega)) (by omega) | exact uniC_const (by assumption) (by first | assumption | exact memU_of (by omega) (by omega)) (by first | assumption | exact memU_of (by omega) (by omega)) (by omega) (by omega) | exact uniC_done (by assumption) (by first | assumption | exact memU_of (by omega) (by omega)) (by first | assumption | exact memU_of (by omega) (by omega)) (by omega) (by omega))); first | exact tupU UC | exact uniL_keep UC (by decide)) | ((have UC : uniC l a b = 0 := by (first | exact uniC_bad (.inl (by assumption)) | exact uniC_bad (.inr (.inl (by first | assumption | exact memU_not (by omega)))) | exact uniC_bad (.inr (.inr (by first | assumption | exact memU_not (by omega)))) | exact uniC_same (by assumption) (by first | assumption | exact memU_of (by omega) (by omega)) (by first | assumption | exact memU_of (by omega) (by omega)) (by omega) | exact uniC_const (by assumption) (by first | assumption | exact memU_of (by omega) (by omega)) (by first | assumption | exact memU_of (by omega) (by omega)) (by omega) (by omega) | exact uniC_done (by assumption) (by first | assumption | exact memU_of (by omega) (by omega)) (by first | assumption | exact memU_of (by omega) (by omega)) (by omega) (by omega))); first | exact tupU UC | exact uniL_keep UC (by decide)) | ((have UC : uniC l a b = 1 := by (first | exact uniC_bad (.inl (by assumption)) | exact uniC_bad (.inr (.inl (by first | assumption | exact memU_not (by omega)))) | exact uniC_bad (.inr (.inr (by first | assumption | exact memU_not (by omega)))) | exact uniC_same (by assumption) (by first | assumption | exact memU_of (by omega) (by omega)) (by first | assumption | exact memU_of (by omega) (by omega)) (by omega) | exact uniC_const (by assumption) (by first | assumption | exact memU_of (by omega) (by omega)) (by first | assumption | exact memU_of (by omega) (by omega)) (by omega) (by omega) | exact uniC_done (by assumption) (by first | assumption | exact memU_of (by omega) (by omega)) (by first | assumption | exact memU_of (by omega) (by omega)) (by omega) (by omega))); first | exact tupU UC | exact uniL_done UC (by omega)))
set_option maxHeartbeats 1000000 in
set_option maxRecDepth 10000 in
theorem c_slices_Clone___int_int_ (l : List Int) (hl : l.length ≤ 1099511627776) : Pu Try.prog 66 [.c (.t none (.sl 1 encI (l)))] [(0, some (.row none 3 true 1 encI (l)))] 1 (.c (.own 0)) := by
  refine pu_enter Try.func66 rfl (Nat.le_of_ble_eq_true rfl) fun w S => ?_
  refine t_seq ?_
  refine t_region ?_
  refine r_op (o_assign rfl rfl) ?_
  refine r_end ?_
  refine t_seq ?_
  refine t_seq ?_
  refine t_region ?_
  refine r_op (o_move rfl rfl) ?_
  refine r_eqnil rfl rfl rfl (fun en1 => ?_) ?_
  ·
    refine r_end ?_
    refine t_cond rfl (fun _ => ?_) (fun h' => Bool.noConfusion (rfl.symm.trans h'))
    refine t_seq ?_
    refine t_region ?_
    refine r_op (o_assign rfl rfl) ?_
    refine r_end ?_
    refine gt_nil 0 (t := 2) (et := 3) (sz := 1) true encI rfl rfl ?_
    refine t_ret Try.func66 (.tmp rfl .nil) rfl fun E S w u hI hd => ?_
    refine post_mk hI hd ?_ ⟨eqR ?_, trivial⟩ rfl rfl rfl <;> clear hI hd
    all_goals first | rfl | (first | exact en1.symm | simp)
  ·
    refine r_end ?_
    refine t_cond rfl (fun h' => Bool.noConfusion (rfl.symm.trans h')) (fun _ => ?_)
    refine t_skip ?_
    refine t_seq ?_
    refine t_region ?_
    refine r_op (o_lit0 0 (e := 3) (sz := 1) (zs := [.int .i64 (0)]) encI rfl rfl (by kernel_rfl) rfl) ?_
    refine r_op (o_move rfl rfl) ?_
    refine r_op (o_appendS 0 (e := 3) (sz := 1) (by' := 8) rfl (by kernel_rfl) rfl rfl rfl rfl (fun _ _ => ⟨_, rfl⟩) (by first | omega | (simp; omega)) (by first | omega | (simp; omega))) ?_
    refine r_op (o_assign rfl rfl) ?_
    refine r_end ?_
    refine t_ret Try.func66 (.tmp rfl .nil) rfl fun E S w u hI hd => ?_
    refine post_mk hI hd ?_ ⟨eqR ?_, trivial⟩ rfl rfl rfl <;> clear hI hd
    all_goals first | rfl | (first | exact en1.symm | simp)
set_option maxHeartbeats 1000000 in
set_option maxRecDepth 10000 in
theorem c_impl_within (a0 a1 a2 : Int) : Pu Try.prog 81 [.c (.t none (.v (.int .i64 (a0)))), .c (.t none (.v (.int .i64 (a1)))), .c (.t none (.v (.int .i64 (a2))))] [] 0 (.c (.t none (.v (.bool (decide (a1 ≤ a0 ∧ a0 ≤ a2)))))) := by
  refine pu_enter Try.func81 rfl (Nat.le_of_ble_eq_true rfl) fun w S => ?_
  refine t_seq ?_
  refine t_region ?_
  refine r_op (o_assign rfl rfl) ?_
  refine r_end ?_
  refine t_seq ?_
  refine t_region ?_
  refine r_op (o_move rfl rfl) ?_
  refine r_op (o_move rfl rfl) ?_
  refine r_op (o_bin rfl rfl rfl rfl) ?_
  refine r_op (o_move rfl rfl) ?_
  refine r_guard rfl rfl rfl (fun g1 => ?_) (fun g1 => ?_)
  ·
    have g1' := g1
    try simp only [decide_eq_true_eq, decide_eq_false_iff_not, Bool.not_eq_true', Bool.not_eq_false', Bool.not_false, Bool.not_true] at g1'
    refine r_op (o_move rfl rfl) ?_
    refine r_guard rfl rfl rfl (fun _ => ?_) (fun h' => (Bool.noConfusion (g1.symm.trans h')))
    refine r_op (o_move rfl rfl) ?_
    refine r_guard rfl rfl rfl (fun _ => ?_) (fun h' => (Bool.noConfusion (g1.symm.trans h')))
    refine r_op (o_bin rfl rfl rfl rfl) ?_
    refine r_op (o_pickT rfl rfl g1 rfl) ?_
    refine r_op (o_assign rfl rfl) ?_
    refine r_end ?_
    refine t_ret Try.func81 (.tmp rfl .nil) rfl fun E S w u hI hd => ?_
    refine post_mk hI hd ?_ trivial rfl rfl rfl <;> clear hI hd
    all_goals first | rfl | (simp_all <;> omega)
  ·
    have g1' := g1
    try simp only [decide_eq_true_eq, decide_eq_false_iff_not, Bool.not_eq_true', Bool.not_eq_false', Bool.not_false, Bool.not_true] at g1'
    refine r_guard rfl rfl rfl (fun h' => (Bool.noConfusion (g1.symm.trans h'))) (fun _ => ?_)
    refine r_guard rfl rfl rfl (fun h' => (Bool.noConfusion (g1.symm.trans h'))) (fun _ => ?_)
    refine r_op (o_pickF rfl rfl g1 rfl) ?_
    refine r_op (o_assign rfl rfl) ?_
    refine r_end ?_
    refine t_ret Try.func81 (.tmp rfl .nil) rfl fun E S w u hI hd => ?_
    refine post_mk hI hd ?_ trivial rfl rfl rfl <;> clear hI hd
    all_goals first | rfl | (simp_all <;> omega)
end Go.Eng
