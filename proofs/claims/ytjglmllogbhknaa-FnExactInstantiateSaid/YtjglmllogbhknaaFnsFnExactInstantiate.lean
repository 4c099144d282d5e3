/- What the functions that FnExactInstantiate reaches answer. -/
import Derived.Test.YtjglmllogbhknaaEngR
import Derived.Test.YtjglmllogbhknaaChecked
set_option linter.unusedVariables false
set_option linter.unusedSimpArgs false
namespace Go.Eng
open Go Go.RowKit Go.Proofs
set_option maxRecDepth 10000 in
theorem c_spec_l1In (a0 a1 a2 : Int) : Pu Try.prog 66 [.c (.t none (.v (.int .i64 (a0)))), .c (.t none (.v (.int .i64 (a1)))), .c (.t none (.v (.int .i64 (a2))))] [] 0 (.c (.t none (.v (.bool (decide (a1 ≤ a0 ∧ a0 ≤ a2)))))) := by
  refine pu_enter Try.func66 rfl (Nat.le_of_ble_eq_true rfl) fun w S => ?_
  refine t_seq ?_
  refine t_region ?_
  refine r_op (o_assign rfl rfl) ?_
  refine r_end ?_
  refine t_seq ?_
  refine t_region ?_
  refine r_op (o_move rfl rfl) ?_
  refine r_op (o_move rfl rfl) ?_
  refine r_op (o_bin rfl rfl rfl rfl) ?_
  refine r_op (o_move rfl rfl) ?_
  refine r_guard rfl rfl rfl (fun g1 => ?_) (fun g1 => ?_)
  ·
    have g1' := g1
    try simp only [decide_eq_true_eq, decide_eq_false_iff_not, Bool.not_eq_true', Bool.not_eq_false', Bool.not_false, Bool.not_true] at g1'
    refine r_op (o_move rfl rfl) ?_
    refine r_guard rfl rfl rfl (fun _ => ?_) (fun h' => (Bool.noConfusion (g1.symm.trans h')))
    refine r_op (o_move rfl rfl) ?_
    refine r_guard rfl rfl rfl (fun _ => ?_) (fun h' => (Bool.noConfusion (g1.symm.trans h')))
    refine r_op (o_bin rfl rfl rfl rfl) ?_
    refine r_op (o_pickT rfl rfl g1 rfl) ?_
    refine r_op (o_assign rfl rfl) ?_
    refine r_end ?_
    refine t_ret Try.func66 (.tmp rfl .nil) rfl fun E S w u hI hd => ?_
    refine post_mk hI hd ?_ trivial rfl rfl rfl <;> clear hI hd <;> (try clear ih)
    all_goals first | rfl | (simp_all <;> omega)
  ·
    have g1' := g1
    try simp only [decide_eq_true_eq, decide_eq_false_iff_not, Bool.not_eq_true', Bool.not_eq_false', Bool.not_false, Bool.not_true] at g1'
    refine r_guard rfl rfl rfl (fun h' => (Bool.noConfusion (g1.symm.trans h'))) (fun _ => ?_)
    refine r_guard rfl rfl rfl (fun h' => (Bool.noConfusion (g1.symm.trans h'))) (fun _ => ?_)
    refine r_op (o_pickF rfl rfl g1 rfl) ?_
    refine r_op (o_assign rfl rfl) ?_
    refine r_end ?_
    refine t_ret Try.func66 (.tmp rfl .nil) rfl fun E S w u hI hd => ?_
    refine post_mk hI hd ?_ trivial rfl rfl rfl <;> clear hI hd <;> (try clear ih)
    all_goals first | rfl | (simp_all <;> omega)
set_option maxRecDepth 10000 in
theorem c_spec_NullNumber (v : Int) (hv : -9223372036854775808 ≤ v) (hv2 : v ≤ 9223372036854775807) : Pu Try.prog 74 [.c (.t none (.v (.int .i64 (v))))] [] 0 (.tup [(false, [.t none (.v (.int .i64 (if -40 ≤ v ∧ v ≤ -1 then -1 - v else 0)))]), (false, [.t none (.v (.bool (decide (-40 ≤ v ∧ v ≤ -1))))])]) := by
  refine pu_enter Try.func74 rfl (Nat.le_of_ble_eq_true rfl) fun w S => ?_
  refine t_seq ?_
  refine t_region ?_
  refine r_op (o_assign rfl rfl) ?_
  refine r_op (o_assign rfl rfl) ?_
  refine r_end ?_
  refine t_seq ?_
  refine t_seq ?_
  refine t_region ?_
  refine r_op (o_move rfl rfl) ?_
  refine r_op (o_bin rfl rfl rfl rfl) ?_
  refine r_op (o_move rfl rfl) ?_
  refine r_guard rfl rfl rfl (fun g1 => ?_) (fun g1 => ?_)
  ·
    have g1' := g1
    try simp only [decide_eq_true_eq, decide_eq_false_iff_not, Bool.not_eq_true', Bool.not_eq_false', Bool.not_false, Bool.not_true] at g1'
    refine r_op (o_move rfl rfl) ?_
    refine r_guard rfl rfl rfl (fun _ => ?_) (fun h' => (Bool.noConfusion (g1.symm.trans h')))
    refine r_op (o_bin rfl rfl rfl rfl) ?_
    refine r_guard rfl rfl rfl (fun _ => ?_) (fun h' => (Bool.noConfusion (g1.symm.trans h')))
    refine r_op (o_call 0 0 false (Go.Proofs.enters_of Try.func66 (by kernel_rfl) rfl) (c_spec_l1In (IntKind.i64.wrap ((-1) - v)) (0) (39)) rfl (.cons rfl (.c .t0) (.cons rfl (.c .t0) (.cons rfl (.c .t0) .nil))) rfl rfl rfl) ?_
    refine r_guard rfl rfl rfl (fun _ => ?_) (fun h' => (Bool.noConfusion (g1.symm.trans h')))
    refine r_op (o_not rfl rfl) ?_
    refine r_op (o_pickF rfl rfl g1 rfl) ?_
    refine r_end ?_
    refine t_cond rfl (fun h2 => ?_) (fun h2 => ?_)
    ·
      have h2' := h2
      try simp only [decide_eq_true_eq, decide_eq_false_iff_not, Bool.not_eq_true', Bool.not_eq_false', Bool.not_false, Bool.not_true] at h2'
      refine t_seq ?_
      refine t_region ?_
      refine r_op (o_assign rfl rfl) ?_
      refine r_op (o_assign rfl rfl) ?_
      refine r_end ?_
      refine t_ret Try.func74 (.tmp rfl (.tmp rfl .nil)) rfl fun E S w u hI hd => ?_
      refine post_mk hI hd ?_ trivial rfl rfl rfl <;> clear hI hd <;> (try clear ih)
      all_goals first | rfl | (first | (have hn : ¬(-40 ≤ v ∧ v ≤ -1) := by (simp only [IntKind.wrap_i64] at *; omega)); (simp [hn]; done) | (have hn : (-40 ≤ v ∧ v ≤ -1) := by (simp only [IntKind.wrap_i64] at *; omega)); (have e : IntKind.i64.wrap (-1 - v) = -1 - v := wr64 (by omega) (by omega)); (simp [hn, e]; done))
    ·
      have h2' := h2
      try simp only [decide_eq_true_eq, decide_eq_false_iff_not, Bool.not_eq_true', Bool.not_eq_false', Bool.not_false, Bool.not_true] at h2'
      refine t_skip ?_
      refine t_seq ?_
      refine t_region ?_
      refine r_op (o_move rfl rfl) ?_
      refine r_op (o_bin rfl rfl rfl rfl) ?_
      refine r_op (o_assign rfl rfl) ?_
      refine r_op (o_assign rfl rfl) ?_
      refine r_end ?_
      refine t_ret Try.func74 (.tmp rfl (.tmp rfl .nil)) rfl fun E S w u hI hd => ?_
      refine post_mk hI hd ?_ trivial rfl rfl rfl <;> clear hI hd <;> (try clear ih)
      all_goals first | rfl | (first | (have hn : ¬(-40 ≤ v ∧ v ≤ -1) := by (simp only [IntKind.wrap_i64] at *; omega)); (simp [hn]; done) | (have hn : (-40 ≤ v ∧ v ≤ -1) := by (simp only [IntKind.wrap_i64] at *; omega)); (have e : IntKind.i64.wrap (-1 - v) = -1 - v := wr64 (by omega) (by omega)); (simp [hn, e]; done))
  ·
    have g1' := g1
    try simp only [decide_eq_true_eq, decide_eq_false_iff_not, Bool.not_eq_true', Bool.not_eq_false', Bool.not_false, Bool.not_true] at g1'
    refine r_guard rfl rfl rfl (fun h' => (Bool.noConfusion (g1.symm.trans h'))) (fun _ => ?_)
    refine r_guard rfl rfl rfl (fun h' => (Bool.noConfusion (g1.symm.trans h'))) (fun _ => ?_)
    refine r_guard rfl rfl rfl (fun h' => (Bool.noConfusion (g1.symm.trans h'))) (fun _ => ?_)
    refine r_op (o_pickT rfl rfl g1 rfl) ?_
    refine r_end ?_
    refine t_cond rfl (fun _ => ?_) (fun h' => Bool.noConfusion (rfl.symm.trans h'))
    refine t_seq ?_
    refine t_region ?_
    refine r_op (o_assign rfl rfl) ?_
    refine r_op (o_assign rfl rfl) ?_
    refine r_end ?_
    refine t_ret Try.func74 (.tmp rfl (.tmp rfl .nil)) rfl fun E S w u hI hd => ?_
    refine post_mk hI hd ?_ trivial rfl rfl rfl <;> clear hI hd <;> (try clear ih)
    all_goals first | rfl | (first | (have hn : ¬(-40 ≤ v ∧ v ≤ -1) := by (simp only [IntKind.wrap_i64] at *; omega)); (simp [hn]; done) | (have hn : (-40 ≤ v ∧ v ≤ -1) := by (simp only [IntKind.wrap_i64] at *; omega)); (have e : IntKind.i64.wrap (-1 - v) = -1 - v := wr64 (by omega) (by omega)); (simp [hn, e]; done))
set_option maxRecDepth 10000 in
theorem c_spec_IsValidValue (v : Int) (hv : -9223372036854775808 ≤ v) (hv2 : v ≤ 9223372036854775807) : Pu Try.prog 84 [.c (.t none (.v (.int .i64 (v))))] [] 0 (.c (.t none (.v (.bool (decide (-40 ≤ v ∧ v ≤ 9)))))) := by
  refine pu_enter Try.func84 rfl (Nat.le_of_ble_eq_true rfl) fun w S => ?_
  refine t_seq ?_
  refine t_region ?_
  refine r_op (o_assign rfl rfl) ?_
  refine r_end ?_
  refine t_seq ?_
  refine t_region ?_
  refine r_op (o_move rfl rfl) ?_
  refine r_op (o_call 0 0 false (Go.Proofs.enters_of Try.func74 (by kernel_rfl) rfl) (c_spec_NullNumber (v) (by first | omega | (simp; omega)) (by first | omega | (simp; omega))) rfl (.cons rfl (.c .t0) .nil) rfl rfl rfl) ?_
  refine r_op (o_move rfl rfl) ?_
  refine r_op (o_extract rfl rfl rfl rfl) ?_
  refine r_op (o_extract rfl rfl rfl rfl) ?_
  refine r_op (o_assign rfl rfl) ?_
  refine r_op (o_assign rfl rfl) ?_
  refine r_end ?_
  refine t_seq ?_
  refine t_region ?_
  refine r_op (o_move rfl rfl) ?_
  refine r_op (o_move rfl rfl) ?_
  refine r_guard rfl rfl rfl (fun g1 => ?_) (fun g1 => ?_)
  ·
    have g1' := g1
    try simp only [decide_eq_true_eq, decide_eq_false_iff_not, Bool.not_eq_true', Bool.not_eq_false', Bool.not_false, Bool.not_true] at g1'
    refine r_op (o_move rfl rfl) ?_
    refine r_guard rfl rfl rfl (fun _ => ?_) (fun h' => (Bool.noConfusion (g1.symm.trans h')))
    refine r_op (o_call 0 0 false (Go.Proofs.enters_of Try.func66 (by kernel_rfl) rfl) (c_spec_l1In (v) (0) (9)) rfl (.cons rfl (.c .t0) (.cons rfl (.c .t0) (.cons rfl (.c .t0) .nil))) rfl rfl rfl) ?_
    refine r_op (o_pickF rfl rfl g1 rfl) ?_
    refine r_op (o_assign rfl rfl) ?_
    refine r_end ?_
    refine t_ret Try.func84 (.tmp rfl .nil) rfl fun E S w u hI hd => ?_
    refine post_mk hI hd ?_ trivial rfl rfl rfl <;> clear hI hd <;> (try clear ih)
    all_goals first | rfl | (first | exact scD (by omega) | exact scTrue (by omega) | exact scFalse (by omega))
  ·
    have g1' := g1
    try simp only [decide_eq_true_eq, decide_eq_false_iff_not, Bool.not_eq_true', Bool.not_eq_false', Bool.not_false, Bool.not_true] at g1'
    refine r_guard rfl rfl rfl (fun h' => (Bool.noConfusion (g1.symm.trans h'))) (fun _ => ?_)
    refine r_op (o_pickT rfl rfl g1 rfl) ?_
    refine r_op (o_assign rfl rfl) ?_
    refine r_end ?_
    refine t_ret Try.func84 (.tmp rfl .nil) rfl fun E S w u hI hd => ?_
    refine post_mk hI hd ?_ trivial rfl rfl rfl <;> clear hI hd <;> (try clear ih)
    all_goals first | rfl | (first | exact scD (by omega) | exact scTrue (by omega) | exact scFalse (by omega))
def ob_c_spec_Instantiate : Option (List Int) → List (Nat × Option Ob)
  | none => []
  | some q => [(3, some (.row none 3 true 1 encI (q)))]
def res_c_spec_Instantiate (r : Int) (ts : List Int) (b : List Int) : Option (List Int) → AV
  | none => .tup [(true, [.t none (.v (.int .i64 (0))), .t none (.v (.slice none 0 0))]), (false, [.t none (.v (.bool (false)))])]
  | some q => .tup [(true, [.t none (.v (.int .i64 (r))), .own 3]), (false, [.t none (.v (.bool (true)))])]
set_option maxRecDepth 10000 in
theorem c_spec_Instantiate (r : Int) (ts : List Int) (b : List Int) (hl : ts.length ≤ 1048576) (ho : ∀ x ∈ ts, okI x) (hob : ∀ x ∈ b, okI x) (mo : Option (List Int)) (hm : instV b ts = mo) : Pu Try.prog 43 [.agg [.t none (.v (.int .i64 (r))), .t none (.sl 1 encI (ts))], .c (.t none (.sl 1 encI (b)))] (ob_c_spec_Instantiate mo) 4 (res_c_spec_Instantiate r ts b mo) := by
  refine pu_enter Try.func43 rfl (Nat.le_of_ble_eq_true rfl) fun w S => ?_
  refine t_seq ?_
  refine t_region ?_
  refine r_op (o_box 0 rfl rfl rfl rfl) ?_
  refine r_op (o_alloc 1 (zs := [.int .i64 (0), .slice none 0 0]) rfl rfl (by kernel_rfl) rfl) ?_
  refine r_op (o_assign rfl rfl) ?_
  refine r_end ?_
  refine t_seq ?_
  refine t_region ?_
  refine r_op (o_fieldb rfl (off := 0) (by kernel_rfl) rfl) ?_
  refine r_op (o_load1b rfl (by kernel_rfl) rfl rfl rfl) ?_
  refine r_op (o_build rfl (pl := [(0, 1), (1, 1)]) (zs := [.int .i64 (0), .slice none 0 0]) (by kernel_rfl) (by kernel_rfl) rfl rfl rfl) ?_
  refine r_op (o_alloc 2 (zs := [.int .i64 (0), .slice none 0 0]) rfl rfl (by kernel_rfl) rfl) ?_
  refine r_op (o_storeb (n := 2) (by kernel_rfl) rfl rfl rfl rfl rfl rfl) ?_
  refine r_end ?_
  refine t_seq ?_
  refine t_seq ?_
  refine t_region ?_
  refine r_op (o_assign rfl rfl) ?_
  refine r_end ?_
  refine t_block ?_
  refine gt_nilb 3 (b := 2) (o := 1) (et := 3) (sz := 1) true encI rfl rfl rfl ?_
  refine t_loopL (fun (m, acc) => ⟨[(1, some (.c (.t none (.sl 1 encI (b))))), (2, some (.c (.ptr 0 0))), (4, some (.c (.ptr 1 0))), (6, some (.c (.ptr 2 0))), (7, some (.c (.t none (.v (.int .i64 ((m : Int)))))))], [(0, some (.box [.t none (.v (.int .i64 (r))), .t none (.sl 1 encI (ts))])), (1, some (.box [.t none (.v (.int .i64 (0))), .t none (.v (.slice none 0 0))])), (2, some (.box [.t none (.v (.int .i64 (r))), .own 3])), (3, some (.row none 3 true 1 encI (acc)))], 4⟩ : Nat × List Int → St) (fun (m, acc) => m ≤ ts.length ∧ instV b (ts.take m) = some acc) (fun (m, acc) => ts.length - m) (0, []) ⟨⟨rfl, ⟨rfl, ⟨rfl, ⟨rfl, ⟨rfl, trivial⟩⟩⟩⟩⟩, ⟨rfl, ⟨rfl, ⟨rfl, ⟨rfl, trivial⟩⟩⟩⟩, rfl⟩ (by exact ⟨Nat.zero_le _, rfl⟩) ?_
  rintro ⟨m, acc⟩ hI ih
  try dsimp only at hI ih
  obtain ⟨i1, i2⟩ := hI
  refine t_seq ?_
  refine t_seq ?_
  refine t_region ?_
  refine r_op (o_move rfl rfl) ?_
  refine r_op (o_fieldb rfl (off := 1) (by kernel_rfl) rfl) ?_
  refine r_op (o_load1b rfl (by kernel_rfl) rfl rfl rfl) ?_
  refine r_op (o_len rfl rfl rfl) ?_
  refine r_op (o_bin rfl rfl rfl rfl) ?_
  refine r_end ?_
  refine t_cond rfl (fun h1 => ?_) (fun h1 => ?_)
  ·
    have h1' := h1
    try simp only [decide_eq_true_eq, decide_eq_false_iff_not, Bool.not_eq_true', Bool.not_eq_false', Bool.not_false, Bool.not_true] at h1'
    refine t_skip ?_
    refine t_seq ?_
    refine t_block ?_
    refine t_seq ?_
    refine t_region ?_
    refine r_op (o_fieldb rfl (off := 1) (by kernel_rfl) rfl) ?_
    refine r_op (o_load1b rfl (by kernel_rfl) rfl rfl rfl) ?_
    refine r_op (o_move rfl rfl) ?_
    obtain ⟨z2, hz3, b4⟩ := at_get (xs := ts) (n := (m : Int)) (by first | omega | (simp; omega) | exact wr_lo _ | exact wr_hi _ | exact (hob _ (List.mem_of_getElem? (by assumption))).1 | exact (hob _ (List.mem_of_getElem? (by assumption))).2 | (have := instV_len i2; simp at this; omega)) (by first | omega | (simp; omega) | exact wr_lo _ | exact wr_hi _ | exact (hob _ (List.mem_of_getElem? (by assumption))).1 | exact (hob _ (List.mem_of_getElem? (by assumption))).2 | (have := instV_len i2; simp at this; omega))
    refine r_op (o_index rfl (by kernel_rfl) rfl rfl b4 hz3) ?_
    refine r_op (o_load1 rfl (by kernel_rfl) rfl rfl) ?_
    refine r_op (o_bin rfl rfl rfl rfl) ?_
    refine r_op (o_assign rfl rfl) ?_
    refine r_end ?_
    refine t_seq ?_
    refine t_seq ?_
    refine t_region ?_
    refine r_op (o_fieldb rfl (off := 1) (by kernel_rfl) rfl) ?_
    refine r_op (o_load1b rfl (by kernel_rfl) rfl rfl rfl) ?_
    refine r_op (o_move rfl rfl) ?_
    refine r_op (o_index rfl (by kernel_rfl) rfl rfl b4 hz3) ?_
    refine r_op (o_load1 rfl (by kernel_rfl) rfl rfl) ?_
    refine r_op (o_bin rfl rfl rfl rfl) ?_
    refine r_end ?_
    refine t_cond rfl (fun h5 => ?_) (fun h5 => ?_)
    ·
      have h5' := h5
      try simp only [decide_eq_true_eq, decide_eq_false_iff_not, Bool.not_eq_true', Bool.not_eq_false', Bool.not_false, Bool.not_true] at h5'
      refine t_seq ?_
      refine t_seq ?_
      refine t_region ?_
      refine r_op (o_fieldb rfl (off := 1) (by kernel_rfl) rfl) ?_
      refine r_op (o_load1b rfl (by kernel_rfl) rfl rfl rfl) ?_
      refine r_op (o_move rfl rfl) ?_
      refine r_op (o_index rfl (by kernel_rfl) rfl rfl b4 hz3) ?_
      refine r_op (o_load1 rfl (by kernel_rfl) rfl rfl) ?_
      refine r_op (o_move rfl rfl) ?_
      refine r_op (o_len rfl rfl rfl) ?_
      refine r_op (o_bin rfl rfl rfl rfl) ?_
      refine r_end ?_
      refine t_cond rfl (fun h6 => ?_) (fun h6 => ?_)
      ·
        have h6' := h6
        try simp only [decide_eq_true_eq, decide_eq_false_iff_not, Bool.not_eq_true', Bool.not_eq_false', Bool.not_false, Bool.not_true] at h6'
        refine t_seq ?_
        refine t_region ?_
        refine r_op (o_build rfl (pl := [(0, 1), (1, 1)]) (zs := [.int .i64 (0), .slice none 0 0]) (by kernel_rfl) (by kernel_rfl) rfl rfl rfl) ?_
        refine r_op (o_storeb (n := 2) (by kernel_rfl) rfl rfl rfl rfl rfl rfl) ?_
        refine r_op (o_assign rfl rfl) ?_
        refine r_end ?_
        refine t_ret Try.func43 (.cells (n := 2) (by kernel_rfl) (by kernel_rfl) rfl rfl rfl (.tmp rfl .nil)) rfl fun E S w u hI hd => ?_
        obtain rfl : mo = none := by rw [← hm]; exact inst_none i2 (by assumption) rfl (inst_far (by assumption) (by assumption))
        refine post_mk hI hd ?_ trivial rfl rfl rfl <;> clear hI hd <;> (try clear ih)
        all_goals first | rfl | (rfl)
      ·
        have h6' := h6
        try simp only [decide_eq_true_eq, decide_eq_false_iff_not, Bool.not_eq_true', Bool.not_eq_false', Bool.not_false, Bool.not_true] at h6'
        refine t_skip ?_
        refine t_region ?_
        refine r_op (o_move rfl rfl) ?_
        refine r_op (o_fieldb rfl (off := 1) (by kernel_rfl) rfl) ?_
        refine r_op (o_load1b rfl (by kernel_rfl) rfl rfl rfl) ?_
        refine r_op (o_move rfl rfl) ?_
        refine r_op (o_index rfl (by kernel_rfl) rfl rfl b4 hz3) ?_
        refine r_op (o_load1 rfl (by kernel_rfl) rfl rfl) ?_
        obtain ⟨z7, hz8, b9⟩ := at_get (xs := b) (n := z2) (by first | omega | (simp; omega) | exact wr_lo _ | exact wr_hi _ | exact (hob _ (List.mem_of_getElem? (by assumption))).1 | exact (hob _ (List.mem_of_getElem? (by assumption))).2 | (have := instV_len i2; simp at this; omega)) (by first | omega | (simp; omega) | exact wr_lo _ | exact wr_hi _ | exact (hob _ (List.mem_of_getElem? (by assumption))).1 | exact (hob _ (List.mem_of_getElem? (by assumption))).2 | (have := instV_len i2; simp at this; omega))
        refine r_op (o_index rfl (by kernel_rfl) rfl rfl b9 hz8) ?_
        refine r_op (o_load1 rfl (by kernel_rfl) rfl rfl) ?_
        refine r_op (o_assign rfl rfl) ?_
        refine r_end ?_
        refine t_seq ?_
        refine t_seq ?_
        refine t_region ?_
        refine r_op (o_move rfl rfl) ?_
        refine r_op (o_call 4 4 false (Go.Proofs.enters_of Try.func84 (by kernel_rfl) rfl) (c_spec_IsValidValue (z7) (by first | omega | (simp; omega) | exact wr_lo _ | exact wr_hi _ | exact (hob _ (List.mem_of_getElem? (by assumption))).1 | exact (hob _ (List.mem_of_getElem? (by assumption))).2 | (have := instV_len i2; simp at this; omega)) (by first | omega | (simp; omega) | exact wr_lo _ | exact wr_hi _ | exact (hob _ (List.mem_of_getElem? (by assumption))).1 | exact (hob _ (List.mem_of_getElem? (by assumption))).2 | (have := instV_len i2; simp at this; omega))) rfl (.cons rfl (.c .t0) .nil) rfl rfl rfl) ?_
        refine r_op (o_not rfl rfl) ?_
        refine r_op (o_move rfl rfl) ?_
        refine r_guard rfl rfl rfl (fun g10 => ?_) (fun g10 => ?_)
        ·
          have g10' := g10
          try simp only [decide_eq_true_eq, decide_eq_false_iff_not, Bool.not_eq_true', Bool.not_eq_false', Bool.not_false, Bool.not_true] at g10'
          refine r_op (o_fieldb rfl (off := 1) (by kernel_rfl) rfl) ?_
          refine r_guard rfl rfl rfl (fun _ => ?_) (fun h' => (Bool.noConfusion (g10.symm.trans h')))
          refine r_op (o_load1b rfl (by kernel_rfl) rfl rfl rfl) ?_
          refine r_guard rfl rfl rfl (fun _ => ?_) (fun h' => (Bool.noConfusion (g10.symm.trans h')))
          refine r_op (o_move rfl rfl) ?_
          refine r_guard rfl rfl rfl (fun _ => ?_) (fun h' => (Bool.noConfusion (g10.symm.trans h')))
          refine r_op (o_index rfl (by kernel_rfl) rfl rfl b4 hz3) ?_
          refine r_guard rfl rfl rfl (fun _ => ?_) (fun h' => (Bool.noConfusion (g10.symm.trans h')))
          refine r_op (o_load1 rfl (by kernel_rfl) rfl rfl) ?_
          refine r_guard rfl rfl rfl (fun _ => ?_) (fun h' => (Bool.noConfusion (g10.symm.trans h')))
          refine r_op (o_bin rfl rfl rfl rfl) ?_
          refine r_guard rfl rfl rfl (fun _ => ?_) (fun h' => (Bool.noConfusion (g10.symm.trans h')))
          refine r_op (o_move rfl rfl) ?_
          refine r_guard rfl rfl rfl (fun g11 => ?_) (fun g11 => ?_)
          ·
            have g11' := g11
            try simp only [decide_eq_true_eq, decide_eq_false_iff_not, Bool.not_eq_true', Bool.not_eq_false', Bool.not_false, Bool.not_true] at g11'
            refine r_op (o_move rfl rfl) ?_
            refine r_guard rfl rfl rfl (fun _ => ?_) (fun h' => (Bool.noConfusion (g11.symm.trans h')))
            refine r_op (o_bin rfl rfl rfl rfl) ?_
            refine r_guard rfl rfl rfl (fun _ => ?_) (fun h' => (Bool.noConfusion (g10.symm.trans h')))
            refine r_op (o_pickT rfl rfl g11 rfl) ?_
            refine r_op (o_pickF rfl rfl g10 rfl) ?_
            refine r_end ?_
            refine t_cond rfl (fun h12 => ?_) (fun h12 => ?_)
            ·
              have h12' := h12
              try simp only [decide_eq_true_eq, decide_eq_false_iff_not, Bool.not_eq_true', Bool.not_eq_false', Bool.not_false, Bool.not_true] at h12'
              refine t_seq ?_
              refine t_region ?_
              refine r_op (o_build rfl (pl := [(0, 1), (1, 1)]) (zs := [.int .i64 (0), .slice none 0 0]) (by kernel_rfl) (by kernel_rfl) rfl rfl rfl) ?_
              refine r_op (o_storeb (n := 2) (by kernel_rfl) rfl rfl rfl rfl rfl rfl) ?_
              refine r_op (o_assign rfl rfl) ?_
              refine r_end ?_
              refine t_ret Try.func43 (.cells (n := 2) (by kernel_rfl) (by kernel_rfl) rfl rfl rfl (.tmp rfl .nil)) rfl fun E S w u hI hd => ?_
              obtain rfl : mo = none := by exfalso; have e := ho _ (List.mem_of_getElem? (l := ts) (by assumption)); unfold okI at e; simp only [IntKind.wrap_i64] at *; omega
              refine post_mk hI hd ?_ trivial rfl rfl rfl <;> clear hI hd <;> (try clear ih)
              all_goals first | rfl | (rfl)
            ·
              have h12' := h12
              try simp only [decide_eq_true_eq, decide_eq_false_iff_not, Bool.not_eq_true', Bool.not_eq_false', Bool.not_false, Bool.not_true] at h12'
              refine t_skip ?_
              refine t_region ?_
              refine r_op (o_fieldb rfl (off := 1) (by kernel_rfl) rfl) ?_
              refine r_op (o_load1b rfl (by kernel_rfl) rfl rfl rfl) ?_
              refine r_op (o_move rfl rfl) ?_
              refine r_op (o_litS 4 (e := 3) (sz := 1) (zs := [.int .i64 (0)]) rfl rfl (by kernel_rfl) rfl rfl rfl rfl rfl) ?_
              refine r_op (o_append 3 (e := 3) (sz := 1) (by' := 8) (z7) rfl (by kernel_rfl) rfl rfl rfl rfl rfl rfl (.cons .sc .nil) rfl (by first | omega | (simp; omega) | exact wr_lo _ | exact wr_hi _ | exact (hob _ (List.mem_of_getElem? (by assumption))).1 | exact (hob _ (List.mem_of_getElem? (by assumption))).2 | (have := instV_len i2; simp at this; omega)) (by first | omega | (simp; omega) | exact wr_lo _ | exact wr_hi _ | exact (hob _ (List.mem_of_getElem? (by assumption))).1 | exact (hob _ (List.mem_of_getElem? (by assumption))).2 | (have := instV_len i2; simp at this; omega))) ?_
              refine r_op (o_fieldb rfl (off := 1) (by kernel_rfl) rfl) ?_
              refine r_op (o_storeb (n := 1) (by kernel_rfl) rfl rfl rfl rfl rfl rfl) ?_
              refine r_end ?_
              refine t_endblock ?_
              refine t_region ?_
              refine r_op (o_move rfl rfl) ?_
              refine r_op (o_bin rfl rfl rfl rfl) ?_
              refine r_op (o_assign rfl rfl) ?_
              refine r_end ?_
              refine t_le ?_ (ih (m + 1, acc ++ [z7]) (by (try dsimp only); omega) (by (try dsimp only); exact ⟨by omega, by exfalso; omega⟩))
              exact ⟨⟨rfl, ⟨rfl, ⟨rfl, ⟨rfl, ⟨(eqI (wrS (by omega))), trivial⟩⟩⟩⟩⟩, ⟨rfl, ⟨rfl, ⟨rfl, ⟨rfl, trivial⟩⟩⟩⟩, rfl⟩
          ·
            have g11' := g11
            try simp only [decide_eq_true_eq, decide_eq_false_iff_not, Bool.not_eq_true', Bool.not_eq_false', Bool.not_false, Bool.not_true] at g11'
            refine r_guard rfl rfl rfl (fun h' => (Bool.noConfusion (g11.symm.trans h'))) (fun _ => ?_)
            refine r_guard rfl rfl rfl (fun _ => ?_) (fun h' => (Bool.noConfusion (g10.symm.trans h')))
            refine r_op (o_pickF rfl rfl g11 rfl) ?_
            refine r_op (o_pickF rfl rfl g10 rfl) ?_
            refine r_end ?_
            refine t_cond rfl (fun h' => Bool.noConfusion (rfl.symm.trans h')) (fun _ => ?_)
            refine t_skip ?_
            refine t_region ?_
            refine r_op (o_fieldb rfl (off := 1) (by kernel_rfl) rfl) ?_
            refine r_op (o_load1b rfl (by kernel_rfl) rfl rfl rfl) ?_
            refine r_op (o_move rfl rfl) ?_
            refine r_op (o_litS 4 (e := 3) (sz := 1) (zs := [.int .i64 (0)]) rfl rfl (by kernel_rfl) rfl rfl rfl rfl rfl) ?_
            refine r_op (o_append 3 (e := 3) (sz := 1) (by' := 8) (z7) rfl (by kernel_rfl) rfl rfl rfl rfl rfl rfl (.cons .sc .nil) rfl (by first | omega | (simp; omega) | exact wr_lo _ | exact wr_hi _ | exact (hob _ (List.mem_of_getElem? (by assumption))).1 | exact (hob _ (List.mem_of_getElem? (by assumption))).2 | (have := instV_len i2; simp at this; omega)) (by first | omega | (simp; omega) | exact wr_lo _ | exact wr_hi _ | exact (hob _ (List.mem_of_getElem? (by assumption))).1 | exact (hob _ (List.mem_of_getElem? (by assumption))).2 | (have := instV_len i2; simp at this; omega))) ?_
            refine r_op (o_fieldb rfl (off := 1) (by kernel_rfl) rfl) ?_
            refine r_op (o_storeb (n := 1) (by kernel_rfl) rfl rfl rfl rfl rfl rfl) ?_
            refine r_end ?_
            refine t_endblock ?_
            refine t_region ?_
            refine r_op (o_move rfl rfl) ?_
            refine r_op (o_bin rfl rfl rfl rfl) ?_
            refine r_op (o_assign rfl rfl) ?_
            refine r_end ?_
            refine t_le ?_ (ih (m + 1, acc ++ [z7]) (by (try dsimp only); omega) (by (try dsimp only); exact ⟨by omega, inst_step i2 (by assumption) rfl (inst_good (by assumption) (by assumption) (by assumption))⟩))
            exact ⟨⟨rfl, ⟨rfl, ⟨rfl, ⟨rfl, ⟨(eqI (wrS (by omega))), trivial⟩⟩⟩⟩⟩, ⟨rfl, ⟨rfl, ⟨rfl, ⟨rfl, trivial⟩⟩⟩⟩, rfl⟩
        ·
          have g10' := g10
          try simp only [decide_eq_true_eq, decide_eq_false_iff_not, Bool.not_eq_true', Bool.not_eq_false', Bool.not_false, Bool.not_true] at g10'
          refine r_guard rfl rfl rfl (fun h' => (Bool.noConfusion (g10.symm.trans h'))) (fun _ => ?_)
          refine r_guard rfl rfl rfl (fun h' => (Bool.noConfusion (g10.symm.trans h'))) (fun _ => ?_)
          refine r_guard rfl rfl rfl (fun h' => (Bool.noConfusion (g10.symm.trans h'))) (fun _ => ?_)
          refine r_guard rfl rfl rfl (fun h' => (Bool.noConfusion (g10.symm.trans h'))) (fun _ => ?_)
          refine r_guard rfl rfl rfl (fun h' => (Bool.noConfusion (g10.symm.trans h'))) (fun _ => ?_)
          refine r_guard rfl rfl rfl (fun h' => (Bool.noConfusion (g10.symm.trans h'))) (fun _ => ?_)
          refine r_skip rfl rfl rfl ?_
          refine r_skip rfl rfl rfl ?_
          refine r_guard rfl rfl rfl (fun h' => (Bool.noConfusion (g10.symm.trans h'))) (fun _ => ?_)
          refine r_op (o_pickT rfl rfl g10 rfl) ?_
          refine r_end ?_
          refine t_cond rfl (fun _ => ?_) (fun h' => Bool.noConfusion (rfl.symm.trans h'))
          refine t_seq ?_
          refine t_region ?_
          refine r_op (o_build rfl (pl := [(0, 1), (1, 1)]) (zs := [.int .i64 (0), .slice none 0 0]) (by kernel_rfl) (by kernel_rfl) rfl rfl rfl) ?_
          refine r_op (o_storeb (n := 2) (by kernel_rfl) rfl rfl rfl rfl rfl rfl) ?_
          refine r_op (o_assign rfl rfl) ?_
          refine r_end ?_
          refine t_ret Try.func43 (.cells (n := 2) (by kernel_rfl) (by kernel_rfl) rfl rfl rfl (.tmp rfl .nil)) rfl fun E S w u hI hd => ?_
          obtain rfl : mo = none := by rw [← hm]; exact inst_none i2 (by assumption) rfl (inst_bad (by assumption) (by assumption) (by assumption))
          refine post_mk hI hd ?_ trivial rfl rfl rfl <;> clear hI hd <;> (try clear ih)
          all_goals first | rfl | (rfl)
    ·
      have h5' := h5
      try simp only [decide_eq_true_eq, decide_eq_false_iff_not, Bool.not_eq_true', Bool.not_eq_false', Bool.not_false, Bool.not_true] at h5'
      refine t_skip ?_
      refine t_seq ?_
      refine t_seq ?_
      refine t_region ?_
      refine r_op (o_move rfl rfl) ?_
      refine r_op (o_call 4 4 false (Go.Proofs.enters_of Try.func84 (by kernel_rfl) rfl) (c_spec_IsValidValue (IntKind.i64.wrap ((-1) - z2)) (by first | omega | (simp; omega) | exact wr_lo _ | exact wr_hi _ | exact (hob _ (List.mem_of_getElem? (by assumption))).1 | exact (hob _ (List.mem_of_getElem? (by assumption))).2 | (have := instV_len i2; simp at this; omega)) (by first | omega | (simp; omega) | exact wr_lo _ | exact wr_hi _ | exact (hob _ (List.mem_of_getElem? (by assumption))).1 | exact (hob _ (List.mem_of_getElem? (by assumption))).2 | (have := instV_len i2; simp at this; omega))) rfl (.cons rfl (.c .t0) .nil) rfl rfl rfl) ?_
      refine r_op (o_not rfl rfl) ?_
      refine r_op (o_move rfl rfl) ?_
      refine r_guard rfl rfl rfl (fun g13 => ?_) (fun g13 => ?_)
      ·
        have g13' := g13
        try simp only [decide_eq_true_eq, decide_eq_false_iff_not, Bool.not_eq_true', Bool.not_eq_false', Bool.not_false, Bool.not_true] at g13'
        refine r_op (o_fieldb rfl (off := 1) (by kernel_rfl) rfl) ?_
        refine r_guard rfl rfl rfl (fun _ => ?_) (fun h' => (Bool.noConfusion (g13.symm.trans h')))
        refine r_op (o_load1b rfl (by kernel_rfl) rfl rfl rfl) ?_
        refine r_guard rfl rfl rfl (fun _ => ?_) (fun h' => (Bool.noConfusion (g13.symm.trans h')))
        refine r_op (o_move rfl rfl) ?_
        refine r_guard rfl rfl rfl (fun _ => ?_) (fun h' => (Bool.noConfusion (g13.symm.trans h')))
        refine r_op (o_index rfl (by kernel_rfl) rfl rfl b4 hz3) ?_
        refine r_guard rfl rfl rfl (fun _ => ?_) (fun h' => (Bool.noConfusion (g13.symm.trans h')))
        refine r_op (o_load1 rfl (by kernel_rfl) rfl rfl) ?_
        refine r_guard rfl rfl rfl (fun _ => ?_) (fun h' => (Bool.noConfusion (g13.symm.trans h')))
        refine r_op (o_bin rfl rfl rfl rfl) ?_
        refine r_guard rfl rfl rfl (fun _ => ?_) (fun h' => (Bool.noConfusion (g13.symm.trans h')))
        refine r_op (o_move rfl rfl) ?_
        refine r_guard rfl rfl rfl (fun g14 => ?_) (fun g14 => ?_)
        ·
          have g14' := g14
          try simp only [decide_eq_true_eq, decide_eq_false_iff_not, Bool.not_eq_true', Bool.not_eq_false', Bool.not_false, Bool.not_true] at g14'
          refine r_op (o_move rfl rfl) ?_
          refine r_guard rfl rfl rfl (fun _ => ?_) (fun h' => (Bool.noConfusion (g14.symm.trans h')))
          refine r_op (o_bin rfl rfl rfl rfl) ?_
          refine r_guard rfl rfl rfl (fun _ => ?_) (fun h' => (Bool.noConfusion (g13.symm.trans h')))
          refine r_op (o_pickT rfl rfl g14 rfl) ?_
          refine r_op (o_pickF rfl rfl g13 rfl) ?_
          refine r_end ?_
          refine t_cond rfl (fun h15 => ?_) (fun h15 => ?_)
          ·
            have h15' := h15
            try simp only [decide_eq_true_eq, decide_eq_false_iff_not, Bool.not_eq_true', Bool.not_eq_false', Bool.not_false, Bool.not_true] at h15'
            refine t_seq ?_
            refine t_region ?_
            refine r_op (o_build rfl (pl := [(0, 1), (1, 1)]) (zs := [.int .i64 (0), .slice none 0 0]) (by kernel_rfl) (by kernel_rfl) rfl rfl rfl) ?_
            refine r_op (o_storeb (n := 2) (by kernel_rfl) rfl rfl rfl rfl rfl rfl) ?_
            refine r_op (o_assign rfl rfl) ?_
            refine r_end ?_
            refine t_ret Try.func43 (.cells (n := 2) (by kernel_rfl) (by kernel_rfl) rfl rfl rfl (.tmp rfl .nil)) rfl fun E S w u hI hd => ?_
            obtain rfl : mo = none := by exfalso; have e := ho _ (List.mem_of_getElem? (l := ts) (by assumption)); unfold okI at e; simp only [IntKind.wrap_i64] at *; omega
            refine post_mk hI hd ?_ trivial rfl rfl rfl <;> clear hI hd <;> (try clear ih)
            all_goals first | rfl | (rfl)
          ·
            have h15' := h15
            try simp only [decide_eq_true_eq, decide_eq_false_iff_not, Bool.not_eq_true', Bool.not_eq_false', Bool.not_false, Bool.not_true] at h15'
            refine t_skip ?_
            refine t_region ?_
            refine r_op (o_fieldb rfl (off := 1) (by kernel_rfl) rfl) ?_
            refine r_op (o_load1b rfl (by kernel_rfl) rfl rfl rfl) ?_
            refine r_op (o_move rfl rfl) ?_
            refine r_op (o_litS 4 (e := 3) (sz := 1) (zs := [.int .i64 (0)]) rfl rfl (by kernel_rfl) rfl rfl rfl rfl rfl) ?_
            refine r_op (o_append 3 (e := 3) (sz := 1) (by' := 8) (IntKind.i64.wrap ((-1) - z2)) rfl (by kernel_rfl) rfl rfl rfl rfl rfl rfl (.cons .sc .nil) rfl (by first | omega | (simp; omega) | exact wr_lo _ | exact wr_hi _ | exact (hob _ (List.mem_of_getElem? (by assumption))).1 | exact (hob _ (List.mem_of_getElem? (by assumption))).2 | (have := instV_len i2; simp at this; omega)) (by first | omega | (simp; omega) | exact wr_lo _ | exact wr_hi _ | exact (hob _ (List.mem_of_getElem? (by assumption))).1 | exact (hob _ (List.mem_of_getElem? (by assumption))).2 | (have := instV_len i2; simp at this; omega))) ?_
            refine r_op (o_fieldb rfl (off := 1) (by kernel_rfl) rfl) ?_
            refine r_op (o_storeb (n := 1) (by kernel_rfl) rfl rfl rfl rfl rfl rfl) ?_
            refine r_end ?_
            refine t_endblock ?_
            refine t_region ?_
            refine r_op (o_move rfl rfl) ?_
            refine r_op (o_bin rfl rfl rfl rfl) ?_
            refine r_op (o_assign rfl rfl) ?_
            refine r_end ?_
            refine t_le ?_ (ih (m + 1, acc ++ [IntKind.i64.wrap ((-1) - z2)]) (by (try dsimp only); omega) (by (try dsimp only); exact ⟨by omega, inst_step i2 (by assumption) rfl (inst_goodn (by omega) (ho _ (List.mem_of_getElem? (by assumption))).1 (by assumption))⟩))
            exact ⟨⟨rfl, ⟨rfl, ⟨rfl, ⟨rfl, ⟨(eqI (wrS (by omega))), trivial⟩⟩⟩⟩⟩, ⟨rfl, ⟨rfl, ⟨rfl, ⟨rfl, trivial⟩⟩⟩⟩, rfl⟩
        ·
          have g14' := g14
          try simp only [decide_eq_true_eq, decide_eq_false_iff_not, Bool.not_eq_true', Bool.not_eq_false', Bool.not_false, Bool.not_true] at g14'
          refine r_guard rfl rfl rfl (fun h' => (Bool.noConfusion (g14.symm.trans h'))) (fun _ => ?_)
          refine r_guard rfl rfl rfl (fun _ => ?_) (fun h' => (Bool.noConfusion (g13.symm.trans h')))
          refine r_op (o_pickF rfl rfl g14 rfl) ?_
          refine r_op (o_pickF rfl rfl g13 rfl) ?_
          refine r_end ?_
          refine t_cond rfl (fun h' => Bool.noConfusion (rfl.symm.trans h')) (fun _ => ?_)
          refine t_skip ?_
          refine t_region ?_
          refine r_op (o_fieldb rfl (off := 1) (by kernel_rfl) rfl) ?_
          refine r_op (o_load1b rfl (by kernel_rfl) rfl rfl rfl) ?_
          refine r_op (o_move rfl rfl) ?_
          refine r_op (o_litS 4 (e := 3) (sz := 1) (zs := [.int .i64 (0)]) rfl rfl (by kernel_rfl) rfl rfl rfl rfl rfl) ?_
          refine r_op (o_append 3 (e := 3) (sz := 1) (by' := 8) (IntKind.i64.wrap ((-1) - z2)) rfl (by kernel_rfl) rfl rfl rfl rfl rfl rfl (.cons .sc .nil) rfl (by first | omega | (simp; omega) | exact wr_lo _ | exact wr_hi _ | exact (hob _ (List.mem_of_getElem? (by assumption))).1 | exact (hob _ (List.mem_of_getElem? (by assumption))).2 | (have := instV_len i2; simp at this; omega)) (by first | omega | (simp; omega) | exact wr_lo _ | exact wr_hi _ | exact (hob _ (List.mem_of_getElem? (by assumption))).1 | exact (hob _ (List.mem_of_getElem? (by assumption))).2 | (have := instV_len i2; simp at this; omega))) ?_
          refine r_op (o_fieldb rfl (off := 1) (by kernel_rfl) rfl) ?_
          refine r_op (o_storeb (n := 1) (by kernel_rfl) rfl rfl rfl rfl rfl rfl) ?_
          refine r_end ?_
          refine t_endblock ?_
          refine t_region ?_
          refine r_op (o_move rfl rfl) ?_
          refine r_op (o_bin rfl rfl rfl rfl) ?_
          refine r_op (o_assign rfl rfl) ?_
          refine r_end ?_
          refine t_le ?_ (ih (m + 1, acc ++ [IntKind.i64.wrap ((-1) - z2)]) (by (try dsimp only); omega) (by (try dsimp only); exact ⟨by omega, by exfalso; omega⟩))
          exact ⟨⟨rfl, ⟨rfl, ⟨rfl, ⟨rfl, ⟨(eqI (wrS (by omega))), trivial⟩⟩⟩⟩⟩, ⟨rfl, ⟨rfl, ⟨rfl, ⟨rfl, trivial⟩⟩⟩⟩, rfl⟩
      ·
        have g13' := g13
        try simp only [decide_eq_true_eq, decide_eq_false_iff_not, Bool.not_eq_true', Bool.not_eq_false', Bool.not_false, Bool.not_true] at g13'
        refine r_guard rfl rfl rfl (fun h' => (Bool.noConfusion (g13.symm.trans h'))) (fun _ => ?_)
        refine r_guard rfl rfl rfl (fun h' => (Bool.noConfusion (g13.symm.trans h'))) (fun _ => ?_)
        refine r_guard rfl rfl rfl (fun h' => (Bool.noConfusion (g13.symm.trans h'))) (fun _ => ?_)
        refine r_guard rfl rfl rfl (fun h' => (Bool.noConfusion (g13.symm.trans h'))) (fun _ => ?_)
        refine r_guard rfl rfl rfl (fun h' => (Bool.noConfusion (g13.symm.trans h'))) (fun _ => ?_)
        refine r_guard rfl rfl rfl (fun h' => (Bool.noConfusion (g13.symm.trans h'))) (fun _ => ?_)
        refine r_skip rfl rfl rfl ?_
        refine r_skip rfl rfl rfl ?_
        refine r_guard rfl rfl rfl (fun h' => (Bool.noConfusion (g13.symm.trans h'))) (fun _ => ?_)
        refine r_op (o_pickT rfl rfl g13 rfl) ?_
        refine r_end ?_
        refine t_cond rfl (fun _ => ?_) (fun h' => Bool.noConfusion (rfl.symm.trans h'))
        refine t_seq ?_
        refine t_region ?_
        refine r_op (o_build rfl (pl := [(0, 1), (1, 1)]) (zs := [.int .i64 (0), .slice none 0 0]) (by kernel_rfl) (by kernel_rfl) rfl rfl rfl) ?_
        refine r_op (o_storeb (n := 2) (by kernel_rfl) rfl rfl rfl rfl rfl rfl) ?_
        refine r_op (o_assign rfl rfl) ?_
        refine r_end ?_
        refine t_ret Try.func43 (.cells (n := 2) (by kernel_rfl) (by kernel_rfl) rfl rfl rfl (.tmp rfl .nil)) rfl fun E S w u hI hd => ?_
        obtain rfl : mo = none := by rw [← hm]; exact inst_none i2 (by assumption) rfl (inst_badn (by omega) (ho _ (List.mem_of_getElem? (by assumption))).1 (by assumption))
        refine post_mk hI hd ?_ trivial rfl rfl rfl <;> clear hI hd <;> (try clear ih)
        all_goals first | rfl | (rfl)
  ·
    have h1' := h1
    try simp only [decide_eq_true_eq, decide_eq_false_iff_not, Bool.not_eq_true', Bool.not_eq_false', Bool.not_false, Bool.not_true] at h1'
    refine t_exit rfl ?_
    refine t_seq ?_
    refine t_region ?_
    refine r_op (o_loadAb rfl (n := 2) (by kernel_rfl) (by kernel_rfl) rfl rfl rfl) ?_
    refine r_op (o_storeb (n := 2) (by kernel_rfl) rfl rfl rfl rfl rfl rfl) ?_
    refine r_op (o_assign rfl rfl) ?_
    refine r_end ?_
    refine t_ret Try.func43 (.cells (n := 2) (by kernel_rfl) (by kernel_rfl) rfl rfl rfl (.tmp rfl .nil)) rfl fun E S w u hI hd => ?_
    obtain rfl : mo = some acc := by rw [← hm]; rw [List.take_of_length_le (by omega)] at i2; exact i2
    refine post_mk hI hd ?_ ⟨eqR ?_, trivial⟩ rfl rfl rfl <;> clear hI hd <;> (try clear ih)
    all_goals first | rfl | (rfl)
set_option maxRecDepth 10000 in
theorem c_impl_within (a0 a1 a2 : Int) : Pu Try.prog 68 [.c (.t none (.v (.int .i64 (a0)))), .c (.t none (.v (.int .i64 (a1)))), .c (.t none (.v (.int .i64 (a2))))] [] 0 (.c (.t none (.v (.bool (decide (a1 ≤ a0 ∧ a0 ≤ a2)))))) := by
  refine pu_enter Try.func68 rfl (Nat.le_of_ble_eq_true rfl) fun w S => ?_
  refine t_seq ?_
  refine t_region ?_
  refine r_op (o_assign rfl rfl) ?_
  refine r_end ?_
  refine t_seq ?_
  refine t_region ?_
  refine r_op (o_move rfl rfl) ?_
  refine r_op (o_move rfl rfl) ?_
  refine r_op (o_bin rfl rfl rfl rfl) ?_
  refine r_op (o_move rfl rfl) ?_
  refine r_guard rfl rfl rfl (fun g1 => ?_) (fun g1 => ?_)
  ·
    have g1' := g1
    try simp only [decide_eq_true_eq, decide_eq_false_iff_not, Bool.not_eq_true', Bool.not_eq_false', Bool.not_false, Bool.not_true] at g1'
    refine r_op (o_move rfl rfl) ?_
    refine r_guard rfl rfl rfl (fun _ => ?_) (fun h' => (Bool.noConfusion (g1.symm.trans h')))
    refine r_op (o_move rfl rfl) ?_
    refine r_guard rfl rfl rfl (fun _ => ?_) (fun h' => (Bool.noConfusion (g1.symm.trans h')))
    refine r_op (o_bin rfl rfl rfl rfl) ?_
    refine r_op (o_pickT rfl rfl g1 rfl) ?_
    refine r_op (o_assign rfl rfl) ?_
    refine r_end ?_
    refine t_ret Try.func68 (.tmp rfl .nil) rfl fun E S w u hI hd => ?_
    refine post_mk hI hd ?_ trivial rfl rfl rfl <;> clear hI hd <;> (try clear ih)
    all_goals first | rfl | (simp_all <;> omega)
  ·
    have g1' := g1
    try simp only [decide_eq_true_eq, decide_eq_false_iff_not, Bool.not_eq_true', Bool.not_eq_false', Bool.not_false, Bool.not_true] at g1'
    refine r_guard rfl rfl rfl (fun h' => (Bool.noConfusion (g1.symm.trans h'))) (fun _ => ?_)
    refine r_guard rfl rfl rfl (fun h' => (Bool.noConfusion (g1.symm.trans h'))) (fun _ => ?_)
    refine r_op (o_pickF rfl rfl g1 rfl) ?_
    refine r_op (o_assign rfl rfl) ?_
    refine r_end ?_
    refine t_ret Try.func68 (.tmp rfl .nil) rfl fun E S w u hI hd => ?_
    refine post_mk hI hd ?_ trivial rfl rfl rfl <;> clear hI hd <;> (try clear ih)
    all_goals first | rfl | (simp_all <;> omega)
set_option maxRecDepth 10000 in
theorem c_impl_IsValidValue (v : Int) : Pu Try.prog 76 [.c (.t none (.v (.int .i64 (v))))] [] 0 (.c (.t none (.v (.bool (decide (-40 ≤ v ∧ v ≤ 9)))))) := by
  refine pu_enter Try.func76 rfl (Nat.le_of_ble_eq_true rfl) fun w S => ?_
  refine t_seq ?_
  refine t_region ?_
  refine r_op (o_assign rfl rfl) ?_
  refine r_end ?_
  refine t_seq ?_
  refine t_region ?_
  refine r_op (o_move rfl rfl) ?_
  refine r_op (o_call 0 0 false (Go.Proofs.enters_of Try.func68 (by kernel_rfl) rfl) (c_impl_within (v) (-40) (9)) rfl (.cons rfl (.c .t0) (.cons rfl (.c .t0) (.cons rfl (.c .t0) .nil))) rfl rfl rfl) ?_
  refine r_op (o_assign rfl rfl) ?_
  refine r_end ?_
  refine t_ret Try.func76 (.tmp rfl .nil) rfl fun E S w u hI hd => ?_
  refine post_mk hI hd ?_ trivial rfl rfl rfl <;> clear hI hd <;> (try clear ih)
  all_goals first | rfl | (rfl)
set_option maxRecDepth 10000 in
theorem c_impl_NullNumber (v : Int) (hv : -9223372036854775808 ≤ v) (hv2 : v ≤ 9223372036854775807) : Pu Try.prog 75 [.c (.t none (.v (.int .i64 (v))))] [] 0 (.tup [(false, [.t none (.v (.int .i64 (if -40 ≤ v ∧ v ≤ -1 then -1 - v else 0)))]), (false, [.t none (.v (.bool (decide (-40 ≤ v ∧ v ≤ -1))))])]) := by
  refine pu_enter Try.func75 rfl (Nat.le_of_ble_eq_true rfl) fun w S => ?_
  refine t_seq ?_
  refine t_region ?_
  refine r_op (o_assign rfl rfl) ?_
  refine r_op (o_assign rfl rfl) ?_
  refine r_end ?_
  refine t_seq ?_
  refine t_seq ?_
  refine t_region ?_
  refine r_op (o_move rfl rfl) ?_
  refine r_op (o_bin rfl rfl rfl rfl) ?_
  refine r_op (o_call 0 0 false (Go.Proofs.enters_of Try.func68 (by kernel_rfl) rfl) (c_impl_within (IntKind.i64.wrap ((-1) - v)) (0) (39)) rfl (.cons rfl (.c .t0) (.cons rfl (.c .t0) (.cons rfl (.c .t0) .nil))) rfl rfl rfl) ?_
  refine r_op (o_not rfl rfl) ?_
  refine r_end ?_
  refine t_cond rfl (fun h1 => ?_) (fun h1 => ?_)
  ·
    have h1' := h1
    try simp only [decide_eq_true_eq, decide_eq_false_iff_not, Bool.not_eq_true', Bool.not_eq_false', Bool.not_false, Bool.not_true] at h1'
    refine t_seq ?_
    refine t_region ?_
    refine r_op (o_assign rfl rfl) ?_
    refine r_op (o_assign rfl rfl) ?_
    refine r_end ?_
    refine t_ret Try.func75 (.tmp rfl (.tmp rfl .nil)) rfl fun E S w u hI hd => ?_
    refine post_mk hI hd ?_ trivial rfl rfl rfl <;> clear hI hd <;> (try clear ih)
    all_goals first | rfl | (first | (have hn : ¬(-40 ≤ v ∧ v ≤ -1) := by (simp only [IntKind.wrap_i64] at *; omega)); (simp [hn]; done) | (have hn : (-40 ≤ v ∧ v ≤ -1) := by (simp only [IntKind.wrap_i64] at *; omega)); (have e : IntKind.i64.wrap (-1 - v) = -1 - v := wr64 (by omega) (by omega)); (simp [hn, e]; done))
  ·
    have h1' := h1
    try simp only [decide_eq_true_eq, decide_eq_false_iff_not, Bool.not_eq_true', Bool.not_eq_false', Bool.not_false, Bool.not_true] at h1'
    refine t_skip ?_
    refine t_seq ?_
    refine t_region ?_
    refine r_op (o_move rfl rfl) ?_
    refine r_op (o_bin rfl rfl rfl rfl) ?_
    refine r_op (o_assign rfl rfl) ?_
    refine r_op (o_assign rfl rfl) ?_
    refine r_end ?_
    refine t_ret Try.func75 (.tmp rfl (.tmp rfl .nil)) rfl fun E S w u hI hd => ?_
    refine post_mk hI hd ?_ trivial rfl rfl rfl <;> clear hI hd <;> (try clear ih)
    all_goals first | rfl | (first | (have hn : ¬(-40 ≤ v ∧ v ≤ -1) := by (simp only [IntKind.wrap_i64] at *; omega)); (simp [hn]; done) | (have hn : (-40 ≤ v ∧ v ≤ -1) := by (simp only [IntKind.wrap_i64] at *; omega)); (have e : IntKind.i64.wrap (-1 - v) = -1 - v := wr64 (by omega) (by omega)); (simp [hn, e]; done))
def ob_c_impl_Instantiate : Option (List Int) → List (Nat × Option Ob)
  | none => []
  | some q => [(3, some (.row none 3 true 1 encI (q)))]
def res_c_impl_Instantiate (r : Int) (ts : List Int) (b : List Int) : Option (List Int) → AV
  | none => .tup [(true, [.t none (.v (.int .i64 (0))), .t none (.v (.slice none 0 0))]), (false, [.t none (.v (.bool (false)))])]
  | some q => .tup [(true, [.t none (.v (.int .i64 (r))), .own 3]), (false, [.t none (.v (.bool (true)))])]
set_option maxRecDepth 10000 in
theorem c_impl_Instantiate (r : Int) (ts : List Int) (b : List Int) (hl : ts.length ≤ 1048576) (ho : ∀ x ∈ ts, okI x) (mo : Option (List Int)) (hm : instV b ts = mo) : Pu Try.prog 46 [.agg [.t none (.v (.int .i64 (r))), .t none (.sl 1 encI (ts))], .c (.t none (.sl 1 encI (b)))] (ob_c_impl_Instantiate mo) 4 (res_c_impl_Instantiate r ts b mo) := by
  refine pu_enter Try.func46 rfl (Nat.le_of_ble_eq_true rfl) fun w S => ?_
  refine t_seq ?_
  refine t_region ?_
  refine r_op (o_box 0 rfl rfl rfl rfl) ?_
  refine r_op (o_alloc 1 (zs := [.int .i64 (0), .slice none 0 0]) rfl rfl (by kernel_rfl) rfl) ?_
  refine r_op (o_assign rfl rfl) ?_
  refine r_end ?_
  refine t_seq ?_
  refine t_region ?_
  refine r_op (o_fieldb rfl (off := 0) (by kernel_rfl) rfl) ?_
  refine r_op (o_load1b rfl (by kernel_rfl) rfl rfl rfl) ?_
  refine r_op (o_build rfl (pl := [(0, 1), (1, 1)]) (zs := [.int .i64 (0), .slice none 0 0]) (by kernel_rfl) (by kernel_rfl) rfl rfl rfl) ?_
  refine r_op (o_alloc 2 (zs := [.int .i64 (0), .slice none 0 0]) rfl rfl (by kernel_rfl) rfl) ?_
  refine r_op (o_storeb (n := 2) (by kernel_rfl) rfl rfl rfl rfl rfl rfl) ?_
  refine r_end ?_
  refine t_seq ?_
  refine t_seq ?_
  refine t_region ?_
  refine r_op (o_fieldb rfl (off := 1) (by kernel_rfl) rfl) ?_
  refine r_op (o_load1b rfl (by kernel_rfl) rfl rfl rfl) ?_
  refine r_op (o_len rfl rfl rfl) ?_
  refine r_op (o_move rfl rfl) ?_
  refine r_end ?_
  refine t_block ?_
  refine gt_nilb 3 (b := 2) (o := 1) (et := 3) (sz := 1) true encI rfl rfl rfl ?_
  refine t_loopL (fun (m, acc) => ⟨[(1, some (.c (.t none (.sl 1 encI (b))))), (4, some (.c (.ptr 1 0))), (6, some (.c (.ptr 2 0))), (14, some (.c (.t none (.sl 1 encI (ts))))), (15, some (.c (.t none (.v (.int .i64 (((ts).length : Int))))))), (16, some (.c (.t none (.v (.int .i64 ((m : Int)))))))], [(0, some (.box [.t none (.v (.int .i64 (r))), .t none (.sl 1 encI (ts))])), (1, some (.box [.t none (.v (.int .i64 (0))), .t none (.v (.slice none 0 0))])), (2, some (.box [.t none (.v (.int .i64 (r))), .own 3])), (3, some (.row none 3 true 1 encI (acc)))], 4⟩ : Nat × List Int → St) (fun (m, acc) => m ≤ ts.length ∧ instV b (ts.take m) = some acc) (fun (m, acc) => ts.length - m) (0, []) ⟨⟨rfl, ⟨rfl, ⟨rfl, ⟨rfl, ⟨rfl, ⟨rfl, trivial⟩⟩⟩⟩⟩⟩, ⟨rfl, ⟨rfl, ⟨rfl, ⟨rfl, trivial⟩⟩⟩⟩, rfl⟩ (by exact ⟨Nat.zero_le _, rfl⟩) ?_
  rintro ⟨m, acc⟩ hI ih
  try dsimp only at hI ih
  obtain ⟨i1, i2⟩ := hI
  refine t_seq ?_
  refine t_region ?_
  refine r_op (o_bin rfl rfl rfl rfl) ?_
  refine r_end ?_
  refine t_seq ?_
  refine t_cond rfl (fun h1 => ?_) (fun h1 => ?_)
  ·
    have h1' := h1
    try simp only [decide_eq_true_eq, decide_eq_false_iff_not, Bool.not_eq_true', Bool.not_eq_false', Bool.not_false, Bool.not_true] at h1'
    refine t_skip ?_
    refine t_seq ?_
    refine t_block ?_
    refine t_seq ?_
    refine t_region ?_
    obtain ⟨z2, hz3, b4⟩ := at_get (xs := ts) (n := (m : Int)) (by first | omega | (simp; omega) | (have := instV_len i2; simp at this; omega)) (by first | omega | (simp; omega) | (have := instV_len i2; simp at this; omega))
    refine r_op (o_index rfl (by kernel_rfl) rfl rfl b4 hz3) ?_
    refine r_op (o_load1 rfl (by kernel_rfl) rfl rfl) ?_
    refine r_op (o_assign rfl rfl) ?_
    refine r_end ?_
    refine t_seq ?_
    refine t_region ?_
    refine r_op (o_move rfl rfl) ?_
    refine r_op (o_bin rfl rfl rfl rfl) ?_
    refine r_op (o_assign rfl rfl) ?_
    refine r_end ?_
    refine t_seq ?_
    refine t_seq ?_
    refine t_region ?_
    refine r_op (o_move rfl rfl) ?_
    refine r_op (o_bin rfl rfl rfl rfl) ?_
    refine r_end ?_
    refine t_cond rfl (fun h5 => ?_) (fun h5 => ?_)
    ·
      have h5' := h5
      try simp only [decide_eq_true_eq, decide_eq_false_iff_not, Bool.not_eq_true', Bool.not_eq_false', Bool.not_false, Bool.not_true] at h5'
      refine t_seq ?_
      refine t_seq ?_
      refine t_region ?_
      refine r_op (o_move rfl rfl) ?_
      refine r_op (o_move rfl rfl) ?_
      refine r_op (o_len rfl rfl rfl) ?_
      refine r_op (o_bin rfl rfl rfl rfl) ?_
      refine r_end ?_
      refine t_cond rfl (fun h6 => ?_) (fun h6 => ?_)
      ·
        have h6' := h6
        try simp only [decide_eq_true_eq, decide_eq_false_iff_not, Bool.not_eq_true', Bool.not_eq_false', Bool.not_false, Bool.not_true] at h6'
        refine t_seq ?_
        refine t_region ?_
        refine r_op (o_build rfl (pl := [(0, 1), (1, 1)]) (zs := [.int .i64 (0), .slice none 0 0]) (by kernel_rfl) (by kernel_rfl) rfl rfl rfl) ?_
        refine r_op (o_storeb (n := 2) (by kernel_rfl) rfl rfl rfl rfl rfl rfl) ?_
        refine r_op (o_assign rfl rfl) ?_
        refine r_end ?_
        refine t_ret Try.func46 (.cells (n := 2) (by kernel_rfl) (by kernel_rfl) rfl rfl rfl (.tmp rfl .nil)) rfl fun E S w u hI hd => ?_
        obtain rfl : mo = none := by rw [← hm]; exact inst_none i2 (by assumption) rfl (inst_far (by assumption) (by assumption))
        refine post_mk hI hd ?_ trivial rfl rfl rfl <;> clear hI hd <;> (try clear ih)
        all_goals first | rfl | (rfl)
      ·
        have h6' := h6
        try simp only [decide_eq_true_eq, decide_eq_false_iff_not, Bool.not_eq_true', Bool.not_eq_false', Bool.not_false, Bool.not_true] at h6'
        refine t_skip ?_
        refine t_region ?_
        refine r_op (o_move rfl rfl) ?_
        refine r_op (o_move rfl rfl) ?_
        obtain ⟨z7, hz8, b9⟩ := at_get (xs := b) (n := z2) (by first | omega | (simp; omega) | (have := instV_len i2; simp at this; omega)) (by first | omega | (simp; omega) | (have := instV_len i2; simp at this; omega))
        refine r_op (o_index rfl (by kernel_rfl) rfl rfl b9 hz8) ?_
        refine r_op (o_load1 rfl (by kernel_rfl) rfl rfl) ?_
        refine r_op (o_assign rfl rfl) ?_
        refine r_end ?_
        refine t_seq ?_
        refine t_seq ?_
        refine t_region ?_
        refine r_op (o_move rfl rfl) ?_
        refine r_op (o_call 4 4 false (Go.Proofs.enters_of Try.func76 (by kernel_rfl) rfl) (c_impl_IsValidValue (z7)) rfl (.cons rfl (.c .t0) .nil) rfl rfl rfl) ?_
        refine r_op (o_not rfl rfl) ?_
        refine r_end ?_
        refine t_cond rfl (fun h10 => ?_) (fun h10 => ?_)
        ·
          have h10' := h10
          try simp only [decide_eq_true_eq, decide_eq_false_iff_not, Bool.not_eq_true', Bool.not_eq_false', Bool.not_false, Bool.not_true] at h10'
          refine t_seq ?_
          refine t_region ?_
          refine r_op (o_build rfl (pl := [(0, 1), (1, 1)]) (zs := [.int .i64 (0), .slice none 0 0]) (by kernel_rfl) (by kernel_rfl) rfl rfl rfl) ?_
          refine r_op (o_storeb (n := 2) (by kernel_rfl) rfl rfl rfl rfl rfl rfl) ?_
          refine r_op (o_assign rfl rfl) ?_
          refine r_end ?_
          refine t_ret Try.func46 (.cells (n := 2) (by kernel_rfl) (by kernel_rfl) rfl rfl rfl (.tmp rfl .nil)) rfl fun E S w u hI hd => ?_
          obtain rfl : mo = none := by rw [← hm]; exact inst_none i2 (by assumption) rfl (inst_bad (by assumption) (by assumption) (by assumption))
          refine post_mk hI hd ?_ trivial rfl rfl rfl <;> clear hI hd <;> (try clear ih)
          all_goals first | rfl | (rfl)
        ·
          have h10' := h10
          try simp only [decide_eq_true_eq, decide_eq_false_iff_not, Bool.not_eq_true', Bool.not_eq_false', Bool.not_false, Bool.not_true] at h10'
          refine t_skip ?_
          refine t_region ?_
          refine r_op (o_fieldb rfl (off := 1) (by kernel_rfl) rfl) ?_
          refine r_op (o_load1b rfl (by kernel_rfl) rfl rfl rfl) ?_
          refine r_op (o_move rfl rfl) ?_
          refine r_op (o_litS 4 (e := 3) (sz := 1) (zs := [.int .i64 (0)]) rfl rfl (by kernel_rfl) rfl rfl rfl rfl rfl) ?_
          refine r_op (o_append 3 (e := 3) (sz := 1) (by' := 8) (z7) rfl (by kernel_rfl) rfl rfl rfl rfl rfl rfl (.cons .sc .nil) rfl (by first | omega | (simp; omega) | (have := instV_len i2; simp at this; omega)) (by first | omega | (simp; omega) | (have := instV_len i2; simp at this; omega))) ?_
          refine r_op (o_fieldb rfl (off := 1) (by kernel_rfl) rfl) ?_
          refine r_op (o_storeb (n := 1) (by kernel_rfl) rfl rfl rfl rfl rfl rfl) ?_
          refine r_end ?_
          refine t_endblock ?_
          refine t_region ?_
          refine r_op (o_bin rfl rfl rfl rfl) ?_
          refine r_op (o_move rfl rfl) ?_
          refine r_end ?_
          refine t_le ?_ (ih (m + 1, acc ++ [z7]) (by (try dsimp only); omega) (by (try dsimp only); exact ⟨by omega, inst_step i2 (by assumption) rfl (inst_good (by assumption) (by assumption) (by assumption))⟩))
          exact ⟨⟨rfl, ⟨rfl, ⟨rfl, ⟨rfl, ⟨rfl, ⟨(eqI (wrS (by omega))), trivial⟩⟩⟩⟩⟩⟩, ⟨rfl, ⟨rfl, ⟨rfl, ⟨rfl, trivial⟩⟩⟩⟩, rfl⟩
    ·
      have h5' := h5
      try simp only [decide_eq_true_eq, decide_eq_false_iff_not, Bool.not_eq_true', Bool.not_eq_false', Bool.not_false, Bool.not_true] at h5'
      refine t_skip ?_
      refine t_seq ?_
      refine t_seq ?_
      refine t_region ?_
      refine r_op (o_move rfl rfl) ?_
      refine r_op (o_call 4 4 false (Go.Proofs.enters_of Try.func76 (by kernel_rfl) rfl) (c_impl_IsValidValue (IntKind.i64.wrap ((-1) - z2))) rfl (.cons rfl (.c .t0) .nil) rfl rfl rfl) ?_
      refine r_op (o_not rfl rfl) ?_
      refine r_end ?_
      refine t_cond rfl (fun h11 => ?_) (fun h11 => ?_)
      ·
        have h11' := h11
        try simp only [decide_eq_true_eq, decide_eq_false_iff_not, Bool.not_eq_true', Bool.not_eq_false', Bool.not_false, Bool.not_true] at h11'
        refine t_seq ?_
        refine t_region ?_
        refine r_op (o_build rfl (pl := [(0, 1), (1, 1)]) (zs := [.int .i64 (0), .slice none 0 0]) (by kernel_rfl) (by kernel_rfl) rfl rfl rfl) ?_
        refine r_op (o_storeb (n := 2) (by kernel_rfl) rfl rfl rfl rfl rfl rfl) ?_
        refine r_op (o_assign rfl rfl) ?_
        refine r_end ?_
        refine t_ret Try.func46 (.cells (n := 2) (by kernel_rfl) (by kernel_rfl) rfl rfl rfl (.tmp rfl .nil)) rfl fun E S w u hI hd => ?_
        obtain rfl : mo = none := by rw [← hm]; exact inst_none i2 (by assumption) rfl (inst_badn (by omega) (ho _ (List.mem_of_getElem? (by assumption))).1 (by assumption))
        refine post_mk hI hd ?_ trivial rfl rfl rfl <;> clear hI hd <;> (try clear ih)
        all_goals first | rfl | (rfl)
      ·
        have h11' := h11
        try simp only [decide_eq_true_eq, decide_eq_false_iff_not, Bool.not_eq_true', Bool.not_eq_false', Bool.not_false, Bool.not_true] at h11'
        refine t_skip ?_
        refine t_region ?_
        refine r_op (o_fieldb rfl (off := 1) (by kernel_rfl) rfl) ?_
        refine r_op (o_load1b rfl (by kernel_rfl) rfl rfl rfl) ?_
        refine r_op (o_move rfl rfl) ?_
        refine r_op (o_litS 4 (e := 3) (sz := 1) (zs := [.int .i64 (0)]) rfl rfl (by kernel_rfl) rfl rfl rfl rfl rfl) ?_
        refine r_op (o_append 3 (e := 3) (sz := 1) (by' := 8) (IntKind.i64.wrap ((-1) - z2)) rfl (by kernel_rfl) rfl rfl rfl rfl rfl rfl (.cons .sc .nil) rfl (by first | omega | (simp; omega) | (have := instV_len i2; simp at this; omega)) (by first | omega | (simp; omega) | (have := instV_len i2; simp at this; omega))) ?_
        refine r_op (o_fieldb rfl (off := 1) (by kernel_rfl) rfl) ?_
        refine r_op (o_storeb (n := 1) (by kernel_rfl) rfl rfl rfl rfl rfl rfl) ?_
        refine r_end ?_
        refine t_endblock ?_
        refine t_region ?_
        refine r_op (o_bin rfl rfl rfl rfl) ?_
        refine r_op (o_move rfl rfl) ?_
        refine r_end ?_
        refine t_le ?_ (ih (m + 1, acc ++ [IntKind.i64.wrap ((-1) - z2)]) (by (try dsimp only); omega) (by (try dsimp only); exact ⟨by omega, inst_step i2 (by assumption) rfl (inst_goodn (by omega) (ho _ (List.mem_of_getElem? (by assumption))).1 (by assumption))⟩))
        exact ⟨⟨rfl, ⟨rfl, ⟨rfl, ⟨rfl, ⟨rfl, ⟨(eqI (wrS (by omega))), trivial⟩⟩⟩⟩⟩⟩, ⟨rfl, ⟨rfl, ⟨rfl, ⟨rfl, trivial⟩⟩⟩⟩, rfl⟩
  ·
    have h1' := h1
    try simp only [decide_eq_true_eq, decide_eq_false_iff_not, Bool.not_eq_true', Bool.not_eq_false', Bool.not_false, Bool.not_true] at h1'
    refine t_exit rfl ?_
    refine t_seq ?_
    refine t_region ?_
    refine r_op (o_loadAb rfl (n := 2) (by kernel_rfl) (by kernel_rfl) rfl rfl rfl) ?_
    refine r_op (o_storeb (n := 2) (by kernel_rfl) rfl rfl rfl rfl rfl rfl) ?_
    refine r_op (o_assign rfl rfl) ?_
    refine r_end ?_
    refine t_ret Try.func46 (.cells (n := 2) (by kernel_rfl) (by kernel_rfl) rfl rfl rfl (.tmp rfl .nil)) rfl fun E S w u hI hd => ?_
    obtain rfl : mo = some acc := by rw [← hm]; rw [List.take_of_length_le (by omega)] at i2; exact i2
    refine post_mk hI hd ?_ ⟨eqR ?_, trivial⟩ rfl rfl rfl <;> clear hI hd <;> (try clear ih)
    all_goals first | rfl | (rfl)
set_option maxRecDepth 10000 in
theorem c_laws_szIntS (l : List Int) (k : Int) (hk : 0 ≤ k) (hk2 : k ≤ 1048576) (hl : l.length ≤ 9223372036854775807) : Pu Try.prog 73 [.c (.t none (.sl 1 encI (l))), .c (.t none (.v (.int .i64 (k))))] [] 0 (.c (.t none (.v (.int .i64 (if k - l.length < 0 then -1 else k - l.length))))) := by
  refine pu_enter Try.func73 rfl (Nat.le_of_ble_eq_true rfl) fun w S => ?_
  refine t_seq ?_
  refine t_region ?_
  refine r_op (o_assign rfl rfl) ?_
  refine r_end ?_
  refine t_seq ?_
  refine t_region ?_
  refine r_op (o_move rfl rfl) ?_
  refine r_op (o_move rfl rfl) ?_
  refine r_op (o_len rfl rfl rfl) ?_
  refine r_op (o_bin rfl rfl rfl rfl) ?_
  refine r_op (o_assign rfl rfl) ?_
  refine r_end ?_
  refine t_seq ?_
  refine t_seq ?_
  refine t_region ?_
  refine r_op (o_move rfl rfl) ?_
  refine r_op (o_bin rfl rfl rfl rfl) ?_
  refine r_end ?_
  refine t_cond rfl (fun h1 => ?_) (fun h1 => ?_)
  ·
    have h1' := h1
    try simp only [decide_eq_true_eq, decide_eq_false_iff_not, Bool.not_eq_true', Bool.not_eq_false', Bool.not_false, Bool.not_true] at h1'
    refine t_seq ?_
    refine t_region ?_
    refine r_op (o_assign rfl rfl) ?_
    refine r_end ?_
    refine t_ret Try.func73 (.tmp rfl .nil) rfl fun E S w u hI hd => ?_
    refine post_mk hI hd ?_ trivial rfl rfl rfl <;> clear hI hd <;> (try clear ih)
    all_goals first | rfl | (have e := wr64 (x := k - l.length) (by omega) (by omega); rw [e] at h1'; rw [if_pos (by omega)])
  ·
    have h1' := h1
    try simp only [decide_eq_true_eq, decide_eq_false_iff_not, Bool.not_eq_true', Bool.not_eq_false', Bool.not_false, Bool.not_true] at h1'
    refine t_skip ?_
    refine t_seq ?_
    refine t_region ?_
    refine r_op (o_move rfl rfl) ?_
    refine r_op (o_assign rfl rfl) ?_
    refine r_end ?_
    refine t_ret Try.func73 (.tmp rfl .nil) rfl fun E S w u hI hd => ?_
    refine post_mk hI hd ?_ trivial rfl rfl rfl <;> clear hI hd <;> (try clear ih)
    all_goals first | rfl | (have e := wr64 (x := k - l.length) (by omega) (by omega); rw [e] at h1'; rw [e, if_neg (by omega)])
set_option maxRecDepth 10000 in
theorem c_laws_szAtom (r : Int) (l : List Int) (k : Int) (hk : 0 ≤ k) (hk2 : k ≤ 1048576) (hl : l.length ≤ 9223372036854775807) : Pu Try.prog 42 [.agg [.t none (.v (.int .i64 (r))), .t none (.sl 1 encI (l))], .c (.t none (.v (.int .i64 (k))))] [] 0 (.c (.t none (.v (.int .i64 (if k - l.length < 0 then -1 else k - l.length))))) := by
  refine pu_enter Try.func42 rfl (Nat.le_of_ble_eq_true rfl) fun w S => ?_
  refine t_seq ?_
  refine t_region ?_
  refine r_op (o_box 0 rfl rfl rfl rfl) ?_
  refine r_op (o_assign rfl rfl) ?_
  refine r_end ?_
  refine t_seq ?_
  refine t_region ?_
  refine r_op (o_fieldb rfl (off := 1) (by kernel_rfl) rfl) ?_
  refine r_op (o_load1b rfl (by kernel_rfl) rfl rfl rfl) ?_
  refine r_op (o_move rfl rfl) ?_
  refine r_op (o_call 1 1 false (Go.Proofs.enters_of Try.func73 (by kernel_rfl) rfl) (c_laws_szIntS (l) (k) (by first | omega | (simp; omega)) (by first | omega | (simp; omega)) (by first | omega | (simp; omega))) rfl (.cons rfl (.c .t0) (.cons rfl (.c .t0) .nil)) rfl rfl rfl) ?_
  refine r_op (o_assign rfl rfl) ?_
  refine r_end ?_
  refine t_seq ?_
  refine t_seq ?_
  refine t_region ?_
  refine r_op (o_move rfl rfl) ?_
  refine r_op (o_bin rfl rfl rfl rfl) ?_
  refine r_end ?_
  refine t_cond rfl (fun h1 => ?_) (fun h1 => ?_)
  ·
    have h1' := h1
    try simp only [decide_eq_true_eq, decide_eq_false_iff_not, Bool.not_eq_true', Bool.not_eq_false', Bool.not_false, Bool.not_true] at h1'
    refine t_seq ?_
    refine t_region ?_
    refine r_op (o_assign rfl rfl) ?_
    refine r_end ?_
    refine t_ret Try.func42 (.tmp rfl .nil) rfl fun E S w u hI hd => ?_
    refine post_mk hI hd ?_ trivial rfl rfl rfl <;> clear hI hd <;> (try clear ih)
    all_goals first | rfl | (simp_all <;> omega)
  ·
    have h1' := h1
    try simp only [decide_eq_true_eq, decide_eq_false_iff_not, Bool.not_eq_true', Bool.not_eq_false', Bool.not_false, Bool.not_true] at h1'
    refine t_skip ?_
    refine t_seq ?_
    refine t_region ?_
    refine r_op (o_move rfl rfl) ?_
    refine r_op (o_assign rfl rfl) ?_
    refine r_end ?_
    refine t_ret Try.func42 (.tmp rfl .nil) rfl fun E S w u hI hd => ?_
    refine post_mk hI hd ?_ trivial rfl rfl rfl <;> clear hI hd <;> (try clear ih)
    all_goals first | rfl | (simp_all <;> omega)
set_option maxRecDepth 10000 in
theorem c_laws_toIntS (l : List Int) (hl : l.length ≤ 1048576) : Pu Try.prog 45 [.c (.t none (.sl 1 encI (l)))] [(0, some (.row none 3 true 1 encI (l)))] 1 (.c (.own 0)) := by
  refine pu_enter Try.func45 rfl (Nat.le_of_ble_eq_true rfl) fun w S => ?_
  refine t_seq ?_
  refine t_region ?_
  refine r_op (o_assign rfl rfl) ?_
  refine r_end ?_
  refine t_seq ?_
  refine t_region ?_
  refine r_op (o_move rfl rfl) ?_
  refine r_op (o_len rfl rfl rfl) ?_
  refine r_op (o_make 0 true (et := 3) (sz := 1) (by' := 8) encI (0) (zs := [.int .i64 (0)]) rfl rfl (by kernel_rfl) (by kernel_rfl) rfl rfl zeros_I rfl rfl (by first | omega | (simp; omega)) (by first | omega | (simp; omega)) (by first | omega | (simp; omega))) ?_
  refine r_op (o_assign rfl rfl) ?_
  refine r_end ?_
  refine t_seq ?_
  refine t_seq ?_
  refine t_region ?_
  refine r_op (o_assign rfl rfl) ?_
  refine r_end ?_
  refine t_block ?_
  refine t_loopL (fun m => ⟨[(0, some (.c (.t none (.sl 1 encI (l))))), (2, some (.c (.t none (.v (.slice none 0 0))))), (3, some (.c (.own 0))), (4, some (.c (.t none (.v (.int .i64 ((m : Int)))))))], [(0, some (.row none 3 true 1 encI (l.take m ++ List.replicate (l.length - m) 0)))], 1⟩ : Nat → St) (fun m => m ≤ l.length) (fun m => l.length - m) 0 ⟨⟨rfl, ⟨rfl, ⟨rfl, ⟨rfl, trivial⟩⟩⟩⟩, ⟨(eqR (by simp)), trivial⟩, rfl⟩ (by simp) ?_
  rintro m hI ih
  try dsimp only at hI ih
  refine t_seq ?_
  refine t_seq ?_
  refine t_region ?_
  refine r_op (o_move rfl rfl) ?_
  refine r_op (o_move rfl rfl) ?_
  refine r_op (o_len rfl rfl rfl) ?_
  refine r_op (o_bin rfl rfl rfl rfl) ?_
  refine r_end ?_
  refine t_cond rfl (fun h1 => ?_) (fun h1 => ?_)
  ·
    have h1' := h1
    try simp only [decide_eq_true_eq, decide_eq_false_iff_not, Bool.not_eq_true', Bool.not_eq_false', Bool.not_false, Bool.not_true] at h1'
    refine t_skip ?_
    refine t_seq ?_
    refine t_block ?_
    refine t_region ?_
    refine r_op (o_move rfl rfl) ?_
    refine r_op (o_move rfl rfl) ?_
    refine r_op (o_move rfl rfl) ?_
    refine r_op (o_move rfl rfl) ?_
    obtain ⟨z2, hz3, b4⟩ := at_get (xs := l) (n := (m : Int)) (by first | omega | (simp; omega)) (by first | omega | (simp; omega))
    refine r_op (o_index rfl (by kernel_rfl) rfl rfl b4 hz3) ?_
    refine r_op (o_load1 rfl (by kernel_rfl) rfl rfl) ?_
    obtain ⟨z5, hz6, b7⟩ := at_get (xs := l.take m ++ List.replicate (l.length - m) 0) (n := (m : Int)) (by first | omega | (simp; omega)) (by first | omega | (simp; omega))
    refine r_op (o_indexo rfl (by kernel_rfl) rfl rfl rfl b7 (at_lt b7 hz6)) ?_
    refine r_op (o_storeo (z2) (n := 1) (by kernel_rfl) rfl rfl hz6 rfl rfl rfl rfl (.cons .sc .nil) rfl (fun j h1 h2 => by simp at h1 h2; omega)) ?_
    refine r_end ?_
    refine t_endblock ?_
    refine t_region ?_
    refine r_op (o_move rfl rfl) ?_
    refine r_op (o_bin rfl rfl rfl rfl) ?_
    refine r_op (o_assign rfl rfl) ?_
    refine r_end ?_
    refine t_le ?_ (ih (m + 1) (by (try dsimp only); omega) (by (try dsimp only); omega))
    exact ⟨⟨rfl, ⟨rfl, ⟨rfl, ⟨(eqI (wrS (by omega))), trivial⟩⟩⟩⟩, ⟨(eqR (fill_set (by assumption))), trivial⟩, rfl⟩
  ·
    have h1' := h1
    try simp only [decide_eq_true_eq, decide_eq_false_iff_not, Bool.not_eq_true', Bool.not_eq_false', Bool.not_false, Bool.not_true] at h1'
    refine t_exit rfl ?_
    refine t_seq ?_
    refine t_region ?_
    refine r_op (o_move rfl rfl) ?_
    refine r_op (o_assign rfl rfl) ?_
    refine r_end ?_
    refine t_ret Try.func45 (.tmp rfl .nil) rfl fun E S w u hI hd => ?_
    refine post_mk hI hd ?_ ⟨eqR ?_, trivial⟩ rfl rfl rfl <;> clear hI hd <;> (try clear ih)
    all_goals first | rfl | ((obtain rfl : m = l.length := by omega); simp)
set_option maxRecDepth 10000 in
theorem c_laws_toAtom (r : Int) (l : List Int) (hl : l.length ≤ 1048576) : Pu Try.prog 44 [.agg [.t none (.v (.int .i64 (r))), .t none (.sl 1 encI (l))]] [(3, some (.row none 3 true 1 encI (l)))] 4 (.agg [.t none (.v (.int .i64 (r))), .own 3]) := by
  refine pu_enter Try.func44 rfl (Nat.le_of_ble_eq_true rfl) fun w S => ?_
  refine t_seq ?_
  refine t_region ?_
  refine r_op (o_box 0 rfl rfl rfl rfl) ?_
  refine r_op (o_alloc 1 (zs := [.int .i64 (0), .slice none 0 0]) rfl rfl (by kernel_rfl) rfl) ?_
  refine r_end ?_
  refine t_seq ?_
  refine t_region ?_
  refine r_op (o_alloc 2 (zs := [.int .i64 (0), .slice none 0 0]) rfl rfl (by kernel_rfl) rfl) ?_
  refine r_end ?_
  refine t_seq ?_
  refine t_region ?_
  refine r_op (o_fieldb rfl (off := 0) (by kernel_rfl) rfl) ?_
  refine r_op (o_load1b rfl (by kernel_rfl) rfl rfl rfl) ?_
  refine r_op (o_fieldb rfl (off := 0) (by kernel_rfl) rfl) ?_
  refine r_op (o_storeb (n := 1) (by kernel_rfl) rfl rfl rfl rfl rfl rfl) ?_
  refine r_end ?_
  refine t_seq ?_
  refine t_region ?_
  refine r_op (o_fieldb rfl (off := 1) (by kernel_rfl) rfl) ?_
  refine r_op (o_load1b rfl (by kernel_rfl) rfl rfl rfl) ?_
  refine r_op (o_call 3 4 false (Go.Proofs.enters_of Try.func45 (by kernel_rfl) rfl) (c_laws_toIntS (l) (by first | omega | (simp; omega))) rfl (.cons rfl (.c .t0) .nil) rfl rfl rfl) ?_
  refine r_op (o_fieldb rfl (off := 1) (by kernel_rfl) rfl) ?_
  refine r_op (o_storeb (n := 1) (by kernel_rfl) rfl rfl rfl rfl rfl rfl) ?_
  refine r_end ?_
  refine t_seq ?_
  refine t_region ?_
  refine r_op (o_loadAb rfl (n := 2) (by kernel_rfl) (by kernel_rfl) rfl rfl rfl) ?_
  refine r_op (o_storeb (n := 2) (by kernel_rfl) rfl rfl rfl rfl rfl rfl) ?_
  refine r_end ?_
  refine t_ret Try.func44 (.cells (n := 2) (by kernel_rfl) (by kernel_rfl) rfl rfl rfl .nil) rfl fun E S w u hI hd => ?_
  refine post_mk hI hd ?_ ⟨eqR ?_, trivial⟩ rfl rfl rfl <;> clear hI hd <;> (try clear ih)
  all_goals first | rfl | (simp_all <;> omega)
set_option maxRecDepth 10000 in
theorem c_laws_eqIntS (a b : List Int) (ha : a.length < 4611686018427387904) : Pu Try.prog 49 [.c (.t none (.sl 1 encI (a))), .c (.t none (.sl 1 encI (b)))] [] 0 (.c (.t none (.v (.bool (decide (a = b)))))) := by
  refine pu_enter Try.func49 rfl (Nat.le_of_ble_eq_true rfl) fun w S => ?_
  refine t_seq ?_
  refine t_region ?_
  refine r_op (o_assign rfl rfl) ?_
  refine r_end ?_
  refine t_seq ?_
  refine t_seq ?_
  refine t_region ?_
  refine r_op (o_move rfl rfl) ?_
  refine r_op (o_len rfl rfl rfl) ?_
  refine r_op (o_move rfl rfl) ?_
  refine r_op (o_len rfl rfl rfl) ?_
  refine r_op (o_bin rfl rfl rfl rfl) ?_
  refine r_end ?_
  refine t_cond rfl (fun h1 => ?_) (fun h1 => ?_)
  ·
    have h1' := h1
    try simp only [decide_eq_true_eq, decide_eq_false_iff_not, Bool.not_eq_true', Bool.not_eq_false', Bool.not_false, Bool.not_true] at h1'
    refine t_seq ?_
    refine t_region ?_
    refine r_op (o_assign rfl rfl) ?_
    refine r_end ?_
    refine t_ret Try.func49 (.tmp rfl .nil) rfl fun E S w u hI hd => ?_
    refine post_mk hI hd ?_ trivial rfl rfl rfl <;> clear hI hd <;> (try clear ih)
    all_goals first | rfl | ((have : a ≠ b := by rintro rfl; simp at *); simp [this])
  ·
    have h1' := h1
    try simp only [decide_eq_true_eq, decide_eq_false_iff_not, Bool.not_eq_true', Bool.not_eq_false', Bool.not_false, Bool.not_true] at h1'
    refine t_skip ?_
    refine t_seq ?_
    refine t_seq ?_
    refine t_region ?_
    refine r_op (o_assign rfl rfl) ?_
    refine r_end ?_
    refine t_block ?_
    refine t_loopL (fun m => ⟨[(0, some (.c (.t none (.sl 1 encI (a))))), (1, some (.c (.t none (.sl 1 encI (b))))), (5, some (.c (.t none (.v (.int .i64 ((m : Int)))))))], [], 0⟩ : Nat → St) (fun m => m ≤ a.length ∧ a.length = b.length ∧ a.take m = b.take m) (fun m => a.length - m) 0 ⟨⟨rfl, ⟨rfl, ⟨rfl, trivial⟩⟩⟩, trivial, rfl⟩ (by exact ⟨Nat.zero_le _, by omega, rfl⟩) ?_
    rintro m hI ih
    try dsimp only at hI ih
    obtain ⟨i1, i2, i3⟩ := hI
    refine t_seq ?_
    refine t_seq ?_
    refine t_region ?_
    refine r_op (o_move rfl rfl) ?_
    refine r_op (o_move rfl rfl) ?_
    refine r_op (o_len rfl rfl rfl) ?_
    refine r_op (o_bin rfl rfl rfl rfl) ?_
    refine r_end ?_
    refine t_cond rfl (fun h2 => ?_) (fun h2 => ?_)
    ·
      have h2' := h2
      try simp only [decide_eq_true_eq, decide_eq_false_iff_not, Bool.not_eq_true', Bool.not_eq_false', Bool.not_false, Bool.not_true] at h2'
      refine t_skip ?_
      refine t_seq ?_
      refine t_block ?_
      refine t_seq ?_
      refine t_draw (fun _ => true) (by kernel_rfl) ?_
      refine d_take 0 rfl rfl (by kernel_rfl) (by kernel_rfl) (by kernel_rfl) (p_move rfl) ?_
      refine d_take 1 rfl rfl (by kernel_rfl) (by kernel_rfl) (by kernel_rfl) (p_move rfl) ?_
      obtain ⟨z3, hz4, b5⟩ := at_get (xs := a) (n := (m : Int)) (by first | omega | (simp; omega)) (by first | omega | (simp; omega))
      refine d_take 2 rfl rfl (by kernel_rfl) (by kernel_rfl) (by kernel_rfl) (p_index (by kernel_rfl) rfl rfl b5 hz4) ?_
      refine d_take 3 rfl rfl (by kernel_rfl) (by kernel_rfl) (by kernel_rfl) (p_load1 (by kernel_rfl) rfl rfl) ?_
      refine d_take 4 rfl rfl (by kernel_rfl) (by kernel_rfl) (by kernel_rfl) (p_move rfl) ?_
      refine d_take 5 rfl rfl (by kernel_rfl) (by kernel_rfl) (by kernel_rfl) (p_move rfl) ?_
      obtain ⟨z6, hz7, b8⟩ := at_get (xs := b) (n := (m : Int)) (by first | omega | (simp; omega)) (by first | omega | (simp; omega))
      refine d_take 6 rfl rfl (by kernel_rfl) (by kernel_rfl) (by kernel_rfl) (p_index (by kernel_rfl) rfl rfl b8 hz7) ?_
      refine d_take 7 rfl rfl (by kernel_rfl) (by kernel_rfl) (by kernel_rfl) (p_load1 (by kernel_rfl) rfl rfl) ?_
      refine d_take 8 rfl rfl (by kernel_rfl) (by kernel_rfl) (by kernel_rfl) (p_bin rfl rfl rfl) ?_
      refine d_end (by kernel_rfl) ?_
      refine t_cond rfl (fun h9 => ?_) (fun h9 => ?_)
      ·
        have h9' := h9
        try simp only [decide_eq_true_eq, decide_eq_false_iff_not, Bool.not_eq_true', Bool.not_eq_false', Bool.not_false, Bool.not_true] at h9'
        refine t_seq ?_
        refine t_region ?_
        refine r_op (o_assign rfl rfl) ?_
        refine r_end ?_
        refine t_ret Try.func49 (.tmp rfl .nil) rfl fun E S w u hI hd => ?_
        refine post_mk hI hd ?_ trivial rfl rfl rfl <;> clear hI hd <;> (try clear ih)
        all_goals first | rfl | (have := ne_at (a := a) (b := b) (by assumption) (by assumption) (by assumption); simp_all)
      ·
        have h9' := h9
        try simp only [decide_eq_true_eq, decide_eq_false_iff_not, Bool.not_eq_true', Bool.not_eq_false', Bool.not_false, Bool.not_true] at h9'
        refine t_skip ?_
        refine t_endblock ?_
        refine t_region ?_
        refine r_op (o_move rfl rfl) ?_
        refine r_op (o_bin rfl rfl rfl rfl) ?_
        refine r_op (o_assign rfl rfl) ?_
        refine r_end ?_
        refine t_le ?_ (ih (m + 1) (by (try dsimp only); omega) (by (try dsimp only); refine ⟨by omega, i2, take_same i3 ?_⟩; simp_all))
        exact ⟨⟨rfl, ⟨rfl, ⟨(eqI (wrS (by omega))), trivial⟩⟩⟩, trivial, rfl⟩
    ·
      have h2' := h2
      try simp only [decide_eq_true_eq, decide_eq_false_iff_not, Bool.not_eq_true', Bool.not_eq_false', Bool.not_false, Bool.not_true] at h2'
      refine t_exit rfl ?_
      refine t_seq ?_
      refine t_region ?_
      refine r_op (o_assign rfl rfl) ?_
      refine r_end ?_
      refine t_ret Try.func49 (.tmp rfl .nil) rfl fun E S w u hI hd => ?_
      refine post_mk hI hd ?_ trivial rfl rfl rfl <;> clear hI hd <;> (try clear ih)
      all_goals first | rfl | ((obtain rfl : m = a.length := by omega); rw [List.take_length, i2, List.take_length] at i3; simp [i3])
set_option maxRecDepth 10000 in
theorem c_laws_eqFact (r : Int) (l : List Int) (r2 : Int) (l2 : List Int) (hl : l.length < 4611686018427387904) : Pu Try.prog 47 [.agg [.t none (.v (.int .i64 (r))), .t none (.sl 1 encI (l))], .agg [.t none (.v (.int .i64 (r2))), .t none (.sl 1 encI (l2))]] [] 0 (.c (.t none (.v (.bool (decide (r = r2 ∧ l = l2)))))) := by
  refine pu_enter Try.func47 rfl (Nat.le_of_ble_eq_true rfl) fun w S => ?_
  refine t_seq ?_
  refine t_region ?_
  refine r_op (o_box 0 rfl rfl rfl rfl) ?_
  refine r_op (o_box 1 rfl rfl rfl rfl) ?_
  refine r_op (o_assign rfl rfl) ?_
  refine r_end ?_
  refine t_seq ?_
  refine t_seq ?_
  refine t_region ?_
  refine r_op (o_fieldb rfl (off := 0) (by kernel_rfl) rfl) ?_
  refine r_op (o_load1b rfl (by kernel_rfl) rfl rfl rfl) ?_
  refine r_op (o_fieldb rfl (off := 0) (by kernel_rfl) rfl) ?_
  refine r_op (o_load1b rfl (by kernel_rfl) rfl rfl rfl) ?_
  refine r_op (o_bin rfl rfl rfl rfl) ?_
  refine r_end ?_
  refine t_cond rfl (fun h1 => ?_) (fun h1 => ?_)
  ·
    have h1' := h1
    try simp only [decide_eq_true_eq, decide_eq_false_iff_not, Bool.not_eq_true', Bool.not_eq_false', Bool.not_false, Bool.not_true] at h1'
    refine t_seq ?_
    refine t_region ?_
    refine r_op (o_assign rfl rfl) ?_
    refine r_end ?_
    refine t_ret Try.func47 (.tmp rfl .nil) rfl fun E S w u hI hd => ?_
    refine post_mk hI hd ?_ trivial rfl rfl rfl <;> clear hI hd <;> (try clear ih)
    all_goals first | rfl | (simp_all <;> omega)
  ·
    have h1' := h1
    try simp only [decide_eq_true_eq, decide_eq_false_iff_not, Bool.not_eq_true', Bool.not_eq_false', Bool.not_false, Bool.not_true] at h1'
    refine t_skip ?_
    refine t_seq ?_
    refine t_seq ?_
    refine t_region ?_
    refine r_op (o_fieldb rfl (off := 1) (by kernel_rfl) rfl) ?_
    refine r_op (o_load1b rfl (by kernel_rfl) rfl rfl rfl) ?_
    refine r_op (o_fieldb rfl (off := 1) (by kernel_rfl) rfl) ?_
    refine r_op (o_load1b rfl (by kernel_rfl) rfl rfl rfl) ?_
    refine r_op (o_call 2 2 false (Go.Proofs.enters_of Try.func49 (by kernel_rfl) rfl) (c_laws_eqIntS (l) (l2) (by first | omega | (simp; omega))) rfl (.cons rfl (.c .t0) (.cons rfl (.c .t0) .nil)) rfl rfl rfl) ?_
    refine r_op (o_not rfl rfl) ?_
    refine r_end ?_
    refine t_cond rfl (fun h2 => ?_) (fun h2 => ?_)
    ·
      have h2' := h2
      try simp only [decide_eq_true_eq, decide_eq_false_iff_not, Bool.not_eq_true', Bool.not_eq_false', Bool.not_false, Bool.not_true] at h2'
      refine t_seq ?_
      refine t_region ?_
      refine r_op (o_assign rfl rfl) ?_
      refine r_end ?_
      refine t_ret Try.func47 (.tmp rfl .nil) rfl fun E S w u hI hd => ?_
      refine post_mk hI hd ?_ trivial rfl rfl rfl <;> clear hI hd <;> (try clear ih)
      all_goals first | rfl | (simp_all <;> omega)
    ·
      have h2' := h2
      try simp only [decide_eq_true_eq, decide_eq_false_iff_not, Bool.not_eq_true', Bool.not_eq_false', Bool.not_false, Bool.not_true] at h2'
      refine t_skip ?_
      refine t_seq ?_
      refine t_region ?_
      refine r_op (o_assign rfl rfl) ?_
      refine r_end ?_
      refine t_ret Try.func47 (.tmp rfl .nil) rfl fun E S w u hI hd => ?_
      refine post_mk hI hd ?_ trivial rfl rfl rfl <;> clear hI hd <;> (try clear ih)
      all_goals first | rfl | (simp_all <;> omega)
set_option maxRecDepth 10000 in
theorem c_laws_eqAtom (r : Int) (l : List Int) (r2 : Int) (l2 : List Int) (hl : l.length < 4611686018427387904) : Pu Try.prog 48 [.agg [.t none (.v (.int .i64 (r))), .t none (.sl 1 encI (l))], .agg [.t none (.v (.int .i64 (r2))), .t none (.sl 1 encI (l2))]] [] 0 (.c (.t none (.v (.bool (decide (r = r2 ∧ l = l2)))))) := by
  refine pu_enter Try.func48 rfl (Nat.le_of_ble_eq_true rfl) fun w S => ?_
  refine t_seq ?_
  refine t_region ?_
  refine r_op (o_box 0 rfl rfl rfl rfl) ?_
  refine r_op (o_box 1 rfl rfl rfl rfl) ?_
  refine r_op (o_assign rfl rfl) ?_
  refine r_end ?_
  refine t_seq ?_
  refine t_seq ?_
  refine t_region ?_
  refine r_op (o_fieldb rfl (off := 0) (by kernel_rfl) rfl) ?_
  refine r_op (o_load1b rfl (by kernel_rfl) rfl rfl rfl) ?_
  refine r_op (o_fieldb rfl (off := 0) (by kernel_rfl) rfl) ?_
  refine r_op (o_load1b rfl (by kernel_rfl) rfl rfl rfl) ?_
  refine r_op (o_bin rfl rfl rfl rfl) ?_
  refine r_end ?_
  refine t_cond rfl (fun h1 => ?_) (fun h1 => ?_)
  ·
    have h1' := h1
    try simp only [decide_eq_true_eq, decide_eq_false_iff_not, Bool.not_eq_true', Bool.not_eq_false', Bool.not_false, Bool.not_true] at h1'
    refine t_seq ?_
    refine t_region ?_
    refine r_op (o_assign rfl rfl) ?_
    refine r_end ?_
    refine t_ret Try.func48 (.tmp rfl .nil) rfl fun E S w u hI hd => ?_
    refine post_mk hI hd ?_ trivial rfl rfl rfl <;> clear hI hd <;> (try clear ih)
    all_goals first | rfl | (simp_all <;> omega)
  ·
    have h1' := h1
    try simp only [decide_eq_true_eq, decide_eq_false_iff_not, Bool.not_eq_true', Bool.not_eq_false', Bool.not_false, Bool.not_true] at h1'
    refine t_skip ?_
    refine t_seq ?_
    refine t_seq ?_
    refine t_region ?_
    refine r_op (o_fieldb rfl (off := 1) (by kernel_rfl) rfl) ?_
    refine r_op (o_load1b rfl (by kernel_rfl) rfl rfl rfl) ?_
    refine r_op (o_fieldb rfl (off := 1) (by kernel_rfl) rfl) ?_
    refine r_op (o_load1b rfl (by kernel_rfl) rfl rfl rfl) ?_
    refine r_op (o_call 2 2 false (Go.Proofs.enters_of Try.func49 (by kernel_rfl) rfl) (c_laws_eqIntS (l) (l2) (by first | omega | (simp; omega))) rfl (.cons rfl (.c .t0) (.cons rfl (.c .t0) .nil)) rfl rfl rfl) ?_
    refine r_op (o_not rfl rfl) ?_
    refine r_end ?_
    refine t_cond rfl (fun h2 => ?_) (fun h2 => ?_)
    ·
      have h2' := h2
      try simp only [decide_eq_true_eq, decide_eq_false_iff_not, Bool.not_eq_true', Bool.not_eq_false', Bool.not_false, Bool.not_true] at h2'
      refine t_seq ?_
      refine t_region ?_
      refine r_op (o_assign rfl rfl) ?_
      refine r_end ?_
      refine t_ret Try.func48 (.tmp rfl .nil) rfl fun E S w u hI hd => ?_
      refine post_mk hI hd ?_ trivial rfl rfl rfl <;> clear hI hd <;> (try clear ih)
      all_goals first | rfl | (simp_all <;> omega)
    ·
      have h2' := h2
      try simp only [decide_eq_true_eq, decide_eq_false_iff_not, Bool.not_eq_true', Bool.not_eq_false', Bool.not_false, Bool.not_true] at h2'
      refine t_skip ?_
      refine t_seq ?_
      refine t_region ?_
      refine r_op (o_assign rfl rfl) ?_
      refine r_end ?_
      refine t_ret Try.func48 (.tmp rfl .nil) rfl fun E S w u hI hd => ?_
      refine post_mk hI hd ?_ trivial rfl rfl rfl <;> clear hI hd <;> (try clear ih)
      all_goals first | rfl | (simp_all <;> omega)
set_option maxRecDepth 10000 in
theorem c_laws_markIntS (U : Value) (l : List Int) (k : Int) (hk : 0 ≤ k) (hkl : k + l.length < 4611686018427387904) : Mu Try.prog 51 [.c (.own 0), .c (.t none (.v (.int .i64 (k))))] [(0, some (.row (some U) 3 true 1 encI (l)))] 1 [(0, some (.row (some U) 3 true 1 encI (seqI k l.length)))] 1 (.c (.t none (.v (.int .i64 (k + l.length))))) := by
  refine mu_enter Try.func51 rfl (Nat.le_of_ble_eq_true rfl) fun w S M => ?_
  refine t_seq ?_
  refine t_region ?_
  refine r_op (o_assign rfl rfl) ?_
  refine r_end ?_
  refine t_seq ?_
  refine t_seq ?_
  refine t_region ?_
  refine r_op (o_assign rfl rfl) ?_
  refine r_end ?_
  refine t_block ?_
  refine t_loopL (fun m => ⟨[(0, some (.c (.own 0))), (1, some (.c (.t none (.v (.int .i64 (k + m)))))), (4, some (.c (.t none (.v (.int .i64 (0)))))), (5, some (.c (.t none (.v (.int .i64 ((m : Int)))))))], [(0, some (.row (some U) 3 true 1 encI (seqI k m ++ l.drop m)))], 1⟩ : Nat → St) (fun m => m ≤ l.length) (fun m => l.length - m) 0 ⟨⟨rfl, ⟨(eqI (by simp)), ⟨rfl, ⟨rfl, trivial⟩⟩⟩⟩, ⟨(eqR (by simp [seqI])), trivial⟩, rfl⟩ (by simp) ?_
  rintro m hI ih
  try dsimp only at hI ih
  have hlen : (seqI k m ++ l.drop m).length = l.length := by simp [seqI_length]; omega
  refine t_seq ?_
  refine t_seq ?_
  refine t_region ?_
  refine r_op (o_move rfl rfl) ?_
  refine r_op (o_move rfl rfl) ?_
  refine r_op (o_leno rfl rfl rfl rfl) ?_
  refine r_op (o_bin rfl rfl rfl rfl) ?_
  refine r_end ?_
  refine t_cond rfl (fun h1 => ?_) (fun h1 => ?_)
  ·
    have h1' := h1
    try simp only [decide_eq_true_eq, decide_eq_false_iff_not, Bool.not_eq_true', Bool.not_eq_false', Bool.not_false, Bool.not_true] at h1'
    refine t_skip ?_
    refine t_seq ?_
    refine t_block ?_
    refine t_seq ?_
    refine t_region ?_
    refine r_op (o_move rfl rfl) ?_
    refine r_op (o_move rfl rfl) ?_
    refine r_op (o_move rfl rfl) ?_
    obtain ⟨z2, hz3, b4⟩ := at_get (xs := seqI k m ++ l.drop m) (n := (m : Int)) (by first | omega | (simp [seqI_length]; omega)) (by first | omega | (simp [seqI_length]; omega))
    refine r_op (o_indexo rfl (by kernel_rfl) rfl rfl rfl b4 (at_lt b4 hz3)) ?_
    refine r_op (o_storeo (k + m) (n := 1) (by kernel_rfl) rfl rfl hz3 rfl rfl rfl rfl (.cons .sc .nil) rfl (fun j h1 h2 => by simp at h1 h2; omega)) ?_
    refine r_end ?_
    refine t_region ?_
    refine r_op (o_move rfl rfl) ?_
    refine r_op (o_bin rfl rfl rfl rfl) ?_
    refine r_op (o_assign rfl rfl) ?_
    refine r_end ?_
    refine t_endblock ?_
    refine t_region ?_
    refine r_op (o_move rfl rfl) ?_
    refine r_op (o_bin rfl rfl rfl rfl) ?_
    refine r_op (o_assign rfl rfl) ?_
    refine r_end ?_
    refine t_le ?_ (ih (m + 1) (by (try dsimp only); omega) (by (try dsimp only); omega))
    exact ⟨⟨rfl, ⟨(eqI (by rw [wr64 (by omega) (by omega)]; omega)), ⟨rfl, ⟨(eqI (wrS (by omega))), trivial⟩⟩⟩⟩, ⟨(eqR (seq_set (z := 0) (by omega))), trivial⟩, rfl⟩
  ·
    have h1' := h1
    try simp only [decide_eq_true_eq, decide_eq_false_iff_not, Bool.not_eq_true', Bool.not_eq_false', Bool.not_false, Bool.not_true] at h1'
    refine t_exit rfl ?_
    refine t_seq ?_
    refine t_region ?_
    refine r_op (o_move rfl rfl) ?_
    refine r_op (o_assign rfl rfl) ?_
    refine r_end ?_
    refine t_ret Try.func51 (.tmp rfl .nil) rfl fun E S w u hI hd => ?_
    refine postM_mk hI hd ?_ ⟨eqR ?_, trivial⟩ rfl rfl <;> clear hI hd <;> (try clear ih)
    all_goals first | rfl | ((obtain rfl : m = l.length := by omega); simp)
set_option maxRecDepth 10000 in
theorem c_laws_markAtom (U : Value) (r : Int) (l : List Int) (k : Int) (hk : 0 ≤ k) (hkl : k + l.length < 4611686018427387904) : Mu Try.prog 50 [.agg [.t none (.v (.int .i64 (r))), .own 0], .c (.t none (.v (.int .i64 (k))))] [(0, some (.row (some U) 3 true 1 encI (l)))] 1 [(0, some (.row (some U) 3 true 1 encI (seqI k l.length)))] 1 (.c (.t none (.v (.int .i64 (k + l.length))))) := by
  refine mu_enter Try.func50 rfl (Nat.le_of_ble_eq_true rfl) fun w S M => ?_
  refine t_seq ?_
  refine t_region ?_
  refine r_op (o_box 1 rfl rfl rfl rfl) ?_
  refine r_op (o_assign rfl rfl) ?_
  refine r_end ?_
  refine t_seq ?_
  refine t_region ?_
  refine r_op (o_fieldb rfl (off := 1) (by kernel_rfl) rfl) ?_
  refine r_op (o_load1b rfl (by kernel_rfl) rfl rfl rfl) ?_
  refine r_op (o_move rfl rfl) ?_
  refine r_op (o_callM 0 (Go.Proofs.enters_of Try.func51 (by kernel_rfl) rfl) (fun U => c_laws_markIntS U (l) (k) (by first | omega | (simp; omega)) (by first | omega | (simp; omega))) rfl rfl (.cons rfl .own (.cons rfl .t0 .nil)) rfl) ?_
  refine r_op (o_assign rfl rfl) ?_
  refine r_end ?_
  refine t_seq ?_
  refine t_region ?_
  refine r_op (o_move rfl rfl) ?_
  refine r_op (o_assign rfl rfl) ?_
  refine r_end ?_
  refine t_ret Try.func50 (.tmp rfl .nil) rfl fun E S w u hI hd => ?_
  refine postM_mk hI hd ?_ ⟨eqR ?_, trivial⟩ rfl rfl <;> clear hI hd <;> (try clear ih)
  all_goals first | rfl | (simp_all <;> omega)
set_option maxRecDepth 10000 in
theorem c_laws_markFact (U : Value) (r : Int) (l : List Int) (k : Int) (hk : 0 ≤ k) (hkl : k + l.length < 4611686018427387904) : Mu Try.prog 52 [.agg [.t none (.v (.int .i64 (r))), .own 0], .c (.t none (.v (.int .i64 (k))))] [(0, some (.row (some U) 3 true 1 encI (l)))] 1 [(0, some (.row (some U) 3 true 1 encI (seqI k l.length)))] 1 (.c (.t none (.v (.int .i64 (k + l.length))))) := by
  refine mu_enter Try.func52 rfl (Nat.le_of_ble_eq_true rfl) fun w S M => ?_
  refine t_seq ?_
  refine t_region ?_
  refine r_op (o_box 1 rfl rfl rfl rfl) ?_
  refine r_op (o_assign rfl rfl) ?_
  refine r_end ?_
  refine t_seq ?_
  refine t_region ?_
  refine r_op (o_fieldb rfl (off := 1) (by kernel_rfl) rfl) ?_
  refine r_op (o_load1b rfl (by kernel_rfl) rfl rfl rfl) ?_
  refine r_op (o_move rfl rfl) ?_
  refine r_op (o_callM 0 (Go.Proofs.enters_of Try.func51 (by kernel_rfl) rfl) (fun U => c_laws_markIntS U (l) (k) (by first | omega | (simp; omega)) (by first | omega | (simp; omega))) rfl rfl (.cons rfl .own (.cons rfl .t0 .nil)) rfl) ?_
  refine r_op (o_assign rfl rfl) ?_
  refine r_end ?_
  refine t_seq ?_
  refine t_region ?_
  refine r_op (o_move rfl rfl) ?_
  refine r_op (o_assign rfl rfl) ?_
  refine r_end ?_
  refine t_ret Try.func52 (.tmp rfl .nil) rfl fun E S w u hI hd => ?_
  refine postM_mk hI hd ?_ ⟨eqR ?_, trivial⟩ rfl rfl <;> clear hI hd <;> (try clear ih)
  all_goals first | rfl | (simp_all <;> omega)
set_option maxRecDepth 10000 in
theorem c_laws_heldIntS (l : List Int) (k : Int) (hk : 0 ≤ k) (hkl : k + l.length < 4611686018427387904) : Pu Try.prog 70 [.c (.t none (.sl 1 encI (l))), .c (.t none (.v (.int .i64 (k))))] [] 0 (.c (.t none (.v (.int .i64 (if l = seqI k l.length then k + l.length else -1))))) := by
  refine pu_enter Try.func70 rfl (Nat.le_of_ble_eq_true rfl) fun w S => ?_
  refine t_seq ?_
  refine t_region ?_
  refine r_op (o_assign rfl rfl) ?_
  refine r_end ?_
  refine t_seq ?_
  refine t_seq ?_
  refine t_region ?_
  refine r_op (o_assign rfl rfl) ?_
  refine r_end ?_
  refine t_block ?_
  refine t_loopL (fun m => ⟨[(0, some (.c (.t none (.sl 1 encI (l))))), (1, some (.c (.t none (.v (.int .i64 (k + m)))))), (5, some (.c (.t none (.v (.int .i64 ((m : Int)))))))], [], 0⟩ : Nat → St) (fun m => m ≤ l.length ∧ l.take m = seqI k m) (fun m => l.length - m) 0 ⟨⟨rfl, ⟨(eqI (by simp)), ⟨rfl, trivial⟩⟩⟩, trivial, rfl⟩ (by exact ⟨Nat.zero_le _, rfl⟩) ?_
  rintro m hI ih
  try dsimp only at hI ih
  obtain ⟨i1, i2⟩ := hI
  refine t_seq ?_
  refine t_seq ?_
  refine t_region ?_
  refine r_op (o_move rfl rfl) ?_
  refine r_op (o_move rfl rfl) ?_
  refine r_op (o_len rfl rfl rfl) ?_
  refine r_op (o_bin rfl rfl rfl rfl) ?_
  refine r_end ?_
  refine t_cond rfl (fun h1 => ?_) (fun h1 => ?_)
  ·
    have h1' := h1
    try simp only [decide_eq_true_eq, decide_eq_false_iff_not, Bool.not_eq_true', Bool.not_eq_false', Bool.not_false, Bool.not_true] at h1'
    refine t_skip ?_
    refine t_seq ?_
    refine t_block ?_
    refine t_seq ?_
    refine t_seq ?_
    refine t_region ?_
    refine r_op (o_move rfl rfl) ?_
    refine r_op (o_move rfl rfl) ?_
    obtain ⟨z2, hz3, b4⟩ := at_get (xs := l) (n := (m : Int)) (by first | omega | (simp; omega)) (by first | omega | (simp; omega))
    refine r_op (o_index rfl (by kernel_rfl) rfl rfl b4 hz3) ?_
    refine r_op (o_load1 rfl (by kernel_rfl) rfl rfl) ?_
    refine r_op (o_move rfl rfl) ?_
    refine r_op (o_bin rfl rfl rfl rfl) ?_
    refine r_end ?_
    refine t_cond rfl (fun h5 => ?_) (fun h5 => ?_)
    ·
      have h5' := h5
      try simp only [decide_eq_true_eq, decide_eq_false_iff_not, Bool.not_eq_true', Bool.not_eq_false', Bool.not_false, Bool.not_true] at h5'
      refine t_seq ?_
      refine t_region ?_
      refine r_op (o_assign rfl rfl) ?_
      refine r_end ?_
      refine t_ret Try.func70 (.tmp rfl .nil) rfl fun E S w u hI hd => ?_
      refine post_mk hI hd ?_ trivial rfl rfl rfl <;> clear hI hd <;> (try clear ih)
      all_goals first | rfl | (rw [if_neg (held_ne i2 (by assumption) (by assumption))])
    ·
      have h5' := h5
      try simp only [decide_eq_true_eq, decide_eq_false_iff_not, Bool.not_eq_true', Bool.not_eq_false', Bool.not_false, Bool.not_true] at h5'
      refine t_skip ?_
      refine t_region ?_
      refine r_op (o_move rfl rfl) ?_
      refine r_op (o_bin rfl rfl rfl rfl) ?_
      refine r_op (o_assign rfl rfl) ?_
      refine r_end ?_
      refine t_endblock ?_
      refine t_region ?_
      refine r_op (o_move rfl rfl) ?_
      refine r_op (o_bin rfl rfl rfl rfl) ?_
      refine r_op (o_assign rfl rfl) ?_
      refine r_end ?_
      refine t_le ?_ (ih (m + 1) (by (try dsimp only); omega) (by (try dsimp only); exact ⟨by omega, held_step i2 (by assumption) rfl (by omega)⟩))
      exact ⟨⟨rfl, ⟨(eqI (by rw [wr64 (by omega) (by omega)]; omega)), ⟨(eqI (wrS (by omega))), trivial⟩⟩⟩, trivial, rfl⟩
  ·
    have h1' := h1
    try simp only [decide_eq_true_eq, decide_eq_false_iff_not, Bool.not_eq_true', Bool.not_eq_false', Bool.not_false, Bool.not_true] at h1'
    refine t_exit rfl ?_
    refine t_seq ?_
    refine t_region ?_
    refine r_op (o_move rfl rfl) ?_
    refine r_op (o_assign rfl rfl) ?_
    refine r_end ?_
    refine t_ret Try.func70 (.tmp rfl .nil) rfl fun E S w u hI hd => ?_
    refine post_mk hI hd ?_ trivial rfl rfl rfl <;> clear hI hd <;> (try clear ih)
    all_goals first | rfl | ((obtain rfl : m = l.length := by omega); rw [List.take_length] at i2; rw [if_pos i2])
set_option maxRecDepth 10000 in
theorem c_laws_heldFact (r : Int) (l : List Int) (k : Int) (hk : 0 ≤ k) (hkl : k + l.length < 4611686018427387904) : Pu Try.prog 53 [.agg [.t none (.v (.int .i64 (r))), .t none (.sl 1 encI (l))], .c (.t none (.v (.int .i64 (k))))] [] 0 (.c (.t none (.v (.int .i64 (if l = seqI k l.length then k + l.length else -1))))) := by
  refine pu_enter Try.func53 rfl (Nat.le_of_ble_eq_true rfl) fun w S => ?_
  refine t_seq ?_
  refine t_region ?_
  refine r_op (o_box 0 rfl rfl rfl rfl) ?_
  refine r_op (o_assign rfl rfl) ?_
  refine r_end ?_
  refine t_seq ?_
  refine t_region ?_
  refine r_op (o_fieldb rfl (off := 1) (by kernel_rfl) rfl) ?_
  refine r_op (o_load1b rfl (by kernel_rfl) rfl rfl rfl) ?_
  refine r_op (o_move rfl rfl) ?_
  refine r_op (o_call 1 1 false (Go.Proofs.enters_of Try.func70 (by kernel_rfl) rfl) (c_laws_heldIntS (l) (k) (by first | omega | (simp; omega)) (by first | omega | (simp; omega))) rfl (.cons rfl (.c .t0) (.cons rfl (.c .t0) .nil)) rfl rfl rfl) ?_
  refine r_op (o_assign rfl rfl) ?_
  refine r_end ?_
  refine t_seq ?_
  refine t_seq ?_
  refine t_region ?_
  refine r_op (o_move rfl rfl) ?_
  refine r_op (o_bin rfl rfl rfl rfl) ?_
  refine r_end ?_
  refine t_cond rfl (fun h1 => ?_) (fun h1 => ?_)
  ·
    have h1' := h1
    try simp only [decide_eq_true_eq, decide_eq_false_iff_not, Bool.not_eq_true', Bool.not_eq_false', Bool.not_false, Bool.not_true] at h1'
    refine t_seq ?_
    refine t_region ?_
    refine r_op (o_assign rfl rfl) ?_
    refine r_end ?_
    refine t_ret Try.func53 (.tmp rfl .nil) rfl fun E S w u hI hd => ?_
    refine post_mk hI hd ?_ trivial rfl rfl rfl <;> clear hI hd <;> (try clear ih)
    all_goals first | rfl | (split at h1' <;> first | omega | simp_all)
  ·
    have h1' := h1
    try simp only [decide_eq_true_eq, decide_eq_false_iff_not, Bool.not_eq_true', Bool.not_eq_false', Bool.not_false, Bool.not_true] at h1'
    refine t_skip ?_
    refine t_seq ?_
    refine t_region ?_
    refine r_op (o_move rfl rfl) ?_
    refine r_op (o_assign rfl rfl) ?_
    refine r_end ?_
    refine t_ret Try.func53 (.tmp rfl .nil) rfl fun E S w u hI hd => ?_
    refine post_mk hI hd ?_ trivial rfl rfl rfl <;> clear hI hd <;> (try clear ih)
    all_goals first | rfl | (rfl)
set_option maxRecDepth 10000 in
theorem c_laws_FnExactInstantiate (r : Int) (ts b : List Int) (hl : ts.length ≤ 9223372036854775807) (hlb : b.length ≤ 9223372036854775807) (ho : ∀ x ∈ ts, okI x) (hob : ∀ x ∈ b, okI x) : Pu Try.prog 11 [.agg [.t none (.v (.int .i64 (r))), .t none (.sl 1 encI (ts))], .c (.t none (.sl 1 encI (b)))] [] 0 (.c (.t none (.v (.bool (true))))) := by
  refine pu_enter Try.func11 rfl (Nat.le_of_ble_eq_true rfl) fun w S => ?_
  refine t_seq ?_
  refine t_region ?_
  refine r_op (o_box 0 rfl rfl rfl rfl) ?_
  refine r_op (o_assign rfl rfl) ?_
  refine r_end ?_
  refine t_seq ?_
  refine t_seq ?_
  refine t_region ?_
  refine r_op (o_move rfl rfl) ?_
  refine r_op (o_len rfl rfl rfl) ?_
  refine r_op (o_bin rfl rfl rfl rfl) ?_
  refine r_end ?_
  refine t_cond rfl (fun h1 => ?_) (fun h1 => ?_)
  ·
    have h1' := h1
    try simp only [decide_eq_true_eq, decide_eq_false_iff_not, Bool.not_eq_true', Bool.not_eq_false', Bool.not_false, Bool.not_true] at h1'
    refine t_seq ?_
    refine t_region ?_
    refine r_op (o_assign rfl rfl) ?_
    refine r_end ?_
    refine t_ret Try.func11 (.tmp rfl .nil) rfl fun E S w u hI hd => ?_
    refine post_mk hI hd ?_ trivial rfl rfl rfl <;> clear hI hd <;> (try clear ih)
    all_goals first | rfl | (exfalso; first | (simp [seqI_length] at *; done) | (simp [seqI_length] at *; omega))
  ·
    have h1' := h1
    try simp only [decide_eq_true_eq, decide_eq_false_iff_not, Bool.not_eq_true', Bool.not_eq_false', Bool.not_false, Bool.not_true] at h1'
    refine t_skip ?_
    refine t_seq ?_
    refine t_region ?_
    refine r_op (o_assign rfl rfl) ?_
    refine r_end ?_
    refine t_seq ?_
    refine t_region ?_
    refine r_op (o_loadAb rfl (n := 2) (by kernel_rfl) (by kernel_rfl) rfl rfl rfl) ?_
    refine r_op (o_move rfl rfl) ?_
    refine r_op (o_call 1 1 false (Go.Proofs.enters_of Try.func42 (by kernel_rfl) rfl) (c_laws_szAtom (r) (ts) (1048576) (by first | omega | assumption | (simp; done) | (simp; omega) | (simp [seqI_length]; done) | (simp [seqI_length]; omega) | (split at * <;> omega) | (have := instV_len (by assumption); (try simp only [seqI_length]); split at * <;> omega)) (by first | omega | assumption | (simp; done) | (simp; omega) | (simp [seqI_length]; done) | (simp [seqI_length]; omega) | (split at * <;> omega) | (have := instV_len (by assumption); (try simp only [seqI_length]); split at * <;> omega)) (by first | omega | assumption | (simp; done) | (simp; omega) | (simp [seqI_length]; done) | (simp [seqI_length]; omega) | (split at * <;> omega) | (have := instV_len (by assumption); (try simp only [seqI_length]); split at * <;> omega))) rfl (.cons rfl (.agg (.cons .t0 (.cons .t0 .nil))) (.cons rfl (.c .t0) .nil)) rfl rfl rfl) ?_
    refine r_op (o_assign rfl rfl) ?_
    refine r_end ?_
    refine t_seq ?_
    refine t_seq ?_
    refine t_region ?_
    refine r_op (o_move rfl rfl) ?_
    refine r_op (o_bin rfl rfl rfl rfl) ?_
    refine r_end ?_
    refine t_cond rfl (fun h2 => ?_) (fun h2 => ?_)
    ·
      have h2' := h2
      try simp only [decide_eq_true_eq, decide_eq_false_iff_not, Bool.not_eq_true', Bool.not_eq_false', Bool.not_false, Bool.not_true] at h2'
      refine t_seq ?_
      refine t_region ?_
      refine r_op (o_assign rfl rfl) ?_
      refine r_end ?_
      refine t_ret Try.func11 (.tmp rfl .nil) rfl fun E S w u hI hd => ?_
      refine post_mk hI hd ?_ trivial rfl rfl rfl <;> clear hI hd <;> (try clear ih)
      all_goals first | rfl | (exfalso; first | (simp [seqI_length] at *; done) | (simp [seqI_length] at *; omega))
    ·
      have h2' := h2
      try simp only [decide_eq_true_eq, decide_eq_false_iff_not, Bool.not_eq_true', Bool.not_eq_false', Bool.not_false, Bool.not_true] at h2'
      refine t_skip ?_
      refine t_seq ?_
      refine t_region ?_
      refine r_op (o_loadAb rfl (n := 2) (by kernel_rfl) (by kernel_rfl) rfl rfl rfl) ?_
      refine r_op (o_call 1 5 false (Go.Proofs.enters_of Try.func44 (by kernel_rfl) rfl) (c_laws_toAtom (r) (ts) (by first | omega | assumption | (simp; done) | (simp; omega) | (simp [seqI_length]; done) | (simp [seqI_length]; omega) | (split at * <;> omega) | (have := instV_len (by assumption); (try simp only [seqI_length]); split at * <;> omega))) rfl (.cons rfl (.agg (.cons .t0 (.cons .t0 .nil))) .nil) rfl rfl rfl) ?_
      refine r_op (o_move rfl rfl) ?_
      refine r_op (o_call 5 6 false (Go.Proofs.enters_of Try.func45 (by kernel_rfl) rfl) (c_laws_toIntS (b) (by first | omega | assumption | (simp; done) | (simp; omega) | (simp [seqI_length]; done) | (simp [seqI_length]; omega) | (split at * <;> omega) | (have := instV_len (by assumption); (try simp only [seqI_length]); split at * <;> omega))) rfl (.cons rfl (.c .t0) .nil) rfl rfl rfl) ?_
      rcases hm3 : instV ((b)) ((ts)) with _ | q5
      ·
        refine r_op (o_call 6 10 false (Go.Proofs.enters_of Try.func43 (by kernel_rfl) rfl) (c_spec_Instantiate ((r)) ((ts)) ((b)) (by first | omega | assumption | (simp; done) | (simp; omega) | (simp [seqI_length]; done) | (simp [seqI_length]; omega) | (split at * <;> omega) | (have := instV_len (by assumption); (try simp only [seqI_length]); split at * <;> omega)) (by first | omega | assumption | (simp; done) | (simp; omega) | (simp [seqI_length]; done) | (simp [seqI_length]; omega) | (split at * <;> omega) | (have := instV_len (by assumption); (try simp only [seqI_length]); split at * <;> omega)) (by first | omega | assumption | (simp; done) | (simp; omega) | (simp [seqI_length]; done) | (simp [seqI_length]; omega) | (split at * <;> omega) | (have := instV_len (by assumption); (try simp only [seqI_length]); split at * <;> omega)) _ hm3) rfl (.cons rfl (.agg (.cons .t0 (.cons (.own rfl) .nil))) (.cons rfl (.c (.own rfl)) .nil)) rfl rfl rfl) ?_
        refine r_op (o_move rfl rfl) ?_
        refine r_op (o_extract rfl rfl rfl rfl) ?_
        refine r_op (o_extract rfl rfl rfl rfl) ?_
        refine r_op (o_alloc 10 (zs := [.int .i64 (0), .slice none 0 0]) rfl rfl (by kernel_rfl) rfl) ?_
        refine r_op (o_storeb (n := 2) (by kernel_rfl) rfl rfl rfl rfl rfl rfl) ?_
        refine r_op (o_assign rfl rfl) ?_
        refine r_end ?_
        refine t_seq ?_
        refine t_region ?_
        refine r_op (o_loadAb rfl (n := 2) (by kernel_rfl) (by kernel_rfl) rfl rfl rfl) ?_
        refine r_op (o_call 11 15 false (Go.Proofs.enters_of Try.func44 (by kernel_rfl) rfl) (c_laws_toAtom (r) (ts) (by first | omega | assumption | (simp; done) | (simp; omega) | (simp [seqI_length]; done) | (simp [seqI_length]; omega) | (split at * <;> omega) | (have := instV_len (by assumption); (try simp only [seqI_length]); split at * <;> omega))) rfl (.cons rfl (.agg (.cons .t0 (.cons .t0 .nil))) .nil) rfl rfl rfl) ?_
        refine r_op (o_alloc 15 (zs := [.int .i64 (0), .slice none 0 0]) rfl rfl (by kernel_rfl) rfl) ?_
        refine r_op (o_storeb (n := 2) (by kernel_rfl) rfl rfl rfl rfl rfl rfl) ?_
        refine r_end ?_
        refine t_seq ?_
        refine t_region ?_
        refine r_op (o_move rfl rfl) ?_
        refine r_op (o_call 16 17 false (Go.Proofs.enters_of Try.func45 (by kernel_rfl) rfl) (c_laws_toIntS (b) (by first | omega | assumption | (simp; done) | (simp; omega) | (simp [seqI_length]; done) | (simp [seqI_length]; omega) | (split at * <;> omega) | (have := instV_len (by assumption); (try simp only [seqI_length]); split at * <;> omega))) rfl (.cons rfl (.c .t0) .nil) rfl rfl rfl) ?_
        refine r_op (o_assign rfl rfl) ?_
        refine r_end ?_
        refine t_seq ?_
        refine t_region ?_
        refine r_op (o_loadAb rfl (n := 2) (by kernel_rfl) (by kernel_rfl) rfl rfl rfl) ?_
        refine r_op (o_move rfl rfl) ?_
        refine r_op (o_call 17 21 false (Go.Proofs.enters_of Try.func46 (by kernel_rfl) rfl) (c_impl_Instantiate ((r)) ((ts)) ((b)) (by first | omega | assumption | (simp; done) | (simp; omega) | (simp [seqI_length]; done) | (simp [seqI_length]; omega) | (split at * <;> omega) | (have := instV_len (by assumption); (try simp only [seqI_length]); split at * <;> omega)) (by first | omega | assumption | (simp; done) | (simp; omega) | (simp [seqI_length]; done) | (simp [seqI_length]; omega) | (split at * <;> omega) | (have := instV_len (by assumption); (try simp only [seqI_length]); split at * <;> omega)) _ hm3) rfl (.cons rfl (.agg (.cons .t0 (.cons (.own rfl) .nil))) (.cons rfl (.c (.own rfl)) .nil)) rfl rfl rfl) ?_
        refine r_op (o_move rfl rfl) ?_
        refine r_op (o_extract rfl rfl rfl rfl) ?_
        refine r_op (o_extract rfl rfl rfl rfl) ?_
        refine r_op (o_alloc 21 (zs := [.int .i64 (0), .slice none 0 0]) rfl rfl (by kernel_rfl) rfl) ?_
        refine r_op (o_storeb (n := 2) (by kernel_rfl) rfl rfl rfl rfl rfl rfl) ?_
        refine r_op (o_assign rfl rfl) ?_
        refine r_end ?_
        refine t_seq ?_
        refine t_seq ?_
        refine t_region ?_
        refine r_op (o_loadAb rfl (n := 2) (by kernel_rfl) (by kernel_rfl) rfl rfl rfl) ?_
        refine r_op (o_loadAb rfl (n := 2) (by kernel_rfl) (by kernel_rfl) rfl rfl rfl) ?_
        refine r_op (o_call 22 22 false (Go.Proofs.enters_of Try.func47 (by kernel_rfl) rfl) (c_laws_eqFact (0) ([]) (0) ([]) (by first | omega | assumption | (simp; done) | (simp; omega) | (simp [seqI_length]; done) | (simp [seqI_length]; omega) | (split at * <;> omega) | (have := instV_len (by assumption); (try simp only [seqI_length]); split at * <;> omega))) rfl (.cons rfl (.agg (.cons .t0 (.cons .nil .nil))) (.cons rfl (.agg (.cons .t0 (.cons .nil .nil))) .nil)) rfl rfl rfl) ?_
        refine r_op (o_not rfl rfl) ?_
        refine r_op (o_move rfl rfl) ?_
        refine r_guard rfl rfl rfl (fun g9 => ?_) (fun g9 => ?_)
        ·
          have g9' := g9
          try simp only [decide_eq_true_eq, decide_eq_false_iff_not, Bool.not_eq_true', Bool.not_eq_false', Bool.not_false, Bool.not_true] at g9'
          refine r_op (o_move rfl rfl) ?_
          refine r_guard rfl rfl rfl (fun _ => ?_) (fun h' => (Bool.noConfusion (g9.symm.trans h')))
          refine r_op (o_move rfl rfl) ?_
          refine r_guard rfl rfl rfl (fun _ => ?_) (fun h' => (Bool.noConfusion (g9.symm.trans h')))
          refine r_op (o_neB rfl Try.underlying4 rfl rfl) ?_
          refine r_op (o_pickF rfl rfl g9 rfl) ?_
          refine r_end ?_
          refine t_cond rfl (fun h10 => ?_) (fun h10 => ?_)
          ·
            have h10' := h10
            skip
            refine t_seq ?_
            refine t_region ?_
            refine r_op (o_assign rfl rfl) ?_
            refine r_end ?_
            refine t_ret Try.func11 (.tmp rfl .nil) rfl fun E S w u hI hd => ?_
            refine post_mk hI hd ?_ trivial rfl rfl rfl <;> clear hI hd <;> (try clear ih)
            all_goals first | rfl | (exfalso; first | (simp [seqI_length] at *; done) | (simp [seqI_length] at *; omega))
          ·
            have h10' := h10
            skip
            refine t_skip ?_
            refine t_seq ?_
            refine t_seq ?_
            refine t_draw (fun _ => true) (by kernel_rfl) ?_
            refine d_take 0 rfl rfl (by kernel_rfl) (by kernel_rfl) (by kernel_rfl) (p_loadAb (n := 2) (by kernel_rfl) (by kernel_rfl) rfl rfl rfl) ?_
            refine d_take 1 rfl rfl (by kernel_rfl) (by kernel_rfl) (by kernel_rfl) (p_loadAb (n := 2) (by kernel_rfl) (by kernel_rfl) rfl rfl rfl) ?_
            refine d_only 2 rfl (by kernel_rfl) rfl (o_call 22 26 false (Go.Proofs.enters_of Try.func44 (by kernel_rfl) rfl) (c_laws_toAtom (r) (ts) (by first | omega | assumption | (simp; done) | (simp; omega) | (simp [seqI_length]; done) | (simp [seqI_length]; omega) | (split at * <;> omega) | (have := instV_len (by assumption); (try simp only [seqI_length]); split at * <;> omega))) rfl (.cons rfl (.agg (.cons .t0 (.cons .t0 .nil))) .nil) rfl rfl rfl) ?_
            refine d_only 3 rfl (by kernel_rfl) rfl (o_call 26 26 false (Go.Proofs.enters_of Try.func48 (by kernel_rfl) rfl) (c_laws_eqAtom ((r)) ((ts)) ((r)) ((ts)) (by first | omega | assumption | (simp; done) | (simp; omega) | (simp [seqI_length]; done) | (simp [seqI_length]; omega) | (split at * <;> omega) | (have := instV_len (by assumption); (try simp only [seqI_length]); split at * <;> omega))) rfl (.cons rfl (.agg (.cons .t0 (.cons (.own rfl) .nil))) (.cons rfl (.agg (.cons .t0 (.cons (.own rfl) .nil))) .nil)) rfl rfl rfl) ?_
            refine d_take 4 rfl rfl (by kernel_rfl) (by kernel_rfl) (by kernel_rfl) (p_not rfl) ?_
            refine d_end (by kernel_rfl) ?_
            refine t_cond rfl (fun h11 => ?_) (fun h11 => ?_)
            ·
              have h11' := h11
              try simp only [decide_eq_true_eq, decide_eq_false_iff_not, Bool.not_eq_true', Bool.not_eq_false', Bool.not_false, Bool.not_true] at h11'
              refine t_seq ?_
              refine t_region ?_
              refine r_op (o_assign rfl rfl) ?_
              refine r_end ?_
              refine t_ret Try.func11 (.tmp rfl .nil) rfl fun E S w u hI hd => ?_
              refine post_mk hI hd ?_ trivial rfl rfl rfl <;> clear hI hd <;> (try clear ih)
              all_goals first | rfl | (exfalso; first | (simp [seqI_length] at *; done) | (simp [seqI_length] at *; omega))
            ·
              have h11' := h11
              try simp only [decide_eq_true_eq, decide_eq_false_iff_not, Bool.not_eq_true', Bool.not_eq_false', Bool.not_false, Bool.not_true] at h11'
              refine t_skip ?_
              refine t_seq ?_
              refine t_seq ?_
              refine t_region ?_
              refine r_op (o_move rfl rfl) ?_
              refine r_op (o_move rfl rfl) ?_
              refine r_op (o_call 26 27 false (Go.Proofs.enters_of Try.func45 (by kernel_rfl) rfl) (c_laws_toIntS (b) (by first | omega | assumption | (simp; done) | (simp; omega) | (simp [seqI_length]; done) | (simp [seqI_length]; omega) | (split at * <;> omega) | (have := instV_len (by assumption); (try simp only [seqI_length]); split at * <;> omega))) rfl (.cons rfl (.c .t0) .nil) rfl rfl rfl) ?_
              refine r_op (o_call 27 27 false (Go.Proofs.enters_of Try.func49 (by kernel_rfl) rfl) (c_laws_eqIntS ((b)) ((b)) (by first | omega | assumption | (simp; done) | (simp; omega) | (simp [seqI_length]; done) | (simp [seqI_length]; omega) | (split at * <;> omega) | (have := instV_len (by assumption); (try simp only [seqI_length]); split at * <;> omega))) rfl (.cons rfl (.c (.own rfl)) (.cons rfl (.c (.own rfl)) .nil)) rfl rfl rfl) ?_
              refine r_op (o_not rfl rfl) ?_
              refine r_end ?_
              refine t_cond rfl (fun h12 => ?_) (fun h12 => ?_)
              ·
                have h12' := h12
                try simp only [decide_eq_true_eq, decide_eq_false_iff_not, Bool.not_eq_true', Bool.not_eq_false', Bool.not_false, Bool.not_true] at h12'
                refine t_seq ?_
                refine t_region ?_
                refine r_op (o_assign rfl rfl) ?_
                refine r_end ?_
                refine t_ret Try.func11 (.tmp rfl .nil) rfl fun E S w u hI hd => ?_
                refine post_mk hI hd ?_ trivial rfl rfl rfl <;> clear hI hd <;> (try clear ih)
                all_goals first | rfl | (exfalso; first | (simp [seqI_length] at *; done) | (simp [seqI_length] at *; omega))
              ·
                have h12' := h12
                try simp only [decide_eq_true_eq, decide_eq_false_iff_not, Bool.not_eq_true', Bool.not_eq_false', Bool.not_false, Bool.not_true] at h12'
                refine t_skip ?_
                refine t_seq ?_
                refine t_region ?_
                refine r_op (o_assign rfl rfl) ?_
                refine r_end ?_
                refine t_seq ?_
                refine t_region ?_
                refine r_op (o_loadAb rfl (n := 2) (by kernel_rfl) (by kernel_rfl) rfl rfl rfl) ?_
                refine r_op (o_move rfl rfl) ?_
                refine r_op (o_callM 14 (Go.Proofs.enters_of Try.func50 (by kernel_rfl) rfl) (fun U => c_laws_markAtom U ((r)) ((ts)) (1) (by first | omega | assumption | (simp; done) | (simp; omega) | (simp [seqI_length]; done) | (simp [seqI_length]; omega) | (split at * <;> omega) | (have := instV_len (by assumption); (try simp only [seqI_length]); split at * <;> omega)) (by first | omega | assumption | (simp; done) | (simp; omega) | (simp [seqI_length]; done) | (simp [seqI_length]; omega) | (split at * <;> omega) | (have := instV_len (by assumption); (try simp only [seqI_length]); split at * <;> omega))) rfl rfl (.agg rfl (.cons .t0 (.cons .own .nil)) (.cons rfl .t0 .nil)) rfl) ?_
                refine r_op (o_assign rfl rfl) ?_
                refine r_end ?_
                refine t_seq ?_
                refine t_region ?_
                refine r_op (o_move rfl rfl) ?_
                refine r_op (o_move rfl rfl) ?_
                refine r_op (o_callM 16 (Go.Proofs.enters_of Try.func51 (by kernel_rfl) rfl) (fun U => c_laws_markIntS U ((b)) ((1) + ((ts)).length) (by first | omega | assumption | (simp; done) | (simp; omega) | (simp [seqI_length]; done) | (simp [seqI_length]; omega) | (split at * <;> omega) | (have := instV_len (by assumption); (try simp only [seqI_length]); split at * <;> omega)) (by first | omega | assumption | (simp; done) | (simp; omega) | (simp [seqI_length]; done) | (simp [seqI_length]; omega) | (split at * <;> omega) | (have := instV_len (by assumption); (try simp only [seqI_length]); split at * <;> omega))) rfl rfl (.cons rfl .own (.cons rfl .t0 .nil)) rfl) ?_
                refine r_op (o_assign rfl rfl) ?_
                refine r_end ?_
                refine t_seq ?_
                refine t_seq ?_
                refine t_region ?_
                refine r_op (o_move rfl rfl) ?_
                refine r_op (o_bin rfl rfl rfl rfl) ?_
                refine r_op (o_move rfl rfl) ?_
                refine r_guard rfl rfl rfl (fun g13 => ?_) (fun g13 => ?_)
                ·
                  have g13' := g13
                  try simp only [decide_eq_true_eq, decide_eq_false_iff_not, Bool.not_eq_true', Bool.not_eq_false', Bool.not_false, Bool.not_true] at g13'
                  refine r_op (o_loadAb rfl (n := 2) (by kernel_rfl) (by kernel_rfl) rfl rfl rfl) ?_
                  refine r_guard rfl rfl rfl (fun _ => ?_) (fun h' => (Bool.noConfusion (g13.symm.trans h')))
                  refine r_op (o_loadAb rfl (n := 2) (by kernel_rfl) (by kernel_rfl) rfl rfl rfl) ?_
                  refine r_guard rfl rfl rfl (fun _ => ?_) (fun h' => (Bool.noConfusion (g13.symm.trans h')))
                  refine r_op (o_call 27 27 false (Go.Proofs.enters_of Try.func47 (by kernel_rfl) rfl) (c_laws_eqFact (0) ([]) (0) ([]) (by first | omega | assumption | (simp; done) | (simp; omega) | (simp [seqI_length]; done) | (simp [seqI_length]; omega) | (split at * <;> omega) | (have := instV_len (by assumption); (try simp only [seqI_length]); split at * <;> omega))) rfl (.cons rfl (.agg (.cons .t0 (.cons .nil .nil))) (.cons rfl (.agg (.cons .t0 (.cons .nil .nil))) .nil)) rfl rfl rfl) ?_
                  refine r_guard rfl rfl rfl (fun _ => ?_) (fun h' => (Bool.noConfusion (g13.symm.trans h')))
                  refine r_op (o_not rfl rfl) ?_
                  refine r_op (o_pickF rfl rfl g13 rfl) ?_
                  refine r_op (o_move rfl rfl) ?_
                  refine r_guard rfl rfl rfl (fun g14 => ?_) (fun g14 => ?_)
                  ·
                    have g14' := g14
                    try simp only [decide_eq_true_eq, decide_eq_false_iff_not, Bool.not_eq_true', Bool.not_eq_false', Bool.not_false, Bool.not_true] at g14'
                    refine r_op (o_move rfl rfl) ?_
                    refine r_guard rfl rfl rfl (fun _ => ?_) (fun h' => (Bool.noConfusion (g14.symm.trans h')))
                    refine r_op (o_move rfl rfl) ?_
                    refine r_guard rfl rfl rfl (fun _ => ?_) (fun h' => (Bool.noConfusion (g14.symm.trans h')))
                    refine r_op (o_neB rfl Try.underlying4 rfl rfl) ?_
                    refine r_op (o_pickF rfl rfl g14 rfl) ?_
                    refine r_end ?_
                    refine t_cond rfl (fun h15 => ?_) (fun h15 => ?_)
                    ·
                      have h15' := h15
                      skip
                      refine t_seq ?_
                      refine t_region ?_
                      refine r_op (o_assign rfl rfl) ?_
                      refine r_end ?_
                      refine t_ret Try.func11 (.tmp rfl .nil) rfl fun E S w u hI hd => ?_
                      refine post_mk hI hd ?_ trivial rfl rfl rfl <;> clear hI hd <;> (try clear ih)
                      all_goals first | rfl | (exfalso; first | (simp [seqI_length] at *; done) | (simp [seqI_length] at *; omega))
                    ·
                      have h15' := h15
                      skip
                      refine t_skip ?_
                      refine t_seq ?_
                      refine t_region ?_
                      refine r_op (o_assign rfl rfl) ?_
                      refine r_end ?_
                      refine t_seq ?_
                      refine gt_nilb 27 (b := 21) (o := 1) (et := 3) (sz := 1) true encI rfl rfl rfl ?_
                      refine t_region ?_
                      refine r_op (o_loadAb rfl (n := 2) (by kernel_rfl) (by kernel_rfl) rfl rfl rfl) ?_
                      refine r_op (o_move rfl rfl) ?_
                      refine r_op (o_callM 27 (Go.Proofs.enters_of Try.func52 (by kernel_rfl) rfl) (fun U => c_laws_markFact U (0) ([]) (1) (by first | omega | assumption | (simp; done) | (simp; omega) | (simp [seqI_length]; done) | (simp [seqI_length]; omega) | (split at * <;> omega) | (have := instV_len (by assumption); (try simp only [seqI_length]); split at * <;> omega)) (by first | omega | assumption | (simp; done) | (simp; omega) | (simp [seqI_length]; done) | (simp [seqI_length]; omega) | (split at * <;> omega) | (have := instV_len (by assumption); (try simp only [seqI_length]); split at * <;> omega))) rfl rfl (.agg rfl (.cons .t0 (.cons .own .nil)) (.cons rfl .t0 .nil)) rfl) ?_
                      refine r_op (o_assign rfl rfl) ?_
                      refine r_end ?_
                      refine t_seq ?_
                      refine t_region ?_
                      refine r_op (o_assign rfl rfl) ?_
                      refine r_end ?_
                      refine t_seq ?_
                      refine t_region ?_
                      refine r_op (o_loadAb rfl (n := 2) (by kernel_rfl) (by kernel_rfl) rfl rfl rfl) ?_
                      refine r_op (o_move rfl rfl) ?_
                      refine r_op (o_call 28 28 false (Go.Proofs.enters_of Try.func53 (by kernel_rfl) rfl) (c_laws_heldFact (0) (seqI (1) ([]).length) (1) (by first | omega | assumption | (simp; done) | (simp; omega) | (simp [seqI_length]; done) | (simp [seqI_length]; omega) | (split at * <;> omega) | (have := instV_len (by assumption); (try simp only [seqI_length]); split at * <;> omega)) (by first | omega | assumption | (simp; done) | (simp; omega) | (simp [seqI_length]; done) | (simp [seqI_length]; omega) | (split at * <;> omega) | (have := instV_len (by assumption); (try simp only [seqI_length]); split at * <;> omega))) rfl (.cons rfl (.agg (.cons .t0 (.cons (.own rfl) .nil))) (.cons rfl (.c .t0) .nil)) rfl rfl rfl) ?_
                      refine r_op (o_assign rfl rfl) ?_
                      refine r_end ?_
                      refine t_seq ?_
                      refine t_seq ?_
                      refine t_region ?_
                      refine r_op (o_move rfl rfl) ?_
                      refine r_op (o_bin rfl rfl rfl rfl) ?_
                      refine r_end ?_
                      refine t_cond rfl (fun h16 => ?_) (fun h16 => ?_)
                      ·
                        have h16' := h16
                        try simp only [decide_eq_true_eq, decide_eq_false_iff_not, Bool.not_eq_true', Bool.not_eq_false', Bool.not_false, Bool.not_true] at h16'
                        refine t_seq ?_
                        refine t_region ?_
                        refine r_op (o_assign rfl rfl) ?_
                        refine r_end ?_
                        refine t_ret Try.func11 (.tmp rfl .nil) rfl fun E S w u hI hd => ?_
                        refine post_mk hI hd ?_ trivial rfl rfl rfl <;> clear hI hd <;> (try clear ih)
                        all_goals first | rfl | (exfalso; first | (simp [seqI_length] at *; done) | (simp [seqI_length] at *; omega))
                      ·
                        have h16' := h16
                        try simp only [decide_eq_true_eq, decide_eq_false_iff_not, Bool.not_eq_true', Bool.not_eq_false', Bool.not_false, Bool.not_true] at h16'
                        refine t_skip ?_
                        refine t_seq ?_
                        refine t_seq ?_
                        refine t_region ?_
                        refine r_op (o_move rfl rfl) ?_
                        refine r_op (o_move rfl rfl) ?_
                        refine r_op (o_bin rfl rfl rfl rfl) ?_
                        refine r_end ?_
                        refine t_cond rfl (fun h17 => ?_) (fun h17 => ?_)
                        ·
                          have h17' := h17
                          try simp only [decide_eq_true_eq, decide_eq_false_iff_not, Bool.not_eq_true', Bool.not_eq_false', Bool.not_false, Bool.not_true] at h17'
                          refine t_seq ?_
                          refine t_region ?_
                          refine r_op (o_assign rfl rfl) ?_
                          refine r_end ?_
                          refine t_ret Try.func11 (.tmp rfl .nil) rfl fun E S w u hI hd => ?_
                          refine post_mk hI hd ?_ trivial rfl rfl rfl <;> clear hI hd <;> (try clear ih)
                          all_goals first | rfl | (exfalso; first | (simp [seqI_length] at *; done) | (simp [seqI_length] at *; omega))
                        ·
                          have h17' := h17
                          try simp only [decide_eq_true_eq, decide_eq_false_iff_not, Bool.not_eq_true', Bool.not_eq_false', Bool.not_false, Bool.not_true] at h17'
                          refine t_skip ?_
                          refine t_seq ?_
                          refine t_region ?_
                          refine r_op (o_loadAb rfl (n := 2) (by kernel_rfl) (by kernel_rfl) rfl rfl rfl) ?_
                          refine r_op (o_call 28 32 false (Go.Proofs.enters_of Try.func44 (by kernel_rfl) rfl) (c_laws_toAtom (r) (ts) (by first | omega | assumption | (simp; done) | (simp; omega) | (simp [seqI_length]; done) | (simp [seqI_length]; omega) | (split at * <;> omega) | (have := instV_len (by assumption); (try simp only [seqI_length]); split at * <;> omega))) rfl (.cons rfl (.agg (.cons .t0 (.cons .t0 .nil))) .nil) rfl rfl rfl) ?_
                          refine r_op (o_move rfl rfl) ?_
                          refine r_op (o_call 32 33 false (Go.Proofs.enters_of Try.func45 (by kernel_rfl) rfl) (c_laws_toIntS (b) (by first | omega | assumption | (simp; done) | (simp; omega) | (simp [seqI_length]; done) | (simp [seqI_length]; omega) | (split at * <;> omega) | (have := instV_len (by assumption); (try simp only [seqI_length]); split at * <;> omega))) rfl (.cons rfl (.c .t0) .nil) rfl rfl rfl) ?_
                          refine r_op (o_call 33 37 false (Go.Proofs.enters_of Try.func46 (by kernel_rfl) rfl) (c_impl_Instantiate ((r)) ((ts)) ((b)) (by first | omega | assumption | (simp; done) | (simp; omega) | (simp [seqI_length]; done) | (simp [seqI_length]; omega) | (split at * <;> omega) | (have := instV_len (by assumption); (try simp only [seqI_length]); split at * <;> omega)) (by first | omega | assumption | (simp; done) | (simp; omega) | (simp [seqI_length]; done) | (simp [seqI_length]; omega) | (split at * <;> omega) | (have := instV_len (by assumption); (try simp only [seqI_length]); split at * <;> omega)) _ hm3) rfl (.cons rfl (.agg (.cons .t0 (.cons (.own rfl) .nil))) (.cons rfl (.c (.own rfl)) .nil)) rfl rfl rfl) ?_
                          refine r_op (o_move rfl rfl) ?_
                          refine r_op (o_extract rfl rfl rfl rfl) ?_
                          refine r_op (o_extract rfl rfl rfl rfl) ?_
                          refine r_op (o_alloc 37 (zs := [.int .i64 (0), .slice none 0 0]) rfl rfl (by kernel_rfl) rfl) ?_
                          refine r_op (o_storeb (n := 2) (by kernel_rfl) rfl rfl rfl rfl rfl rfl) ?_
                          refine r_op (o_assign rfl rfl) ?_
                          refine r_end ?_
                          refine t_seq ?_
                          refine t_seq ?_
                          refine t_region ?_
                          refine r_op (o_loadAb rfl (n := 2) (by kernel_rfl) (by kernel_rfl) rfl rfl rfl) ?_
                          refine r_op (o_loadAb rfl (n := 2) (by kernel_rfl) (by kernel_rfl) rfl rfl rfl) ?_
                          refine r_op (o_call 38 38 false (Go.Proofs.enters_of Try.func47 (by kernel_rfl) rfl) (c_laws_eqFact (0) ([]) (0) ([]) (by first | omega | assumption | (simp; done) | (simp; omega) | (simp [seqI_length]; done) | (simp [seqI_length]; omega) | (split at * <;> omega) | (have := instV_len (by assumption); (try simp only [seqI_length]); split at * <;> omega))) rfl (.cons rfl (.agg (.cons .t0 (.cons .nil .nil))) (.cons rfl (.agg (.cons .t0 (.cons .nil .nil))) .nil)) rfl rfl rfl) ?_
                          refine r_op (o_not rfl rfl) ?_
                          refine r_op (o_move rfl rfl) ?_
                          refine r_guard rfl rfl rfl (fun g21 => ?_) (fun g21 => ?_)
                          ·
                            have g21' := g21
                            try simp only [decide_eq_true_eq, decide_eq_false_iff_not, Bool.not_eq_true', Bool.not_eq_false', Bool.not_false, Bool.not_true] at g21'
                            refine r_op (o_move rfl rfl) ?_
                            refine r_guard rfl rfl rfl (fun _ => ?_) (fun h' => (Bool.noConfusion (g21.symm.trans h')))
                            refine r_op (o_move rfl rfl) ?_
                            refine r_guard rfl rfl rfl (fun _ => ?_) (fun h' => (Bool.noConfusion (g21.symm.trans h')))
                            refine r_op (o_neB rfl Try.underlying4 rfl rfl) ?_
                            refine r_op (o_pickF rfl rfl g21 rfl) ?_
                            refine r_end ?_
                            refine t_cond rfl (fun h22 => ?_) (fun h22 => ?_)
                            ·
                              have h22' := h22
                              skip
                              refine t_seq ?_
                              refine t_region ?_
                              refine r_op (o_assign rfl rfl) ?_
                              refine r_end ?_
                              refine t_ret Try.func11 (.tmp rfl .nil) rfl fun E S w u hI hd => ?_
                              refine post_mk hI hd ?_ trivial rfl rfl rfl <;> clear hI hd <;> (try clear ih)
                              all_goals first | rfl | (exfalso; first | (simp [seqI_length] at *; done) | (simp [seqI_length] at *; omega))
                            ·
                              have h22' := h22
                              skip
                              refine t_skip ?_
                              refine t_seq ?_
                              refine t_region ?_
                              refine r_op (o_assign rfl rfl) ?_
                              refine r_end ?_
                              refine t_seq ?_
                              refine t_region ?_
                              refine r_op (o_loadAb rfl (n := 2) (by kernel_rfl) (by kernel_rfl) rfl rfl rfl) ?_
                              refine r_op (o_move rfl rfl) ?_
                              refine r_op (o_call 38 38 false (Go.Proofs.enters_of Try.func53 (by kernel_rfl) rfl) (c_laws_heldFact (0) (seqI (1) ([]).length) (1) (by first | omega | assumption | (simp; done) | (simp; omega) | (simp [seqI_length]; done) | (simp [seqI_length]; omega) | (split at * <;> omega) | (have := instV_len (by assumption); (try simp only [seqI_length]); split at * <;> omega)) (by first | omega | assumption | (simp; done) | (simp; omega) | (simp [seqI_length]; done) | (simp [seqI_length]; omega) | (split at * <;> omega) | (have := instV_len (by assumption); (try simp only [seqI_length]); split at * <;> omega))) rfl (.cons rfl (.agg (.cons .t0 (.cons (.own rfl) .nil))) (.cons rfl (.c .t0) .nil)) rfl rfl rfl) ?_
                              refine r_op (o_assign rfl rfl) ?_
                              refine r_end ?_
                              refine t_seq ?_
                              refine t_seq ?_
                              refine t_region ?_
                              refine r_op (o_move rfl rfl) ?_
                              refine r_op (o_bin rfl rfl rfl rfl) ?_
                              refine r_end ?_
                              refine t_cond rfl (fun h23 => ?_) (fun h23 => ?_)
                              ·
                                have h23' := h23
                                try simp only [decide_eq_true_eq, decide_eq_false_iff_not, Bool.not_eq_true', Bool.not_eq_false', Bool.not_false, Bool.not_true] at h23'
                                refine t_seq ?_
                                refine t_region ?_
                                refine r_op (o_assign rfl rfl) ?_
                                refine r_end ?_
                                refine t_ret Try.func11 (.tmp rfl .nil) rfl fun E S w u hI hd => ?_
                                refine post_mk hI hd ?_ trivial rfl rfl rfl <;> clear hI hd <;> (try clear ih)
                                all_goals first | rfl | (exfalso; first | (simp [seqI_length] at *; done) | (simp [seqI_length] at *; omega))
                              ·
                                have h23' := h23
                                try simp only [decide_eq_true_eq, decide_eq_false_iff_not, Bool.not_eq_true', Bool.not_eq_false', Bool.not_false, Bool.not_true] at h23'
                                refine t_skip ?_
                                refine t_seq ?_
                                refine t_seq ?_
                                refine t_region ?_
                                refine r_op (o_move rfl rfl) ?_
                                refine r_op (o_move rfl rfl) ?_
                                refine r_op (o_bin rfl rfl rfl rfl) ?_
                                refine r_end ?_
                                refine t_cond rfl (fun h24 => ?_) (fun h24 => ?_)
                                ·
                                  have h24' := h24
                                  try simp only [decide_eq_true_eq, decide_eq_false_iff_not, Bool.not_eq_true', Bool.not_eq_false', Bool.not_false, Bool.not_true] at h24'
                                  refine t_seq ?_
                                  refine t_region ?_
                                  refine r_op (o_assign rfl rfl) ?_
                                  refine r_end ?_
                                  refine t_ret Try.func11 (.tmp rfl .nil) rfl fun E S w u hI hd => ?_
                                  refine post_mk hI hd ?_ trivial rfl rfl rfl <;> clear hI hd <;> (try clear ih)
                                  all_goals first | rfl | (exfalso; first | (simp [seqI_length] at *; done) | (simp [seqI_length] at *; omega))
                                ·
                                  have h24' := h24
                                  try simp only [decide_eq_true_eq, decide_eq_false_iff_not, Bool.not_eq_true', Bool.not_eq_false', Bool.not_false, Bool.not_true] at h24'
                                  refine t_skip ?_
                                  refine t_seq ?_
                                  refine t_region ?_
                                  refine r_op (o_assign rfl rfl) ?_
                                  refine r_end ?_
                                  refine t_ret Try.func11 (.tmp rfl .nil) rfl fun E S w u hI hd => ?_
                                  refine post_mk hI hd ?_ trivial rfl rfl rfl <;> clear hI hd <;> (try clear ih)
                                  all_goals first | rfl | (exfalso; first | (simp [seqI_length] at *; done) | (simp [seqI_length] at *; omega))
                          ·
                            have g21' := g21
                            try simp only [decide_eq_true_eq, decide_eq_false_iff_not, Bool.not_eq_true', Bool.not_eq_false', Bool.not_false, Bool.not_true] at g21'
                            refine r_guard rfl rfl rfl (fun h' => (Bool.noConfusion (g21.symm.trans h'))) (fun _ => ?_)
                            refine r_guard rfl rfl rfl (fun h' => (Bool.noConfusion (g21.symm.trans h'))) (fun _ => ?_)
                            refine r_op (o_pickT rfl rfl g21 rfl) ?_
                            refine r_end ?_
                            refine t_cond rfl (fun _ => ?_) (fun h' => Bool.noConfusion (rfl.symm.trans h'))
                            refine t_seq ?_
                            refine t_region ?_
                            refine r_op (o_assign rfl rfl) ?_
                            refine r_end ?_
                            refine t_ret Try.func11 (.tmp rfl .nil) rfl fun E S w u hI hd => ?_
                            refine post_mk hI hd ?_ trivial rfl rfl rfl <;> clear hI hd <;> (try clear ih)
                            all_goals first | rfl | (exfalso; first | (simp [seqI_length] at *; done) | (simp [seqI_length] at *; omega))
                  ·
                    have g14' := g14
                    try simp only [decide_eq_true_eq, decide_eq_false_iff_not, Bool.not_eq_true', Bool.not_eq_false', Bool.not_false, Bool.not_true] at g14'
                    refine r_guard rfl rfl rfl (fun h' => (Bool.noConfusion (g14.symm.trans h'))) (fun _ => ?_)
                    refine r_guard rfl rfl rfl (fun h' => (Bool.noConfusion (g14.symm.trans h'))) (fun _ => ?_)
                    refine r_op (o_pickT rfl rfl g14 rfl) ?_
                    refine r_end ?_
                    refine t_cond rfl (fun _ => ?_) (fun h' => Bool.noConfusion (rfl.symm.trans h'))
                    refine t_seq ?_
                    refine t_region ?_
                    refine r_op (o_assign rfl rfl) ?_
                    refine r_end ?_
                    refine t_ret Try.func11 (.tmp rfl .nil) rfl fun E S w u hI hd => ?_
                    refine post_mk hI hd ?_ trivial rfl rfl rfl <;> clear hI hd <;> (try clear ih)
                    all_goals first | rfl | (exfalso; first | (simp [seqI_length] at *; done) | (simp [seqI_length] at *; omega))
                ·
                  have g13' := g13
                  try simp only [decide_eq_true_eq, decide_eq_false_iff_not, Bool.not_eq_true', Bool.not_eq_false', Bool.not_false, Bool.not_true] at g13'
                  refine r_guard rfl rfl rfl (fun h' => (Bool.noConfusion (g13.symm.trans h'))) (fun _ => ?_)
                  refine r_guard rfl rfl rfl (fun h' => (Bool.noConfusion (g13.symm.trans h'))) (fun _ => ?_)
                  refine r_guard rfl rfl rfl (fun h' => (Bool.noConfusion (g13.symm.trans h'))) (fun _ => ?_)
                  refine r_op (o_pickT rfl rfl g13 rfl) ?_
                  refine r_op (o_move rfl rfl) ?_
                  refine r_guard rfl rfl rfl (fun h' => (Bool.noConfusion (rfl.symm.trans h'))) (fun _ => ?_)
                  refine r_guard rfl rfl rfl (fun h' => (Bool.noConfusion (rfl.symm.trans h'))) (fun _ => ?_)
                  refine r_guard rfl rfl rfl (fun h' => (Bool.noConfusion (rfl.symm.trans h'))) (fun _ => ?_)
                  refine r_op (o_pickT rfl rfl rfl rfl) ?_
                  refine r_end ?_
                  refine t_cond rfl (fun _ => ?_) (fun h' => Bool.noConfusion (rfl.symm.trans h'))
                  refine t_seq ?_
                  refine t_region ?_
                  refine r_op (o_assign rfl rfl) ?_
                  refine r_end ?_
                  refine t_ret Try.func11 (.tmp rfl .nil) rfl fun E S w u hI hd => ?_
                  refine post_mk hI hd ?_ trivial rfl rfl rfl <;> clear hI hd <;> (try clear ih)
                  all_goals first | rfl | (exfalso; first | (simp [seqI_length] at *; done) | (simp [seqI_length] at *; omega))
        ·
          have g9' := g9
          try simp only [decide_eq_true_eq, decide_eq_false_iff_not, Bool.not_eq_true', Bool.not_eq_false', Bool.not_false, Bool.not_true] at g9'
          refine r_guard rfl rfl rfl (fun h' => (Bool.noConfusion (g9.symm.trans h'))) (fun _ => ?_)
          refine r_guard rfl rfl rfl (fun h' => (Bool.noConfusion (g9.symm.trans h'))) (fun _ => ?_)
          refine r_op (o_pickT rfl rfl g9 rfl) ?_
          refine r_end ?_
          refine t_cond rfl (fun _ => ?_) (fun h' => Bool.noConfusion (rfl.symm.trans h'))
          refine t_seq ?_
          refine t_region ?_
          refine r_op (o_assign rfl rfl) ?_
          refine r_end ?_
          refine t_ret Try.func11 (.tmp rfl .nil) rfl fun E S w u hI hd => ?_
          refine post_mk hI hd ?_ trivial rfl rfl rfl <;> clear hI hd <;> (try clear ih)
          all_goals first | rfl | (exfalso; first | (simp [seqI_length] at *; done) | (simp [seqI_length] at *; omega))
      ·
        refine r_op (o_call 6 10 false (Go.Proofs.enters_of Try.func43 (by kernel_rfl) rfl) (c_spec_Instantiate ((r)) ((ts)) ((b)) (by first | omega | assumption | (simp; done) | (simp; omega) | (simp [seqI_length]; done) | (simp [seqI_length]; omega) | (split at * <;> omega) | (have := instV_len (by assumption); (try simp only [seqI_length]); split at * <;> omega)) (by first | omega | assumption | (simp; done) | (simp; omega) | (simp [seqI_length]; done) | (simp [seqI_length]; omega) | (split at * <;> omega) | (have := instV_len (by assumption); (try simp only [seqI_length]); split at * <;> omega)) (by first | omega | assumption | (simp; done) | (simp; omega) | (simp [seqI_length]; done) | (simp [seqI_length]; omega) | (split at * <;> omega) | (have := instV_len (by assumption); (try simp only [seqI_length]); split at * <;> omega)) _ hm3) rfl (.cons rfl (.agg (.cons .t0 (.cons (.own rfl) .nil))) (.cons rfl (.c (.own rfl)) .nil)) rfl rfl rfl) ?_
        refine r_op (o_move rfl rfl) ?_
        refine r_op (o_extract rfl rfl rfl rfl) ?_
        refine r_op (o_extract rfl rfl rfl rfl) ?_
        refine r_op (o_alloc 10 (zs := [.int .i64 (0), .slice none 0 0]) rfl rfl (by kernel_rfl) rfl) ?_
        refine r_op (o_storeb (n := 2) (by kernel_rfl) rfl rfl rfl rfl rfl rfl) ?_
        refine r_op (o_assign rfl rfl) ?_
        refine r_end ?_
        refine t_seq ?_
        refine t_region ?_
        refine r_op (o_loadAb rfl (n := 2) (by kernel_rfl) (by kernel_rfl) rfl rfl rfl) ?_
        refine r_op (o_call 11 15 false (Go.Proofs.enters_of Try.func44 (by kernel_rfl) rfl) (c_laws_toAtom (r) (ts) (by first | omega | assumption | (simp; done) | (simp; omega) | (simp [seqI_length]; done) | (simp [seqI_length]; omega) | (split at * <;> omega) | (have := instV_len (by assumption); (try simp only [seqI_length]); split at * <;> omega))) rfl (.cons rfl (.agg (.cons .t0 (.cons .t0 .nil))) .nil) rfl rfl rfl) ?_
        refine r_op (o_alloc 15 (zs := [.int .i64 (0), .slice none 0 0]) rfl rfl (by kernel_rfl) rfl) ?_
        refine r_op (o_storeb (n := 2) (by kernel_rfl) rfl rfl rfl rfl rfl rfl) ?_
        refine r_end ?_
        refine t_seq ?_
        refine t_region ?_
        refine r_op (o_move rfl rfl) ?_
        refine r_op (o_call 16 17 false (Go.Proofs.enters_of Try.func45 (by kernel_rfl) rfl) (c_laws_toIntS (b) (by first | omega | assumption | (simp; done) | (simp; omega) | (simp [seqI_length]; done) | (simp [seqI_length]; omega) | (split at * <;> omega) | (have := instV_len (by assumption); (try simp only [seqI_length]); split at * <;> omega))) rfl (.cons rfl (.c .t0) .nil) rfl rfl rfl) ?_
        refine r_op (o_assign rfl rfl) ?_
        refine r_end ?_
        refine t_seq ?_
        refine t_region ?_
        refine r_op (o_loadAb rfl (n := 2) (by kernel_rfl) (by kernel_rfl) rfl rfl rfl) ?_
        refine r_op (o_move rfl rfl) ?_
        refine r_op (o_call 17 21 false (Go.Proofs.enters_of Try.func46 (by kernel_rfl) rfl) (c_impl_Instantiate ((r)) ((ts)) ((b)) (by first | omega | assumption | (simp; done) | (simp; omega) | (simp [seqI_length]; done) | (simp [seqI_length]; omega) | (split at * <;> omega) | (have := instV_len (by assumption); (try simp only [seqI_length]); split at * <;> omega)) (by first | omega | assumption | (simp; done) | (simp; omega) | (simp [seqI_length]; done) | (simp [seqI_length]; omega) | (split at * <;> omega) | (have := instV_len (by assumption); (try simp only [seqI_length]); split at * <;> omega)) _ hm3) rfl (.cons rfl (.agg (.cons .t0 (.cons (.own rfl) .nil))) (.cons rfl (.c (.own rfl)) .nil)) rfl rfl rfl) ?_
        refine r_op (o_move rfl rfl) ?_
        refine r_op (o_extract rfl rfl rfl rfl) ?_
        refine r_op (o_extract rfl rfl rfl rfl) ?_
        refine r_op (o_alloc 21 (zs := [.int .i64 (0), .slice none 0 0]) rfl rfl (by kernel_rfl) rfl) ?_
        refine r_op (o_storeb (n := 2) (by kernel_rfl) rfl rfl rfl rfl rfl rfl) ?_
        refine r_op (o_assign rfl rfl) ?_
        refine r_end ?_
        refine t_seq ?_
        refine t_seq ?_
        refine t_region ?_
        refine r_op (o_loadAb rfl (n := 2) (by kernel_rfl) (by kernel_rfl) rfl rfl rfl) ?_
        refine r_op (o_loadAb rfl (n := 2) (by kernel_rfl) (by kernel_rfl) rfl rfl rfl) ?_
        refine r_op (o_call 22 22 false (Go.Proofs.enters_of Try.func47 (by kernel_rfl) rfl) (c_laws_eqFact (((r))) ((q5)) (((r))) ((q5)) (by first | omega | assumption | (simp; done) | (simp; omega) | (simp [seqI_length]; done) | (simp [seqI_length]; omega) | (split at * <;> omega) | (have := instV_len (by assumption); (try simp only [seqI_length]); split at * <;> omega))) rfl (.cons rfl (.agg (.cons .t0 (.cons (.own rfl) .nil))) (.cons rfl (.agg (.cons .t0 (.cons (.own rfl) .nil))) .nil)) rfl rfl rfl) ?_
        refine r_op (o_not rfl rfl) ?_
        refine r_op (o_move rfl rfl) ?_
        refine r_guard rfl rfl rfl (fun g28 => ?_) (fun g28 => ?_)
        ·
          have g28' := g28
          try simp only [decide_eq_true_eq, decide_eq_false_iff_not, Bool.not_eq_true', Bool.not_eq_false', Bool.not_false, Bool.not_true] at g28'
          refine r_op (o_move rfl rfl) ?_
          refine r_guard rfl rfl rfl (fun _ => ?_) (fun h' => (Bool.noConfusion (g28.symm.trans h')))
          refine r_op (o_move rfl rfl) ?_
          refine r_guard rfl rfl rfl (fun _ => ?_) (fun h' => (Bool.noConfusion (g28.symm.trans h')))
          refine r_op (o_neB rfl Try.underlying4 rfl rfl) ?_
          refine r_op (o_pickF rfl rfl g28 rfl) ?_
          refine r_end ?_
          refine t_cond rfl (fun h29 => ?_) (fun h29 => ?_)
          ·
            have h29' := h29
            skip
            refine t_seq ?_
            refine t_region ?_
            refine r_op (o_assign rfl rfl) ?_
            refine r_end ?_
            refine t_ret Try.func11 (.tmp rfl .nil) rfl fun E S w u hI hd => ?_
            refine post_mk hI hd ?_ trivial rfl rfl rfl <;> clear hI hd <;> (try clear ih)
            all_goals first | rfl | (exfalso; first | (simp [seqI_length] at *; done) | (simp [seqI_length] at *; omega))
          ·
            have h29' := h29
            skip
            refine t_skip ?_
            refine t_seq ?_
            refine t_seq ?_
            refine t_draw (fun _ => true) (by kernel_rfl) ?_
            refine d_take 0 rfl rfl (by kernel_rfl) (by kernel_rfl) (by kernel_rfl) (p_loadAb (n := 2) (by kernel_rfl) (by kernel_rfl) rfl rfl rfl) ?_
            refine d_take 1 rfl rfl (by kernel_rfl) (by kernel_rfl) (by kernel_rfl) (p_loadAb (n := 2) (by kernel_rfl) (by kernel_rfl) rfl rfl rfl) ?_
            refine d_only 2 rfl (by kernel_rfl) rfl (o_call 22 26 false (Go.Proofs.enters_of Try.func44 (by kernel_rfl) rfl) (c_laws_toAtom (r) (ts) (by first | omega | assumption | (simp; done) | (simp; omega) | (simp [seqI_length]; done) | (simp [seqI_length]; omega) | (split at * <;> omega) | (have := instV_len (by assumption); (try simp only [seqI_length]); split at * <;> omega))) rfl (.cons rfl (.agg (.cons .t0 (.cons .t0 .nil))) .nil) rfl rfl rfl) ?_
            refine d_only 3 rfl (by kernel_rfl) rfl (o_call 26 26 false (Go.Proofs.enters_of Try.func48 (by kernel_rfl) rfl) (c_laws_eqAtom ((r)) ((ts)) ((r)) ((ts)) (by first | omega | assumption | (simp; done) | (simp; omega) | (simp [seqI_length]; done) | (simp [seqI_length]; omega) | (split at * <;> omega) | (have := instV_len (by assumption); (try simp only [seqI_length]); split at * <;> omega))) rfl (.cons rfl (.agg (.cons .t0 (.cons (.own rfl) .nil))) (.cons rfl (.agg (.cons .t0 (.cons (.own rfl) .nil))) .nil)) rfl rfl rfl) ?_
            refine d_take 4 rfl rfl (by kernel_rfl) (by kernel_rfl) (by kernel_rfl) (p_not rfl) ?_
            refine d_end (by kernel_rfl) ?_
            refine t_cond rfl (fun h30 => ?_) (fun h30 => ?_)
            ·
              have h30' := h30
              try simp only [decide_eq_true_eq, decide_eq_false_iff_not, Bool.not_eq_true', Bool.not_eq_false', Bool.not_false, Bool.not_true] at h30'
              refine t_seq ?_
              refine t_region ?_
              refine r_op (o_assign rfl rfl) ?_
              refine r_end ?_
              refine t_ret Try.func11 (.tmp rfl .nil) rfl fun E S w u hI hd => ?_
              refine post_mk hI hd ?_ trivial rfl rfl rfl <;> clear hI hd <;> (try clear ih)
              all_goals first | rfl | (exfalso; first | (simp [seqI_length] at *; done) | (simp [seqI_length] at *; omega))
            ·
              have h30' := h30
              try simp only [decide_eq_true_eq, decide_eq_false_iff_not, Bool.not_eq_true', Bool.not_eq_false', Bool.not_false, Bool.not_true] at h30'
              refine t_skip ?_
              refine t_seq ?_
              refine t_seq ?_
              refine t_region ?_
              refine r_op (o_move rfl rfl) ?_
              refine r_op (o_move rfl rfl) ?_
              refine r_op (o_call 26 27 false (Go.Proofs.enters_of Try.func45 (by kernel_rfl) rfl) (c_laws_toIntS (b) (by first | omega | assumption | (simp; done) | (simp; omega) | (simp [seqI_length]; done) | (simp [seqI_length]; omega) | (split at * <;> omega) | (have := instV_len (by assumption); (try simp only [seqI_length]); split at * <;> omega))) rfl (.cons rfl (.c .t0) .nil) rfl rfl rfl) ?_
              refine r_op (o_call 27 27 false (Go.Proofs.enters_of Try.func49 (by kernel_rfl) rfl) (c_laws_eqIntS ((b)) ((b)) (by first | omega | assumption | (simp; done) | (simp; omega) | (simp [seqI_length]; done) | (simp [seqI_length]; omega) | (split at * <;> omega) | (have := instV_len (by assumption); (try simp only [seqI_length]); split at * <;> omega))) rfl (.cons rfl (.c (.own rfl)) (.cons rfl (.c (.own rfl)) .nil)) rfl rfl rfl) ?_
              refine r_op (o_not rfl rfl) ?_
              refine r_end ?_
              refine t_cond rfl (fun h31 => ?_) (fun h31 => ?_)
              ·
                have h31' := h31
                try simp only [decide_eq_true_eq, decide_eq_false_iff_not, Bool.not_eq_true', Bool.not_eq_false', Bool.not_false, Bool.not_true] at h31'
                refine t_seq ?_
                refine t_region ?_
                refine r_op (o_assign rfl rfl) ?_
                refine r_end ?_
                refine t_ret Try.func11 (.tmp rfl .nil) rfl fun E S w u hI hd => ?_
                refine post_mk hI hd ?_ trivial rfl rfl rfl <;> clear hI hd <;> (try clear ih)
                all_goals first | rfl | (exfalso; first | (simp [seqI_length] at *; done) | (simp [seqI_length] at *; omega))
              ·
                have h31' := h31
                try simp only [decide_eq_true_eq, decide_eq_false_iff_not, Bool.not_eq_true', Bool.not_eq_false', Bool.not_false, Bool.not_true] at h31'
                refine t_skip ?_
                refine t_seq ?_
                refine t_region ?_
                refine r_op (o_assign rfl rfl) ?_
                refine r_end ?_
                refine t_seq ?_
                refine t_region ?_
                refine r_op (o_loadAb rfl (n := 2) (by kernel_rfl) (by kernel_rfl) rfl rfl rfl) ?_
                refine r_op (o_move rfl rfl) ?_
                refine r_op (o_callM 14 (Go.Proofs.enters_of Try.func50 (by kernel_rfl) rfl) (fun U => c_laws_markAtom U ((r)) ((ts)) (1) (by first | omega | assumption | (simp; done) | (simp; omega) | (simp [seqI_length]; done) | (simp [seqI_length]; omega) | (split at * <;> omega) | (have := instV_len (by assumption); (try simp only [seqI_length]); split at * <;> omega)) (by first | omega | assumption | (simp; done) | (simp; omega) | (simp [seqI_length]; done) | (simp [seqI_length]; omega) | (split at * <;> omega) | (have := instV_len (by assumption); (try simp only [seqI_length]); split at * <;> omega))) rfl rfl (.agg rfl (.cons .t0 (.cons .own .nil)) (.cons rfl .t0 .nil)) rfl) ?_
                refine r_op (o_assign rfl rfl) ?_
                refine r_end ?_
                refine t_seq ?_
                refine t_region ?_
                refine r_op (o_move rfl rfl) ?_
                refine r_op (o_move rfl rfl) ?_
                refine r_op (o_callM 16 (Go.Proofs.enters_of Try.func51 (by kernel_rfl) rfl) (fun U => c_laws_markIntS U ((b)) ((1) + ((ts)).length) (by first | omega | assumption | (simp; done) | (simp; omega) | (simp [seqI_length]; done) | (simp [seqI_length]; omega) | (split at * <;> omega) | (have := instV_len (by assumption); (try simp only [seqI_length]); split at * <;> omega)) (by first | omega | assumption | (simp; done) | (simp; omega) | (simp [seqI_length]; done) | (simp [seqI_length]; omega) | (split at * <;> omega) | (have := instV_len (by assumption); (try simp only [seqI_length]); split at * <;> omega))) rfl rfl (.cons rfl .own (.cons rfl .t0 .nil)) rfl) ?_
                refine r_op (o_assign rfl rfl) ?_
                refine r_end ?_
                refine t_seq ?_
                refine t_seq ?_
                refine t_region ?_
                refine r_op (o_move rfl rfl) ?_
                refine r_op (o_bin rfl rfl rfl rfl) ?_
                refine r_op (o_move rfl rfl) ?_
                refine r_guard rfl rfl rfl (fun g32 => ?_) (fun g32 => ?_)
                ·
                  have g32' := g32
                  try simp only [decide_eq_true_eq, decide_eq_false_iff_not, Bool.not_eq_true', Bool.not_eq_false', Bool.not_false, Bool.not_true] at g32'
                  refine r_op (o_loadAb rfl (n := 2) (by kernel_rfl) (by kernel_rfl) rfl rfl rfl) ?_
                  refine r_guard rfl rfl rfl (fun _ => ?_) (fun h' => (Bool.noConfusion (g32.symm.trans h')))
                  refine r_op (o_loadAb rfl (n := 2) (by kernel_rfl) (by kernel_rfl) rfl rfl rfl) ?_
                  refine r_guard rfl rfl rfl (fun _ => ?_) (fun h' => (Bool.noConfusion (g32.symm.trans h')))
                  refine r_op (o_call 27 27 false (Go.Proofs.enters_of Try.func47 (by kernel_rfl) rfl) (c_laws_eqFact (((r))) ((q5)) (((r))) ((q5)) (by first | omega | assumption | (simp; done) | (simp; omega) | (simp [seqI_length]; done) | (simp [seqI_length]; omega) | (split at * <;> omega) | (have := instV_len (by assumption); (try simp only [seqI_length]); split at * <;> omega))) rfl (.cons rfl (.agg (.cons .t0 (.cons (.own rfl) .nil))) (.cons rfl (.agg (.cons .t0 (.cons (.own rfl) .nil))) .nil)) rfl rfl rfl) ?_
                  refine r_guard rfl rfl rfl (fun _ => ?_) (fun h' => (Bool.noConfusion (g32.symm.trans h')))
                  refine r_op (o_not rfl rfl) ?_
                  refine r_op (o_pickF rfl rfl g32 rfl) ?_
                  refine r_op (o_move rfl rfl) ?_
                  refine r_guard rfl rfl rfl (fun g33 => ?_) (fun g33 => ?_)
                  ·
                    have g33' := g33
                    try simp only [decide_eq_true_eq, decide_eq_false_iff_not, Bool.not_eq_true', Bool.not_eq_false', Bool.not_false, Bool.not_true] at g33'
                    refine r_op (o_move rfl rfl) ?_
                    refine r_guard rfl rfl rfl (fun _ => ?_) (fun h' => (Bool.noConfusion (g33.symm.trans h')))
                    refine r_op (o_move rfl rfl) ?_
                    refine r_guard rfl rfl rfl (fun _ => ?_) (fun h' => (Bool.noConfusion (g33.symm.trans h')))
                    refine r_op (o_neB rfl Try.underlying4 rfl rfl) ?_
                    refine r_op (o_pickF rfl rfl g33 rfl) ?_
                    refine r_end ?_
                    refine t_cond rfl (fun h34 => ?_) (fun h34 => ?_)
                    ·
                      have h34' := h34
                      skip
                      refine t_seq ?_
                      refine t_region ?_
                      refine r_op (o_assign rfl rfl) ?_
                      refine r_end ?_
                      refine t_ret Try.func11 (.tmp rfl .nil) rfl fun E S w u hI hd => ?_
                      refine post_mk hI hd ?_ trivial rfl rfl rfl <;> clear hI hd <;> (try clear ih)
                      all_goals first | rfl | (exfalso; first | (simp [seqI_length] at *; done) | (simp [seqI_length] at *; omega))
                    ·
                      have h34' := h34
                      skip
                      refine t_skip ?_
                      refine t_seq ?_
                      refine t_region ?_
                      refine r_op (o_assign rfl rfl) ?_
                      refine r_end ?_
                      refine t_seq ?_
                      refine t_region ?_
                      refine r_op (o_loadAb rfl (n := 2) (by kernel_rfl) (by kernel_rfl) rfl rfl rfl) ?_
                      refine r_op (o_move rfl rfl) ?_
                      refine r_op (o_callM 20 (Go.Proofs.enters_of Try.func52 (by kernel_rfl) rfl) (fun U => c_laws_markFact U (((r))) ((q5)) (1) (by first | omega | assumption | (simp; done) | (simp; omega) | (simp [seqI_length]; done) | (simp [seqI_length]; omega) | (split at * <;> omega) | (have := instV_len (by assumption); (try simp only [seqI_length]); split at * <;> omega)) (by first | omega | assumption | (simp; done) | (simp; omega) | (simp [seqI_length]; done) | (simp [seqI_length]; omega) | (split at * <;> omega) | (have := instV_len (by assumption); (try simp only [seqI_length]); split at * <;> omega))) rfl rfl (.agg rfl (.cons .t0 (.cons .own .nil)) (.cons rfl .t0 .nil)) rfl) ?_
                      refine r_op (o_assign rfl rfl) ?_
                      refine r_end ?_
                      refine t_seq ?_
                      refine t_region ?_
                      refine r_op (o_assign rfl rfl) ?_
                      refine r_end ?_
                      refine t_seq ?_
                      refine t_region ?_
                      refine r_op (o_loadAb rfl (n := 2) (by kernel_rfl) (by kernel_rfl) rfl rfl rfl) ?_
                      refine r_op (o_move rfl rfl) ?_
                      refine r_op (o_call 27 27 false (Go.Proofs.enters_of Try.func53 (by kernel_rfl) rfl) (c_laws_heldFact (((r))) (seqI (1) ((q5)).length) (1) (by first | omega | assumption | (simp; done) | (simp; omega) | (simp [seqI_length]; done) | (simp [seqI_length]; omega) | (split at * <;> omega) | (have := instV_len (by assumption); (try simp only [seqI_length]); split at * <;> omega)) (by first | omega | assumption | (simp; done) | (simp; omega) | (simp [seqI_length]; done) | (simp [seqI_length]; omega) | (split at * <;> omega) | (have := instV_len (by assumption); (try simp only [seqI_length]); split at * <;> omega))) rfl (.cons rfl (.agg (.cons .t0 (.cons (.own rfl) .nil))) (.cons rfl (.c .t0) .nil)) rfl rfl rfl) ?_
                      refine r_op (o_assign rfl rfl) ?_
                      refine r_end ?_
                      refine t_seq ?_
                      refine t_seq ?_
                      refine t_region ?_
                      refine r_op (o_move rfl rfl) ?_
                      refine r_op (o_bin rfl rfl rfl rfl) ?_
                      refine r_end ?_
                      refine t_cond rfl (fun h35 => ?_) (fun h35 => ?_)
                      ·
                        have h35' := h35
                        try simp only [decide_eq_true_eq, decide_eq_false_iff_not, Bool.not_eq_true', Bool.not_eq_false', Bool.not_false, Bool.not_true] at h35'
                        refine t_seq ?_
                        refine t_region ?_
                        refine r_op (o_assign rfl rfl) ?_
                        refine r_end ?_
                        refine t_ret Try.func11 (.tmp rfl .nil) rfl fun E S w u hI hd => ?_
                        refine post_mk hI hd ?_ trivial rfl rfl rfl <;> clear hI hd <;> (try clear ih)
                        all_goals first | rfl | (exfalso; first | (simp [seqI_length] at *; done) | (simp [seqI_length] at *; omega))
                      ·
                        have h35' := h35
                        try simp only [decide_eq_true_eq, decide_eq_false_iff_not, Bool.not_eq_true', Bool.not_eq_false', Bool.not_false, Bool.not_true] at h35'
                        refine t_skip ?_
                        refine t_seq ?_
                        refine t_seq ?_
                        refine t_region ?_
                        refine r_op (o_move rfl rfl) ?_
                        refine r_op (o_move rfl rfl) ?_
                        refine r_op (o_bin rfl rfl rfl rfl) ?_
                        refine r_end ?_
                        refine t_cond rfl (fun h36 => ?_) (fun h36 => ?_)
                        ·
                          have h36' := h36
                          try simp only [decide_eq_true_eq, decide_eq_false_iff_not, Bool.not_eq_true', Bool.not_eq_false', Bool.not_false, Bool.not_true] at h36'
                          refine t_seq ?_
                          refine t_region ?_
                          refine r_op (o_assign rfl rfl) ?_
                          refine r_end ?_
                          refine t_ret Try.func11 (.tmp rfl .nil) rfl fun E S w u hI hd => ?_
                          refine post_mk hI hd ?_ trivial rfl rfl rfl <;> clear hI hd <;> (try clear ih)
                          all_goals first | rfl | (exfalso; first | (simp [seqI_length] at *; done) | (simp [seqI_length] at *; omega))
                        ·
                          have h36' := h36
                          try simp only [decide_eq_true_eq, decide_eq_false_iff_not, Bool.not_eq_true', Bool.not_eq_false', Bool.not_false, Bool.not_true] at h36'
                          refine t_skip ?_
                          refine t_seq ?_
                          refine t_region ?_
                          refine r_op (o_loadAb rfl (n := 2) (by kernel_rfl) (by kernel_rfl) rfl rfl rfl) ?_
                          refine r_op (o_call 27 31 false (Go.Proofs.enters_of Try.func44 (by kernel_rfl) rfl) (c_laws_toAtom (r) (ts) (by first | omega | assumption | (simp; done) | (simp; omega) | (simp [seqI_length]; done) | (simp [seqI_length]; omega) | (split at * <;> omega) | (have := instV_len (by assumption); (try simp only [seqI_length]); split at * <;> omega))) rfl (.cons rfl (.agg (.cons .t0 (.cons .t0 .nil))) .nil) rfl rfl rfl) ?_
                          refine r_op (o_move rfl rfl) ?_
                          refine r_op (o_call 31 32 false (Go.Proofs.enters_of Try.func45 (by kernel_rfl) rfl) (c_laws_toIntS (b) (by first | omega | assumption | (simp; done) | (simp; omega) | (simp [seqI_length]; done) | (simp [seqI_length]; omega) | (split at * <;> omega) | (have := instV_len (by assumption); (try simp only [seqI_length]); split at * <;> omega))) rfl (.cons rfl (.c .t0) .nil) rfl rfl rfl) ?_
                          refine r_op (o_call 32 36 false (Go.Proofs.enters_of Try.func46 (by kernel_rfl) rfl) (c_impl_Instantiate ((r)) ((ts)) ((b)) (by first | omega | assumption | (simp; done) | (simp; omega) | (simp [seqI_length]; done) | (simp [seqI_length]; omega) | (split at * <;> omega) | (have := instV_len (by assumption); (try simp only [seqI_length]); split at * <;> omega)) (by first | omega | assumption | (simp; done) | (simp; omega) | (simp [seqI_length]; done) | (simp [seqI_length]; omega) | (split at * <;> omega) | (have := instV_len (by assumption); (try simp only [seqI_length]); split at * <;> omega)) _ hm3) rfl (.cons rfl (.agg (.cons .t0 (.cons (.own rfl) .nil))) (.cons rfl (.c (.own rfl)) .nil)) rfl rfl rfl) ?_
                          refine r_op (o_move rfl rfl) ?_
                          refine r_op (o_extract rfl rfl rfl rfl) ?_
                          refine r_op (o_extract rfl rfl rfl rfl) ?_
                          refine r_op (o_alloc 36 (zs := [.int .i64 (0), .slice none 0 0]) rfl rfl (by kernel_rfl) rfl) ?_
                          refine r_op (o_storeb (n := 2) (by kernel_rfl) rfl rfl rfl rfl rfl rfl) ?_
                          refine r_op (o_assign rfl rfl) ?_
                          refine r_end ?_
                          refine t_seq ?_
                          refine t_seq ?_
                          refine t_region ?_
                          refine r_op (o_loadAb rfl (n := 2) (by kernel_rfl) (by kernel_rfl) rfl rfl rfl) ?_
                          refine r_op (o_loadAb rfl (n := 2) (by kernel_rfl) (by kernel_rfl) rfl rfl rfl) ?_
                          refine r_op (o_call 37 37 false (Go.Proofs.enters_of Try.func47 (by kernel_rfl) rfl) (c_laws_eqFact (((r))) ((q5)) (((r))) ((q5)) (by first | omega | assumption | (simp; done) | (simp; omega) | (simp [seqI_length]; done) | (simp [seqI_length]; omega) | (split at * <;> omega) | (have := instV_len (by assumption); (try simp only [seqI_length]); split at * <;> omega))) rfl (.cons rfl (.agg (.cons .t0 (.cons (.own rfl) .nil))) (.cons rfl (.agg (.cons .t0 (.cons (.own rfl) .nil))) .nil)) rfl rfl rfl) ?_
                          refine r_op (o_not rfl rfl) ?_
                          refine r_op (o_move rfl rfl) ?_
                          refine r_guard rfl rfl rfl (fun g40 => ?_) (fun g40 => ?_)
                          ·
                            have g40' := g40
                            try simp only [decide_eq_true_eq, decide_eq_false_iff_not, Bool.not_eq_true', Bool.not_eq_false', Bool.not_false, Bool.not_true] at g40'
                            refine r_op (o_move rfl rfl) ?_
                            refine r_guard rfl rfl rfl (fun _ => ?_) (fun h' => (Bool.noConfusion (g40.symm.trans h')))
                            refine r_op (o_move rfl rfl) ?_
                            refine r_guard rfl rfl rfl (fun _ => ?_) (fun h' => (Bool.noConfusion (g40.symm.trans h')))
                            refine r_op (o_neB rfl Try.underlying4 rfl rfl) ?_
                            refine r_op (o_pickF rfl rfl g40 rfl) ?_
                            refine r_end ?_
                            refine t_cond rfl (fun h41 => ?_) (fun h41 => ?_)
                            ·
                              have h41' := h41
                              skip
                              refine t_seq ?_
                              refine t_region ?_
                              refine r_op (o_assign rfl rfl) ?_
                              refine r_end ?_
                              refine t_ret Try.func11 (.tmp rfl .nil) rfl fun E S w u hI hd => ?_
                              refine post_mk hI hd ?_ trivial rfl rfl rfl <;> clear hI hd <;> (try clear ih)
                              all_goals first | rfl | (exfalso; first | (simp [seqI_length] at *; done) | (simp [seqI_length] at *; omega))
                            ·
                              have h41' := h41
                              skip
                              refine t_skip ?_
                              refine t_seq ?_
                              refine t_region ?_
                              refine r_op (o_assign rfl rfl) ?_
                              refine r_end ?_
                              refine t_seq ?_
                              refine t_region ?_
                              refine r_op (o_loadAb rfl (n := 2) (by kernel_rfl) (by kernel_rfl) rfl rfl rfl) ?_
                              refine r_op (o_move rfl rfl) ?_
                              refine r_op (o_call 37 37 false (Go.Proofs.enters_of Try.func53 (by kernel_rfl) rfl) (c_laws_heldFact (((r))) (seqI (1) ((q5)).length) (1) (by first | omega | assumption | (simp; done) | (simp; omega) | (simp [seqI_length]; done) | (simp [seqI_length]; omega) | (split at * <;> omega) | (have := instV_len (by assumption); (try simp only [seqI_length]); split at * <;> omega)) (by first | omega | assumption | (simp; done) | (simp; omega) | (simp [seqI_length]; done) | (simp [seqI_length]; omega) | (split at * <;> omega) | (have := instV_len (by assumption); (try simp only [seqI_length]); split at * <;> omega))) rfl (.cons rfl (.agg (.cons .t0 (.cons (.own rfl) .nil))) (.cons rfl (.c .t0) .nil)) rfl rfl rfl) ?_
                              refine r_op (o_assign rfl rfl) ?_
                              refine r_end ?_
                              refine t_seq ?_
                              refine t_seq ?_
                              refine t_region ?_
                              refine r_op (o_move rfl rfl) ?_
                              refine r_op (o_bin rfl rfl rfl rfl) ?_
                              refine r_end ?_
                              refine t_cond rfl (fun h42 => ?_) (fun h42 => ?_)
                              ·
                                have h42' := h42
                                try simp only [decide_eq_true_eq, decide_eq_false_iff_not, Bool.not_eq_true', Bool.not_eq_false', Bool.not_false, Bool.not_true] at h42'
                                refine t_seq ?_
                                refine t_region ?_
                                refine r_op (o_assign rfl rfl) ?_
                                refine r_end ?_
                                refine t_ret Try.func11 (.tmp rfl .nil) rfl fun E S w u hI hd => ?_
                                refine post_mk hI hd ?_ trivial rfl rfl rfl <;> clear hI hd <;> (try clear ih)
                                all_goals first | rfl | (exfalso; first | (simp [seqI_length] at *; done) | (simp [seqI_length] at *; omega))
                              ·
                                have h42' := h42
                                try simp only [decide_eq_true_eq, decide_eq_false_iff_not, Bool.not_eq_true', Bool.not_eq_false', Bool.not_false, Bool.not_true] at h42'
                                refine t_skip ?_
                                refine t_seq ?_
                                refine t_seq ?_
                                refine t_region ?_
                                refine r_op (o_move rfl rfl) ?_
                                refine r_op (o_move rfl rfl) ?_
                                refine r_op (o_bin rfl rfl rfl rfl) ?_
                                refine r_end ?_
                                refine t_cond rfl (fun h43 => ?_) (fun h43 => ?_)
                                ·
                                  have h43' := h43
                                  try simp only [decide_eq_true_eq, decide_eq_false_iff_not, Bool.not_eq_true', Bool.not_eq_false', Bool.not_false, Bool.not_true] at h43'
                                  refine t_seq ?_
                                  refine t_region ?_
                                  refine r_op (o_assign rfl rfl) ?_
                                  refine r_end ?_
                                  refine t_ret Try.func11 (.tmp rfl .nil) rfl fun E S w u hI hd => ?_
                                  refine post_mk hI hd ?_ trivial rfl rfl rfl <;> clear hI hd <;> (try clear ih)
                                  all_goals first | rfl | (exfalso; first | (simp [seqI_length] at *; done) | (simp [seqI_length] at *; omega))
                                ·
                                  have h43' := h43
                                  try simp only [decide_eq_true_eq, decide_eq_false_iff_not, Bool.not_eq_true', Bool.not_eq_false', Bool.not_false, Bool.not_true] at h43'
                                  refine t_skip ?_
                                  refine t_seq ?_
                                  refine t_region ?_
                                  refine r_op (o_assign rfl rfl) ?_
                                  refine r_end ?_
                                  refine t_ret Try.func11 (.tmp rfl .nil) rfl fun E S w u hI hd => ?_
                                  refine post_mk hI hd ?_ trivial rfl rfl rfl <;> clear hI hd <;> (try clear ih)
                                  all_goals first | rfl | (exfalso; first | (simp [seqI_length] at *; done) | (simp [seqI_length] at *; omega))
                          ·
                            have g40' := g40
                            try simp only [decide_eq_true_eq, decide_eq_false_iff_not, Bool.not_eq_true', Bool.not_eq_false', Bool.not_false, Bool.not_true] at g40'
                            refine r_guard rfl rfl rfl (fun h' => (Bool.noConfusion (g40.symm.trans h'))) (fun _ => ?_)
                            refine r_guard rfl rfl rfl (fun h' => (Bool.noConfusion (g40.symm.trans h'))) (fun _ => ?_)
                            refine r_op (o_pickT rfl rfl g40 rfl) ?_
                            refine r_end ?_
                            refine t_cond rfl (fun _ => ?_) (fun h' => Bool.noConfusion (rfl.symm.trans h'))
                            refine t_seq ?_
                            refine t_region ?_
                            refine r_op (o_assign rfl rfl) ?_
                            refine r_end ?_
                            refine t_ret Try.func11 (.tmp rfl .nil) rfl fun E S w u hI hd => ?_
                            refine post_mk hI hd ?_ trivial rfl rfl rfl <;> clear hI hd <;> (try clear ih)
                            all_goals first | rfl | (exfalso; first | (simp [seqI_length] at *; done) | (simp [seqI_length] at *; omega))
                  ·
                    have g33' := g33
                    try simp only [decide_eq_true_eq, decide_eq_false_iff_not, Bool.not_eq_true', Bool.not_eq_false', Bool.not_false, Bool.not_true] at g33'
                    refine r_guard rfl rfl rfl (fun h' => (Bool.noConfusion (g33.symm.trans h'))) (fun _ => ?_)
                    refine r_guard rfl rfl rfl (fun h' => (Bool.noConfusion (g33.symm.trans h'))) (fun _ => ?_)
                    refine r_op (o_pickT rfl rfl g33 rfl) ?_
                    refine r_end ?_
                    refine t_cond rfl (fun _ => ?_) (fun h' => Bool.noConfusion (rfl.symm.trans h'))
                    refine t_seq ?_
                    refine t_region ?_
                    refine r_op (o_assign rfl rfl) ?_
                    refine r_end ?_
                    refine t_ret Try.func11 (.tmp rfl .nil) rfl fun E S w u hI hd => ?_
                    refine post_mk hI hd ?_ trivial rfl rfl rfl <;> clear hI hd <;> (try clear ih)
                    all_goals first | rfl | (exfalso; first | (simp [seqI_length] at *; done) | (simp [seqI_length] at *; omega))
                ·
                  have g32' := g32
                  try simp only [decide_eq_true_eq, decide_eq_false_iff_not, Bool.not_eq_true', Bool.not_eq_false', Bool.not_false, Bool.not_true] at g32'
                  refine r_guard rfl rfl rfl (fun h' => (Bool.noConfusion (g32.symm.trans h'))) (fun _ => ?_)
                  refine r_guard rfl rfl rfl (fun h' => (Bool.noConfusion (g32.symm.trans h'))) (fun _ => ?_)
                  refine r_guard rfl rfl rfl (fun h' => (Bool.noConfusion (g32.symm.trans h'))) (fun _ => ?_)
                  refine r_op (o_pickT rfl rfl g32 rfl) ?_
                  refine r_op (o_move rfl rfl) ?_
                  refine r_guard rfl rfl rfl (fun h' => (Bool.noConfusion (rfl.symm.trans h'))) (fun _ => ?_)
                  refine r_guard rfl rfl rfl (fun h' => (Bool.noConfusion (rfl.symm.trans h'))) (fun _ => ?_)
                  refine r_guard rfl rfl rfl (fun h' => (Bool.noConfusion (rfl.symm.trans h'))) (fun _ => ?_)
                  refine r_op (o_pickT rfl rfl rfl rfl) ?_
                  refine r_end ?_
                  refine t_cond rfl (fun _ => ?_) (fun h' => Bool.noConfusion (rfl.symm.trans h'))
                  refine t_seq ?_
                  refine t_region ?_
                  refine r_op (o_assign rfl rfl) ?_
                  refine r_end ?_
                  refine t_ret Try.func11 (.tmp rfl .nil) rfl fun E S w u hI hd => ?_
                  refine post_mk hI hd ?_ trivial rfl rfl rfl <;> clear hI hd <;> (try clear ih)
                  all_goals first | rfl | (exfalso; first | (simp [seqI_length] at *; done) | (simp [seqI_length] at *; omega))
        ·
          have g28' := g28
          try simp only [decide_eq_true_eq, decide_eq_false_iff_not, Bool.not_eq_true', Bool.not_eq_false', Bool.not_false, Bool.not_true] at g28'
          refine r_guard rfl rfl rfl (fun h' => (Bool.noConfusion (g28.symm.trans h'))) (fun _ => ?_)
          refine r_guard rfl rfl rfl (fun h' => (Bool.noConfusion (g28.symm.trans h'))) (fun _ => ?_)
          refine r_op (o_pickT rfl rfl g28 rfl) ?_
          refine r_end ?_
          refine t_cond rfl (fun _ => ?_) (fun h' => Bool.noConfusion (rfl.symm.trans h'))
          refine t_seq ?_
          refine t_region ?_
          refine r_op (o_assign rfl rfl) ?_
          refine r_end ?_
          refine t_ret Try.func11 (.tmp rfl .nil) rfl fun E S w u hI hd => ?_
          refine post_mk hI hd ?_ trivial rfl rfl rfl <;> clear hI hd <;> (try clear ih)
          all_goals first | rfl | (exfalso; first | (simp [seqI_length] at *; done) | (simp [seqI_length] at *; omega))
end Go.Eng
