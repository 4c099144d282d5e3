/- What the functions that FnUnionFind reaches answer. -/
import Derived.Test.YtoihempecfhicaaEngT
import Derived.Test.YtoihempecfhicaaChecked
set_option linter.unusedVariables false
set_option linter.unusedSimpArgs false
namespace Go.Eng
open Go Go.RowKit Go.Proofs
set_option maxHeartbeats 1000000 in
set_option maxRecDepth 10000 in
theorem c_laws_big (code : List Int) : Pu Try.prog 5 [.c (.t none (.sl 1 encU (code)))] [] 0 (.c (.t none (.v (.bool (decide ((1048576 : Int) < (code.length : Int))))))) := by
  refine pu_enter Try.func5 rfl (Nat.le_of_ble_eq_true rfl) fun w S => ?_
  refine t_seq ?_
  refine t_region ?_
  refine r_op (o_assign rfl rfl) ?_
  refine r_end ?_
  refine t_seq ?_
  refine t_region ?_
  refine r_op (o_move rfl rfl) ?_
  refine r_op (o_len rfl rfl rfl) ?_
  refine r_op (o_bin rfl rfl rfl rfl) ?_
  refine r_op (o_assign rfl rfl) ?_
  refine r_end ?_
  refine t_ret Try.func5 (.tmp rfl .nil) rfl fun E S w u hI hd => ?_
  refine post_mk hI hd ?_ trivial rfl rfl rfl <;> clear hI hd
  all_goals first | rfl | (rfl)
set_option maxHeartbeats 1000000 in
set_option maxRecDepth 10000 in
theorem c_spec_l1New (code : List Int) (hc : code.length ≤ 1048576) : PuG Try.prog 25 [.c (.t none (.sl 1 encU (code)))] (fun (h : Int) => True) (fun (h : Int) => [(0, some (.box [.t none (.sl 1 encU (code)), .t none (.v (.int .i64 (0))), .t none (.v (.int .i64 (h)))]))]) 1 (fun (h : Int) => .c (.ptr 0 0)) := by
  refine pu_enterG Try.func25 rfl (Nat.le_of_ble_eq_true rfl) fun w S => ?_
  refine t_seq ?_
  refine t_region ?_
  refine r_op (o_assign rfl rfl) ?_
  refine r_end ?_
  refine t_seq ?_
  refine t_region ?_
  refine r_op (o_move rfl rfl) ?_
  refine r_op (o_len rfl rfl rfl) ?_
  refine r_op (o_bin rfl rfl rfl rfl) ?_
  refine r_op (o_assign rfl rfl) ?_
  refine r_end ?_
  refine t_seq ?_
  refine t_seq ?_
  refine t_region ?_
  refine r_op (o_assign rfl rfl) ?_
  refine r_end ?_
  refine t_block ?_
  refine t_loopL (fun (m, h) => ⟨[(0, some (.c (.t none (.sl 1 encU (code))))), (2, some (.c (.t none (.v (.pointer none))))), (3, some (.c (.t none (.v (.int .i64 (h)))))), (4, some (.c (.t none (.v (.int .i64 ((m : Int)))))))], [], 0⟩ : Nat × Int → St) (fun (m, h) => m ≤ code.length) (fun (m, h) => code.length - m) (0, IntKind.i64.wrap (10101 + (code.length : Int))) ⟨⟨rfl, ⟨rfl, ⟨rfl, ⟨rfl, trivial⟩⟩⟩⟩, trivial, rfl⟩ (by exact Nat.zero_le _) ?_
  rintro ⟨m, h⟩ hI ih0
  try dsimp only at hI ih0
  have i1 := hI; (try dsimp only at i1)
  refine t_seq ?_
  refine t_seq ?_
  refine t_region ?_
  refine r_op (o_move rfl rfl) ?_
  refine r_op (o_move rfl rfl) ?_
  refine r_op (o_len rfl rfl rfl) ?_
  refine r_op (o_bin rfl rfl rfl rfl) ?_
  refine r_op (o_move rfl rfl) ?_
  refine r_guard rfl rfl rfl (fun g1 => ?_) (fun g1 => ?_)
  ·
    have g1' := of_decide_eq_true g1
    refine r_op (o_move rfl rfl) ?_
    refine r_guard rfl rfl rfl (fun _ => ?_) (nc g1)
    refine r_op (o_bin rfl rfl rfl rfl) ?_
    refine r_op (o_pickT rfl rfl g1 rfl) ?_
    refine r_end ?_
    refine t_cond rfl (fun h2 => ?_) (fun h2 => ?_)
    ·
      have h2' := of_decide_eq_true h2
      refine t_skip ?_
      refine t_seq ?_
      refine t_block ?_
      refine t_region ?_
      refine r_op (o_move rfl rfl) ?_
      refine r_op (o_bin rfl rfl rfl rfl) ?_
      refine r_op (o_move rfl rfl) ?_
      refine r_op (o_move rfl rfl) ?_
      obtain ⟨z3, hz4, b5⟩ := at_get (xs := code) (n := (m : Int)) (by first | omega | assumption) (by first | omega | assumption)
      refine r_op (o_index rfl (by kernel_rfl) rfl rfl b5 hz4) ?_
      refine r_op (o_load1 rfl (by kernel_rfl) rfl rfl) ?_
      refine r_op (o_conv rfl Try.underlying5 Try.underlying3 rfl) ?_
      refine r_op (o_bin rfl rfl rfl rfl) ?_
      refine r_op (o_bin rfl rfl rfl rfl) ?_
      refine r_op (o_binD rfl rfl rfl (and_d)) ?_
      refine r_op (o_assign rfl rfl) ?_
      refine r_end ?_
      refine t_endblock ?_
      refine t_region ?_
      refine r_op (o_move rfl rfl) ?_
      refine r_op (o_bin rfl rfl rfl rfl) ?_
      refine r_op (o_assign rfl rfl) ?_
      refine r_end ?_
      refine t_le ?_ (ih0 (m + 1, andI (IntKind.i64.wrap ((IntKind.i64.wrap ((IntKind.i64.wrap (h * 131)) + (IntKind.i64.wrap z3))) + 7)) 1073741823) (by (try dsimp only); omega) (by (try dsimp only); omega))
      exact ⟨⟨rfl, ⟨rfl, ⟨rfl, ⟨(eqI (wr64 (by omega) (by omega))), trivial⟩⟩⟩⟩, trivial, rfl⟩
    ·
      have h2' := of_decide_eq_false h2
      refine t_exit rfl ?_
      refine t_seq ?_
      refine t_region ?_
      refine r_op (o_move rfl rfl) ?_
      refine r_op (o_move rfl rfl) ?_
      refine r_op (o_build rfl (pl := [(0, 1), (1, 1), (2, 1)]) (zs := [.slice none 0 0, .int .i64 (0), .int .i64 (0)]) (by kernel_rfl) (by kernel_rfl) rfl rfl rfl) ?_
      refine r_op (o_box 0 rfl rfl rfl rfl) ?_
      refine r_op (o_assign rfl rfl) ?_
      refine r_end ?_
      refine t_ret Try.func25 (.tmp rfl .nil) rfl fun E S w u hI hd => ?_
      refine post_mkG (h) ?_ hI hd ?_ ⟨rfl, trivial⟩ rfl rfl <;> clear hI hd <;> (try clear ih0)
      · (try dsimp only) <;> (trivial)
      · rfl
  ·
    have g1' := of_decide_eq_false g1
    refine r_guard rfl rfl rfl (ncf g1) (fun _ => ?_)
    refine r_op (o_pickF rfl rfl g1 rfl) ?_
    refine r_end ?_
    refine t_cond rfl (ncf rfl) (fun _ => ?_)
    refine t_exit rfl ?_
    refine t_seq ?_
    refine t_region ?_
    refine r_op (o_move rfl rfl) ?_
    refine r_op (o_move rfl rfl) ?_
    refine r_op (o_build rfl (pl := [(0, 1), (1, 1), (2, 1)]) (zs := [.slice none 0 0, .int .i64 (0), .int .i64 (0)]) (by kernel_rfl) (by kernel_rfl) rfl rfl rfl) ?_
    refine r_op (o_box 0 rfl rfl rfl rfl) ?_
    refine r_op (o_assign rfl rfl) ?_
    refine r_end ?_
    refine t_ret Try.func25 (.tmp rfl .nil) rfl fun E S w u hI hd => ?_
    refine post_mkG (h) ?_ hI hd ?_ ⟨rfl, trivial⟩ rfl rfl <;> clear hI hd <;> (try clear ih0)
    · (try dsimp only) <;> (trivial)
    · rfl
set_option maxHeartbeats 1000000 in
set_option maxRecDepth 10000 in
theorem c_spec_l1Byte (code : List Int) (i h : Int) (hc : code.length ≤ 1048576) (hi0 : 0 ≤ i) (hi1 : i ≤ code.length) : MuG Try.prog 46 [.c (.ptr 0 0)] [.t none (.sl 1 encU (code)), .t none (.v (.int .i64 (i))), .t none (.v (.int .i64 (h)))] (fun (⟨x, i2, h2⟩ : Int × Int × Int) => (0 ≤ x ∧ x ≤ 255) ∧ 0 ≤ i2 ∧ i2 ≤ code.length) (fun (⟨x, i2, h2⟩ : Int × Int × Int) => [.t none (.sl 1 encU (code)), .t none (.v (.int .i64 (i2))), .t none (.v (.int .i64 (h2)))]) (fun (⟨x, i2, h2⟩ : Int × Int × Int) => []) 1 (fun (⟨x, i2, h2⟩ : Int × Int × Int) => .c (.t none (.v (.int .i64 (x))))) := by
  refine mu_enterG Try.func46 rfl (Nat.le_of_ble_eq_true rfl) fun v0 w S M hM => ?_
  refine t_seq ?_
  refine t_region ?_
  refine r_op (o_assign rfl rfl) ?_
  refine r_end ?_
  refine t_seq ?_
  refine t_region ?_
  refine r_op (o_move rfl rfl) ?_
  refine r_op (o_move rfl rfl) ?_
  refine r_op (o_nilp rfl rfl) ?_
  refine r_op (o_fieldb rfl (off := 2) (by kernel_rfl) rfl) ?_
  refine r_op (o_unp rfl (i := 0) rfl (p_load1b (by kernel_rfl) rfl rfl rfl)) ?_
  refine r_op (o_bin rfl rfl rfl rfl) ?_
  refine r_op (o_bin rfl rfl rfl rfl) ?_
  refine r_op (o_nilp rfl rfl) ?_
  refine r_op (o_fieldb rfl (off := 2) (by kernel_rfl) rfl) ?_
  refine r_op (o_storep (n := 1) (by kernel_rfl) rfl rfl rfl rfl rfl rfl) ?_
  refine r_end ?_
  refine t_seq ?_
  refine t_draw (fun _ => true) (by kernel_rfl) ?_
  refine d_take 0 rfl rfl (by kernel_rfl) (by kernel_rfl) (by kernel_rfl) (p_move rfl) ?_
  refine d_take 1 rfl rfl (by kernel_rfl) (by kernel_rfl) (by kernel_rfl) (p_nilp rfl) ?_
  refine d_take 2 rfl rfl (by kernel_rfl) (by kernel_rfl) (by kernel_rfl) (p_fieldb (off := 2) (by kernel_rfl) rfl) ?_
  refine d_take 3 rfl rfl (by kernel_rfl) (by kernel_rfl) (by kernel_rfl) (p_unp (i := 0) rfl (p_load1b (by kernel_rfl) rfl rfl rfl)) ?_
  refine d_take 4 rfl rfl (by kernel_rfl) (by kernel_rfl) (by kernel_rfl) (p_sh rfl rfl (rfl)) ?_
  refine d_take 5 rfl rfl (by kernel_rfl) (by kernel_rfl) (by kernel_rfl) (p_move rfl) ?_
  refine d_take 6 rfl rfl (by kernel_rfl) (by kernel_rfl) (by kernel_rfl) (p_nilp rfl) ?_
  refine d_take 7 rfl rfl (by kernel_rfl) (by kernel_rfl) (by kernel_rfl) (p_fieldb (off := 2) (by kernel_rfl) rfl) ?_
  refine d_take 8 rfl rfl (by kernel_rfl) (by kernel_rfl) (by kernel_rfl) (p_unp (i := 0) rfl (p_load1b (by kernel_rfl) rfl rfl rfl)) ?_
  refine d_take 9 rfl rfl (by kernel_rfl) (by kernel_rfl) (by kernel_rfl) (p_sh rfl rfl (rfl)) ?_
  refine d_take 10 rfl rfl (by kernel_rfl) (by kernel_rfl) (by kernel_rfl) (p_binD rfl rfl (xor_d)) ?_
  refine d_take 11 rfl rfl (by kernel_rfl) (by kernel_rfl) (by kernel_rfl) (p_binD rfl rfl (and_d)) ?_
  refine d_take 12 rfl rfl (by kernel_rfl) (by kernel_rfl) (by kernel_rfl) (p_assign rfl) ?_
  refine d_end (by kernel_rfl) ?_
  refine t_seq ?_
  refine t_seq ?_
  refine t_draw (fun _ => true) (by kernel_rfl) ?_
  refine d_take 0 rfl rfl (by kernel_rfl) (by kernel_rfl) (by kernel_rfl) (p_move rfl) ?_
  refine d_take 1 rfl rfl (by kernel_rfl) (by kernel_rfl) (by kernel_rfl) (p_nilp rfl) ?_
  refine d_take 2 rfl rfl (by kernel_rfl) (by kernel_rfl) (by kernel_rfl) (p_fieldb (off := 1) (by kernel_rfl) rfl) ?_
  refine d_take 3 rfl rfl (by kernel_rfl) (by kernel_rfl) (by kernel_rfl) (p_unp (i := 0) rfl (p_load1b (by kernel_rfl) rfl rfl rfl)) ?_
  refine d_take 4 rfl rfl (by kernel_rfl) (by kernel_rfl) (by kernel_rfl) (p_move rfl) ?_
  refine d_take 5 rfl rfl (by kernel_rfl) (by kernel_rfl) (by kernel_rfl) (p_nilp rfl) ?_
  refine d_take 6 rfl rfl (by kernel_rfl) (by kernel_rfl) (by kernel_rfl) (p_fieldb (off := 0) (by kernel_rfl) rfl) ?_
  refine d_take 7 rfl rfl (by kernel_rfl) (by kernel_rfl) (by kernel_rfl) (p_unp (i := 0) rfl (p_load1b (by kernel_rfl) rfl rfl rfl)) ?_
  refine d_take 8 rfl rfl (by kernel_rfl) (by kernel_rfl) (by kernel_rfl) (p_len rfl rfl) ?_
  refine d_take 9 rfl rfl (by kernel_rfl) (by kernel_rfl) (by kernel_rfl) (p_bin rfl rfl rfl) ?_
  refine d_end (by kernel_rfl) ?_
  refine t_cond rfl (fun h1 => ?_) (fun h1 => ?_)
  ·
    have h1' := of_decide_eq_true h1
    refine t_seq ?_
    refine t_draw (fun _ => true) (by kernel_rfl) ?_
    refine d_take 0 rfl rfl (by kernel_rfl) (by kernel_rfl) (by kernel_rfl) (p_move rfl) ?_
    refine d_take 1 rfl rfl (by kernel_rfl) (by kernel_rfl) (by kernel_rfl) (p_move rfl) ?_
    refine d_take 2 rfl rfl (by kernel_rfl) (by kernel_rfl) (by kernel_rfl) (p_nilp rfl) ?_
    refine d_take 3 rfl rfl (by kernel_rfl) (by kernel_rfl) (by kernel_rfl) (p_fieldb (off := 0) (by kernel_rfl) rfl) ?_
    refine d_take 4 rfl rfl (by kernel_rfl) (by kernel_rfl) (by kernel_rfl) (p_unp (i := 0) rfl (p_load1b (by kernel_rfl) rfl rfl rfl)) ?_
    refine d_take 5 rfl rfl (by kernel_rfl) (by kernel_rfl) (by kernel_rfl) (p_move rfl) ?_
    refine d_take 6 rfl rfl (by kernel_rfl) (by kernel_rfl) (by kernel_rfl) (p_nilp rfl) ?_
    refine d_take 7 rfl rfl (by kernel_rfl) (by kernel_rfl) (by kernel_rfl) (p_fieldb (off := 1) (by kernel_rfl) rfl) ?_
    refine d_take 8 rfl rfl (by kernel_rfl) (by kernel_rfl) (by kernel_rfl) (p_unp (i := 0) rfl (p_load1b (by kernel_rfl) rfl rfl rfl)) ?_
    obtain ⟨z2, hz3, b4⟩ := at_get (xs := code) (n := i) (by first | omega | assumption) (by first | omega | assumption)
    refine d_take 9 rfl rfl (by kernel_rfl) (by kernel_rfl) (by kernel_rfl) (p_index (by kernel_rfl) rfl rfl b4 hz3) ?_
    refine d_take 10 rfl rfl (by kernel_rfl) (by kernel_rfl) (by kernel_rfl) (p_load1 (by kernel_rfl) rfl rfl) ?_
    refine d_take 11 rfl rfl (by kernel_rfl) (by kernel_rfl) (by kernel_rfl) (p_conv Try.underlying5 Try.underlying3 rfl) ?_
    refine d_take 12 rfl rfl (by kernel_rfl) (by kernel_rfl) (by kernel_rfl) (p_bin rfl rfl rfl) ?_
    refine d_take 13 rfl rfl (by kernel_rfl) (by kernel_rfl) (by kernel_rfl) (p_binD rfl rfl (and_d)) ?_
    refine d_take 14 rfl rfl (by kernel_rfl) (by kernel_rfl) (by kernel_rfl) (p_assign rfl) ?_
    refine d_end (by kernel_rfl) ?_
    refine t_region ?_
    refine r_op (o_move rfl rfl) ?_
    refine r_op (o_move rfl rfl) ?_
    refine r_op (o_nilp rfl rfl) ?_
    refine r_op (o_fieldb rfl (off := 1) (by kernel_rfl) rfl) ?_
    refine r_op (o_unp rfl (i := 0) rfl (p_load1b (by kernel_rfl) rfl rfl rfl)) ?_
    refine r_op (o_bin rfl rfl rfl rfl) ?_
    refine r_op (o_nilp rfl rfl) ?_
    refine r_op (o_fieldb rfl (off := 1) (by kernel_rfl) rfl) ?_
    refine r_op (o_storep (n := 1) (by kernel_rfl) rfl rfl rfl rfl rfl rfl) ?_
    refine r_end ?_
    refine t_seq ?_
    refine t_region ?_
    refine r_op (o_move rfl rfl) ?_
    refine r_op (o_assign rfl rfl) ?_
    refine r_end ?_
    refine t_ret Try.func46 (.tmp rfl .nil) rfl fun E S w u hI hd => ?_
    refine post_mkG (⟨andI (IntKind.i64.wrap ((andI (xorI (Int.fdiv (IntKind.i64.wrap ((IntKind.i64.wrap (h * 6364136223846793005)) + 1442695040888963407)) (2 ^ 33)) (Int.fdiv (IntKind.i64.wrap ((IntKind.i64.wrap (h * 6364136223846793005)) + 1442695040888963407)) (2 ^ 45))) 255) + (IntKind.i64.wrap z2))) 255, IntKind.i64.wrap (i + 1), IntKind.i64.wrap ((IntKind.i64.wrap (h * 6364136223846793005)) + 1442695040888963407)⟩) ?_ hI hd ?_ ⟨rfl, trivial⟩ rfl rfl <;> clear hI hd
    · (try dsimp only) <;> (exact ⟨and255 _, by first | omega | (have := wr64 (x := i + 1) (by omega) (by omega); omega)⟩)
    · rfl
  ·
    have h1' := of_decide_eq_false h1
    refine t_skip ?_
    refine t_seq ?_
    refine t_region ?_
    refine r_op (o_move rfl rfl) ?_
    refine r_op (o_assign rfl rfl) ?_
    refine r_end ?_
    refine t_ret Try.func46 (.tmp rfl .nil) rfl fun E S w u hI hd => ?_
    refine post_mkG (⟨andI (xorI (Int.fdiv (IntKind.i64.wrap ((IntKind.i64.wrap (h * 6364136223846793005)) + 1442695040888963407)) (2 ^ 33)) (Int.fdiv (IntKind.i64.wrap ((IntKind.i64.wrap (h * 6364136223846793005)) + 1442695040888963407)) (2 ^ 45))) 255, i, IntKind.i64.wrap ((IntKind.i64.wrap (h * 6364136223846793005)) + 1442695040888963407)⟩) ?_ hI hd ?_ ⟨rfl, trivial⟩ rfl rfl <;> clear hI hd
    · (try dsimp only) <;> (exact ⟨and255 _, by first | omega | (have := wr64 (x := i + 1) (by omega) (by omega); omega)⟩)
    · rfl
set_option maxHeartbeats 1000000 in
set_option maxRecDepth 10000 in
theorem c_spec_l1Below (code : List Int) (i h n : Int) (hc : code.length ≤ 1048576) (hi0 : 0 ≤ i) (hi1 : i ≤ code.length) (hn : 1 ≤ n) (hn2 : n ≤ 256) : MuG Try.prog 42 [.c (.ptr 0 0), .c (.t none (.v (.int .i64 (n))))] [.t none (.sl 1 encU (code)), .t none (.v (.int .i64 (i))), .t none (.v (.int .i64 (h)))] (fun (⟨x, i2, h2⟩ : Int × Int × Int) => (0 ≤ x ∧ x ≤ n - 1) ∧ 0 ≤ i2 ∧ i2 ≤ code.length) (fun (⟨x, i2, h2⟩ : Int × Int × Int) => [.t none (.sl 1 encU (code)), .t none (.v (.int .i64 (i2))), .t none (.v (.int .i64 (h2)))]) (fun (⟨x, i2, h2⟩ : Int × Int × Int) => []) 1 (fun (⟨x, i2, h2⟩ : Int × Int × Int) => .c (.t none (.v (.int .i64 (x))))) := by
  refine mu_enterG Try.func42 rfl (Nat.le_of_ble_eq_true rfl) fun v0 w S M hM => ?_
  refine t_seq ?_
  refine t_region ?_
  refine r_op (o_assign rfl rfl) ?_
  refine r_end ?_
  refine t_seq ?_
  refine t_seq ?_
  refine t_region ?_
  refine r_op (o_move rfl rfl) ?_
  refine r_op (o_bin rfl rfl rfl rfl) ?_
  refine r_end ?_
  refine t_cond rfl (fun h1 => ?_) (fun h1 => ?_)
  ·
    have h1' := of_decide_eq_true h1
    exfalso; omega
  ·
    have h1' := of_decide_eq_false h1
    refine t_skip ?_
    refine t_seq ?_
    refine t_seq ?_
    refine t_region ?_
    refine r_op (o_move rfl rfl) ?_
    refine r_op (o_bin rfl rfl rfl rfl) ?_
    refine r_end ?_
    refine t_cond rfl (fun h2 => ?_) (fun h2 => ?_)
    ·
      have h2' := of_decide_eq_true h2
      refine t_seq ?_
      refine t_region ?_
      refine r_op (o_move rfl rfl) ?_
      refine r_opX (o_callGM 0 1 2 (pv := some (v0)) (Go.Proofs.enters_of Try.func46 (by kernel_rfl) rfl) (c_spec_l1Byte (code) (i) (h) (by first | omega | assumption) (by first | omega | assumption) (by first | omega | assumption)) rfl rfl (.cur rfl .nil) rfl (fun ⟨_, _, _⟩ => rfl) (fun _ => rfl) (fun ⟨_, _, _⟩ => rfl) rfl rfl) ?_
      rintro ⟨⟨x3, i24, h25⟩, hq6⟩
      try dsimp only at hq6
      try dsimp only
      obtain ⟨q7, q8⟩ := hq6
      refine r_op (o_move rfl rfl) ?_
      refine r_op (o_binD rfl rfl rfl (rem_d (by omega))) ?_
      refine r_op (o_assign rfl rfl) ?_
      refine r_end ?_
      refine t_ret Try.func42 (.tmp rfl .nil) rfl fun E S w u hI hd => ?_
      refine post_mkG (⟨Int.tmod (x3) n, (i24), (h25)⟩) ?_ hI hd ?_ ⟨rfl, trivial⟩ rfl rfl <;> clear hI hd
      · (try dsimp only) <;> (exact ⟨tmod_bnd (by omega) (by omega), by omega⟩)
      · rfl
    ·
      have h2' := of_decide_eq_false h2
      exfalso; omega
set_option maxHeartbeats 1000000 in
set_option maxRecDepth 10000 in
theorem c_spec_l1In (a0 a1 a2 : Int) : Pu Try.prog 31 [.c (.t none (.v (.int .i64 (a0)))), .c (.t none (.v (.int .i64 (a1)))), .c (.t none (.v (.int .i64 (a2))))] [] 0 (.c (.t none (.v (.bool (decide (a1 ≤ a0 ∧ a0 ≤ a2)))))) := by
  refine pu_enter Try.func31 rfl (Nat.le_of_ble_eq_true rfl) fun w S => ?_
  refine t_seq ?_
  refine t_region ?_
  refine r_op (o_assign rfl rfl) ?_
  refine r_end ?_
  refine t_seq ?_
  refine t_region ?_
  refine r_op (o_move rfl rfl) ?_
  refine r_op (o_move rfl rfl) ?_
  refine r_op (o_bin rfl rfl rfl rfl) ?_
  refine r_op (o_move rfl rfl) ?_
  refine r_guard rfl rfl rfl (fun g1 => ?_) (fun g1 => ?_)
  ·
    have g1' := of_decide_eq_true g1
    refine r_op (o_move rfl rfl) ?_
    refine r_guard rfl rfl rfl (fun _ => ?_) (nc g1)
    refine r_op (o_move rfl rfl) ?_
    refine r_guard rfl rfl rfl (fun _ => ?_) (nc g1)
    refine r_op (o_bin rfl rfl rfl rfl) ?_
    refine r_op (o_pickT rfl rfl g1 rfl) ?_
    refine r_op (o_assign rfl rfl) ?_
    refine r_end ?_
    refine t_ret Try.func31 (.tmp rfl .nil) rfl fun E S w u hI hd => ?_
    refine post_mk hI hd ?_ trivial rfl rfl rfl <;> clear hI hd
    all_goals first | rfl | (simp_all <;> omega)
  ·
    have g1' := of_decide_eq_false g1
    refine r_guard rfl rfl rfl (ncf g1) (fun _ => ?_)
    refine r_guard rfl rfl rfl (ncf g1) (fun _ => ?_)
    refine r_op (o_pickF rfl rfl g1 rfl) ?_
    refine r_op (o_assign rfl rfl) ?_
    refine r_end ?_
    refine t_ret Try.func31 (.tmp rfl .nil) rfl fun E S w u hI hd => ?_
    refine post_mk hI hd ?_ trivial rfl rfl rfl <;> clear hI hd
    all_goals first | rfl | (simp_all <;> omega)
set_option maxHeartbeats 1000000 in
set_option maxRecDepth 10000 in
theorem c_spec_NullValue (k : Int) (hk : -4611686018427387904 ≤ k ∧ k ≤ 4611686018427387904) : Pu Try.prog 32 [.c (.t none (.v (.int .i64 (k))))] [] 0 (.c (.t none (.v (.int .i64 (-1 - k))))) := by
  refine pu_enter Try.func32 rfl (Nat.le_of_ble_eq_true rfl) fun w S => ?_
  refine t_seq ?_
  refine t_region ?_
  refine r_op (o_assign rfl rfl) ?_
  refine r_end ?_
  refine t_seq ?_
  refine t_region ?_
  refine r_op (o_move rfl rfl) ?_
  refine r_op (o_bin rfl rfl rfl rfl) ?_
  refine r_op (o_assign rfl rfl) ?_
  refine r_end ?_
  refine t_ret Try.func32 (.tmp rfl .nil) rfl fun E S w u hI hd => ?_
  refine post_mk hI hd ?_ trivial rfl rfl rfl <;> clear hI hd
  all_goals first | rfl | (refine scI ?_; exact wr64 (by omega) (by omega))
set_option maxHeartbeats 1000000 in
set_option maxRecDepth 10000 in
theorem c_spec_NewUnionFind (n : Int) (hn : okI n) : Pu Try.prog 43 [.c (.t none (.v (.int .i64 (n))))] [(2, some (.row none 3 true 1 encI (newU n)))] 3 (.agg [.own 2]) := by
  refine pu_enter Try.func43 rfl (Nat.le_of_ble_eq_true rfl) fun w S => ?_
  have hn1 := hn.1; have hn2 := hn.2
  refine t_seq ?_
  refine t_region ?_
  refine r_op (o_alloc 0 (zs := [.slice none 0 0]) rfl rfl (by kernel_rfl) rfl) ?_
  refine r_end ?_
  refine t_seq ?_
  refine t_region ?_
  refine r_op (o_build rfl (pl := [(0, 1)]) (zs := [.slice none 0 0]) (by kernel_rfl) (by kernel_rfl) rfl rfl rfl) ?_
  refine r_op (o_alloc 1 (zs := [.slice none 0 0]) rfl rfl (by kernel_rfl) rfl) ?_
  refine r_op (o_storeb (n := 1) (by kernel_rfl) rfl rfl rfl rfl rfl rfl) ?_
  refine r_end ?_
  refine t_seq ?_
  refine t_seq ?_
  refine t_region ?_
  refine r_op (o_assign rfl rfl) ?_
  refine r_end ?_
  refine t_block ?_
  refine gt_nilb 2 (b := 1) (o := 0) (et := 3) (sz := 1) true encI rfl rfl rfl ?_
  refine t_loopL (fun m => ⟨[(0, some (.c (.t none (.v (.int .i64 (n)))))), (2, some (.c (.ptr 0 0))), (3, some (.c (.ptr 1 0))), (4, some (.c (.t none (.v (.int .i64 ((m : Int)))))))], [(0, some (.box [.t none (.v (.slice none 0 0))])), (1, some (.box [.own 2])), (2, some (.row none 3 true 1 encI (nulU m)))], 3⟩ : Nat → St) (fun m => m ≤ 40 ∧ ((m : Int) ≤ n ∨ m = 0) ∧ (m = 0 ∨ (0 ≤ n ∧ n ≤ 40))) (fun m => 40 - m) 0 ⟨⟨rfl, ⟨rfl, ⟨rfl, ⟨rfl, trivial⟩⟩⟩⟩, ⟨rfl, ⟨rfl, ⟨rfl, trivial⟩⟩⟩, rfl⟩ (by exact ⟨by omega, .inr rfl, .inl rfl⟩) ?_
  rintro m hI ih0
  try dsimp only at hI ih0
  obtain ⟨i1, i2, i3⟩ := hI; have nl := nulU_len m
  refine t_seq ?_
  refine t_seq ?_
  refine t_region ?_
  refine r_op (o_move rfl rfl) ?_
  refine r_op (o_move rfl rfl) ?_
  refine r_op (o_bin rfl rfl rfl rfl) ?_
  refine r_op (o_move rfl rfl) ?_
  refine r_guard rfl rfl rfl (fun g1 => ?_) (fun g1 => ?_)
  ·
    have g1' := of_decide_eq_true g1
    refine r_op (o_move rfl rfl) ?_
    refine r_guard rfl rfl rfl (fun _ => ?_) (nc g1)
    refine r_op (o_call 3 3 false (Go.Proofs.enters_of Try.func31 (by kernel_rfl) rfl) (c_spec_l1In (n) (0) (40)) rfl (.cons rfl (.c .t0) (.cons rfl (.c .t0) (.cons rfl (.c .t0) .nil))) rfl rfl rfl) ?_
    refine r_op (o_pickT rfl rfl g1 rfl) ?_
    refine r_end ?_
    refine t_cond rfl (fun h2 => ?_) (fun h2 => ?_)
    ·
      have h2' := of_decide_eq_true h2
      refine t_skip ?_
      refine t_seq ?_
      refine t_block ?_
      refine t_draw (fun i => !(Nat.beq i 5 || Nat.beq i 7)) (by kernel_rfl) ?_
      refine d_take 0 rfl rfl (by kernel_rfl) (by kernel_rfl) (by kernel_rfl) (p_fieldb (off := 0) (by kernel_rfl) rfl) ?_
      refine d_take 1 rfl rfl (by kernel_rfl) (by kernel_rfl) (by kernel_rfl) (p_load1b (by kernel_rfl) rfl rfl rfl) ?_
      refine d_take 2 rfl rfl (by kernel_rfl) (by kernel_rfl) (by kernel_rfl) (p_move rfl) ?_
      refine d_only 3 rfl (by kernel_rfl) rfl (o_call 3 3 false (Go.Proofs.enters_of Try.func32 (by kernel_rfl) rfl) (c_spec_NullValue ((m : Int)) (by first | omega | (simp; omega))) rfl (.cons rfl (.c .t0) .nil) rfl rfl rfl) ?_
      refine d_only 4 rfl (by kernel_rfl) rfl (o_litS 3 (e := 3) (sz := 1) (zs := [.int .i64 (0)]) rfl rfl (by kernel_rfl) rfl rfl rfl rfl rfl) ?_
      refine d_only 5 rfl (by kernel_rfl) rfl (o_append 2 (e := 3) (sz := 1) (by' := 8) (-1 - ((m : Int))) rfl (by kernel_rfl) rfl rfl rfl rfl rfl rfl (.cons .sc .nil) rfl (by first | omega | (simp; omega)) (by first | omega | (simp; omega))) ?_
      refine d_take 6 rfl rfl (by kernel_rfl) (by kernel_rfl) (by kernel_rfl) (p_fieldb (off := 0) (by kernel_rfl) rfl) ?_
      refine d_only 7 rfl (by kernel_rfl) rfl (o_storeb (n := 1) (by kernel_rfl) rfl rfl rfl rfl rfl rfl) ?_
      refine d_end (by kernel_rfl) ?_
      refine t_endblock ?_
      refine t_region ?_
      refine r_op (o_move rfl rfl) ?_
      refine r_op (o_bin rfl rfl rfl rfl) ?_
      refine r_op (o_assign rfl rfl) ?_
      refine r_end ?_
      refine t_le ?_ (ih0 (m + 1) (by (try dsimp only); omega) (by (try dsimp only); omega))
      exact ⟨⟨rfl, ⟨rfl, ⟨rfl, ⟨(eqI (wr64 (by omega) (by omega))), trivial⟩⟩⟩⟩, ⟨rfl, ⟨rfl, ⟨(eqR (nulU_step rfl)), trivial⟩⟩⟩, rfl⟩
    ·
      have h2' := of_decide_eq_false h2
      refine t_exit rfl ?_
      refine t_seq ?_
      refine t_region ?_
      refine r_op (o_loadAb rfl (n := 1) (by kernel_rfl) (by kernel_rfl) rfl rfl rfl) ?_
      refine r_op (o_storeb (n := 1) (by kernel_rfl) rfl rfl rfl rfl rfl rfl) ?_
      refine r_end ?_
      refine t_ret Try.func43 (.cells (n := 1) (by kernel_rfl) (by kernel_rfl) rfl rfl rfl .nil) rfl fun E S w u hI hd => ?_
      refine post_mk hI hd ?_ ⟨eqR ?_, trivial⟩ rfl rfl rfl <;> clear hI hd <;> (try clear ih0)
      all_goals first | rfl | (exact newU_end (by omega) i2 i3)
  ·
    have g1' := of_decide_eq_false g1
    refine r_guard rfl rfl rfl (ncf g1) (fun _ => ?_)
    refine r_op (o_pickF rfl rfl g1 rfl) ?_
    refine r_end ?_
    refine t_cond rfl (ncf rfl) (fun _ => ?_)
    refine t_exit rfl ?_
    refine t_seq ?_
    refine t_region ?_
    refine r_op (o_loadAb rfl (n := 1) (by kernel_rfl) (by kernel_rfl) rfl rfl rfl) ?_
    refine r_op (o_storeb (n := 1) (by kernel_rfl) rfl rfl rfl rfl rfl rfl) ?_
    refine r_end ?_
    refine t_ret Try.func43 (.cells (n := 1) (by kernel_rfl) (by kernel_rfl) rfl rfl rfl .nil) rfl fun E S w u hI hd => ?_
    refine post_mk hI hd ?_ ⟨eqR ?_, trivial⟩ rfl rfl rfl <;> clear hI hd <;> (try clear ih0)
    all_goals first | rfl | (exact newU_end (by omega) i2 i3)
set_option maxHeartbeats 1000000 in
set_option maxRecDepth 10000 in
theorem c_spec_l1Once (code : List Int) (i h n : Int) (hc : code.length ≤ 1048576) (hi0 : 0 ≤ i) (hi1 : i ≤ code.length) (hn : 1 ≤ n) (hn2 : n ≤ 256) : MuG Try.prog 44 [.c (.ptr 0 0), .c (.t none (.v (.int .i64 (n))))] [.t none (.sl 1 encU (code)), .t none (.v (.int .i64 (i))), .t none (.v (.int .i64 (h)))] (fun (⟨b, i2, h2⟩ : Bool × Int × Int) => 0 ≤ i2 ∧ i2 ≤ code.length) (fun (⟨b, i2, h2⟩ : Bool × Int × Int) => [.t none (.sl 1 encU (code)), .t none (.v (.int .i64 (i2))), .t none (.v (.int .i64 (h2)))]) (fun (⟨b, i2, h2⟩ : Bool × Int × Int) => []) 1 (fun (⟨b, i2, h2⟩ : Bool × Int × Int) => .c (.t none (.v (.bool (b))))) := by
  refine mu_enterG Try.func44 rfl (Nat.le_of_ble_eq_true rfl) fun v0 w S M hM => ?_
  refine t_seq ?_
  refine t_region ?_
  refine r_op (o_assign rfl rfl) ?_
  refine r_end ?_
  refine t_seq ?_
  refine t_region ?_
  refine r_op (o_move rfl rfl) ?_
  refine r_op (o_move rfl rfl) ?_
  refine r_opX (o_callGM 0 1 2 (pv := some (v0)) (Go.Proofs.enters_of Try.func42 (by kernel_rfl) rfl) (c_spec_l1Below (code) (i) (h) (n) (by first | omega | assumption) (by first | omega | assumption) (by first | omega | assumption) (by first | omega | assumption) (by first | omega | assumption)) rfl rfl (.cur rfl (.cons rfl .nil)) rfl (fun ⟨_, _, _⟩ => rfl) (fun _ => rfl) (fun ⟨_, _, _⟩ => rfl) rfl rfl) ?_
  rintro ⟨⟨x1, i22, h23⟩, hq4⟩
  try dsimp only at hq4
  try dsimp only
  obtain ⟨q5, q6⟩ := hq4
  refine r_op (o_bin rfl rfl rfl rfl) ?_
  refine r_op (o_assign rfl rfl) ?_
  refine r_end ?_
  refine t_ret Try.func44 (.tmp rfl .nil) rfl fun E S w u hI hd => ?_
  refine post_mkG (⟨decide ((x1) = 0), (i22), (h23)⟩) ?_ hI hd ?_ ⟨rfl, trivial⟩ rfl rfl <;> clear hI hd
  · (try dsimp only) <;> (omega)
  · rfl
set_option maxHeartbeats 1000000 in
set_option maxRecDepth 10000 in
theorem c_spec_l4Value (code : List Int) (i h n : Int) (hc : code.length ≤ 1048576) (hi0 : 0 ≤ i) (hi1 : i ≤ code.length) (hn : 0 ≤ n) (hn2 : n ≤ 256) : MuG Try.prog 33 [.c (.ptr 0 0), .c (.t none (.v (.int .i64 (n))))] [.t none (.sl 1 encU (code)), .t none (.v (.int .i64 (i))), .t none (.v (.int .i64 (h)))] (fun (⟨x, i2, h2⟩ : Int × Int × Int) => (-256 ≤ x ∧ x ≤ 2) ∧ 0 ≤ i2 ∧ i2 ≤ code.length) (fun (⟨x, i2, h2⟩ : Int × Int × Int) => [.t none (.sl 1 encU (code)), .t none (.v (.int .i64 (i2))), .t none (.v (.int .i64 (h2)))]) (fun (⟨x, i2, h2⟩ : Int × Int × Int) => []) 1 (fun (⟨x, i2, h2⟩ : Int × Int × Int) => .c (.t none (.v (.int .i64 (x))))) := by
  refine mu_enterG Try.func33 rfl (Nat.le_of_ble_eq_true rfl) fun v0 w S M hM => ?_
  refine t_seq ?_
  refine t_region ?_
  refine r_op (o_assign rfl rfl) ?_
  refine r_end ?_
  refine t_seq ?_
  refine t_seq ?_
  refine t_region ?_
  refine r_op (o_move rfl rfl) ?_
  refine r_op (o_bin rfl rfl rfl rfl) ?_
  refine r_op (o_move rfl rfl) ?_
  refine r_guard rfl rfl rfl (fun g1 => ?_) (fun g1 => ?_)
  ·
    have g1' := of_decide_eq_true g1
    refine r_op (o_move rfl rfl) ?_
    refine r_guard rfl rfl rfl (fun _ => ?_) (nc g1)
    refine r_opX (o_callGM 0 1 2 (pv := some (v0)) (Go.Proofs.enters_of Try.func44 (by kernel_rfl) rfl) (c_spec_l1Once (code) (i) (h) (2) (by first | omega | assumption) (by first | omega | assumption) (by first | omega | assumption) (by first | omega | assumption) (by first | omega | assumption)) rfl rfl (.cur rfl (.cons rfl .nil)) rfl (fun ⟨_, _, _⟩ => rfl) (fun _ => rfl) (fun ⟨_, _, _⟩ => rfl) rfl rfl) ?_
    rintro ⟨⟨b2, i23, h24⟩, hq5⟩
    try dsimp only at hq5
    try dsimp only
    refine r_op (o_pickT rfl rfl g1 rfl) ?_
    refine r_end ?_
    refine t_cond rfl (fun h7 => ?_) (fun h7 => ?_)
    ·
      have h7' := h7
      refine t_seq ?_
      refine t_region ?_
      refine r_op (o_move rfl rfl) ?_
      refine r_op (o_move rfl rfl) ?_
      refine r_opX (o_callGM 0 2 3 (pv := some (v0)) (Go.Proofs.enters_of Try.func42 (by kernel_rfl) rfl) (c_spec_l1Below ((code)) ((i23)) ((h24)) (n) (by first | omega | assumption) (by first | omega | assumption) (by first | omega | assumption) (by first | omega | assumption) (by first | omega | assumption)) rfl rfl (.cur rfl (.cons rfl .nil)) rfl (fun ⟨_, _, _⟩ => rfl) (fun _ => rfl) (fun ⟨_, _, _⟩ => rfl) rfl rfl) ?_
      rintro ⟨⟨x8, i29, h210⟩, hq11⟩
      try dsimp only at hq11
      try dsimp only
      obtain ⟨q12, q13⟩ := hq11
      refine r_op (o_call 3 3 false (Go.Proofs.enters_of Try.func32 (by kernel_rfl) rfl) (c_spec_NullValue ((x8)) (by first | omega | assumption)) rfl (.cons rfl (.c .t0) .nil) rfl rfl rfl) ?_
      refine r_op (o_assign rfl rfl) ?_
      refine r_end ?_
      refine t_ret Try.func33 (.tmp rfl .nil) rfl fun E S w u hI hd => ?_
      refine post_mkG (⟨-1 - ((x8)), (i29), (h210)⟩) ?_ hI hd ?_ ⟨rfl, trivial⟩ rfl rfl <;> clear hI hd
      · (try dsimp only) <;> (((try simp only [IntKind.wrap_i64] at *); omega))
      · rfl
    ·
      have h7' := h7
      refine t_skip ?_
      refine t_seq ?_
      refine t_region ?_
      refine r_op (o_move rfl rfl) ?_
      refine r_opX (o_callGM 0 2 3 (pv := some (v0)) (Go.Proofs.enters_of Try.func42 (by kernel_rfl) rfl) (c_spec_l1Below ((code)) ((i23)) ((h24)) (3) (by first | omega | assumption) (by first | omega | assumption) (by first | omega | assumption) (by first | omega | assumption) (by first | omega | assumption)) rfl rfl (.cur rfl (.cons rfl .nil)) rfl (fun ⟨_, _, _⟩ => rfl) (fun _ => rfl) (fun ⟨_, _, _⟩ => rfl) rfl rfl) ?_
      rintro ⟨⟨x14, i215, h216⟩, hq17⟩
      try dsimp only at hq17
      try dsimp only
      obtain ⟨q18, q19⟩ := hq17
      refine r_op (o_assign rfl rfl) ?_
      refine r_end ?_
      refine t_ret Try.func33 (.tmp rfl .nil) rfl fun E S w u hI hd => ?_
      refine post_mkG (⟨(x14), (i215), (h216)⟩) ?_ hI hd ?_ ⟨rfl, trivial⟩ rfl rfl <;> clear hI hd
      · (try dsimp only) <;> (((try simp only [IntKind.wrap_i64] at *); omega))
      · rfl
  ·
    have g1' := of_decide_eq_false g1
    refine r_guard rfl rfl rfl (ncf g1) (fun _ => ?_)
    refine r_op (o_pickF rfl rfl g1 rfl) ?_
    refine r_end ?_
    refine t_cond rfl (ncf rfl) (fun _ => ?_)
    refine t_skip ?_
    refine t_seq ?_
    refine t_region ?_
    refine r_op (o_move rfl rfl) ?_
    refine r_opX (o_callGM 0 1 2 (pv := some (v0)) (Go.Proofs.enters_of Try.func42 (by kernel_rfl) rfl) (c_spec_l1Below (code) (i) (h) (3) (by first | omega | assumption) (by first | omega | assumption) (by first | omega | assumption) (by first | omega | assumption) (by first | omega | assumption)) rfl rfl (.cur rfl (.cons rfl .nil)) rfl (fun ⟨_, _, _⟩ => rfl) (fun _ => rfl) (fun ⟨_, _, _⟩ => rfl) rfl rfl) ?_
    rintro ⟨⟨x20, i221, h222⟩, hq23⟩
    try dsimp only at hq23
    try dsimp only
    obtain ⟨q24, q25⟩ := hq23
    refine r_op (o_assign rfl rfl) ?_
    refine r_end ?_
    refine t_ret Try.func33 (.tmp rfl .nil) rfl fun E S w u hI hd => ?_
    refine post_mkG (⟨(x20), (i221), (h222)⟩) ?_ hI hd ?_ ⟨rfl, trivial⟩ rfl rfl <;> clear hI hd
    · (try dsimp only) <;> (((try simp only [IntKind.wrap_i64] at *); omega))
    · rfl
set_option maxHeartbeats 1000000 in
set_option maxRecDepth 10000 in
theorem c_spec_NullNumber (v : Int) (hv : -9223372036854775808 ≤ v) (hv2 : v ≤ 9223372036854775807) : Pu Try.prog 30 [.c (.t none (.v (.int .i64 (v))))] [] 0 (.tup [(false, [.t none (.v (.int .i64 (if -40 ≤ v ∧ v ≤ -1 then -1 - v else 0)))]), (false, [.t none (.v (.bool (decide (-40 ≤ v ∧ v ≤ -1))))])]) := by
  refine pu_enter Try.func30 rfl (Nat.le_of_ble_eq_true rfl) fun w S => ?_
  refine t_seq ?_
  refine t_region ?_
  refine r_op (o_assign rfl rfl) ?_
  refine r_op (o_assign rfl rfl) ?_
  refine r_end ?_
  refine t_seq ?_
  refine t_seq ?_
  refine t_region ?_
  refine r_op (o_move rfl rfl) ?_
  refine r_op (o_bin rfl rfl rfl rfl) ?_
  refine r_op (o_move rfl rfl) ?_
  refine r_guard rfl rfl rfl (fun g1 => ?_) (fun g1 => ?_)
  ·
    have g1' := of_decide_eq_false g1
    refine r_op (o_move rfl rfl) ?_
    refine r_guard rfl rfl rfl (fun _ => ?_) (ncf g1)
    refine r_op (o_bin rfl rfl rfl rfl) ?_
    refine r_guard rfl rfl rfl (fun _ => ?_) (ncf g1)
    refine r_op (o_call 0 0 false (Go.Proofs.enters_of Try.func31 (by kernel_rfl) rfl) (c_spec_l1In (IntKind.i64.wrap ((-1) - v)) (0) (39)) rfl (.cons rfl (.c .t0) (.cons rfl (.c .t0) (.cons rfl (.c .t0) .nil))) rfl rfl rfl) ?_
    refine r_guard rfl rfl rfl (fun _ => ?_) (ncf g1)
    refine r_op (o_not rfl rfl) ?_
    refine r_op (o_pickF rfl rfl g1 rfl) ?_
    refine r_end ?_
    refine t_cond rfl (fun h2 => ?_) (fun h2 => ?_)
    ·
      have h2' := of_decide_eq_false (bnt h2)
      refine t_seq ?_
      refine t_region ?_
      refine r_op (o_assign rfl rfl) ?_
      refine r_op (o_assign rfl rfl) ?_
      refine r_end ?_
      refine t_ret Try.func30 (.tmp rfl (.tmp rfl .nil)) rfl fun E S w u hI hd => ?_
      refine post_mk hI hd ?_ trivial rfl rfl rfl <;> clear hI hd
      all_goals first | rfl | (first | (have hn : ¬(-40 ≤ v ∧ v ≤ -1) := by (simp only [IntKind.wrap_i64] at *; omega)); (simp [hn]; done) | (have hn : (-40 ≤ v ∧ v ≤ -1) := by (simp only [IntKind.wrap_i64] at *; omega)); (have e : IntKind.i64.wrap (-1 - v) = -1 - v := wr64 (by omega) (by omega)); (simp [hn, e]; done))
    ·
      have h2' := of_decide_eq_true (bnf h2)
      refine t_skip ?_
      refine t_seq ?_
      refine t_region ?_
      refine r_op (o_move rfl rfl) ?_
      refine r_op (o_bin rfl rfl rfl rfl) ?_
      refine r_op (o_assign rfl rfl) ?_
      refine r_op (o_assign rfl rfl) ?_
      refine r_end ?_
      refine t_ret Try.func30 (.tmp rfl (.tmp rfl .nil)) rfl fun E S w u hI hd => ?_
      refine post_mk hI hd ?_ trivial rfl rfl rfl <;> clear hI hd
      all_goals first | rfl | (first | (have hn : ¬(-40 ≤ v ∧ v ≤ -1) := by (simp only [IntKind.wrap_i64] at *; omega)); (simp [hn]; done) | (have hn : (-40 ≤ v ∧ v ≤ -1) := by (simp only [IntKind.wrap_i64] at *; omega)); (have e : IntKind.i64.wrap (-1 - v) = -1 - v := wr64 (by omega) (by omega)); (simp [hn, e]; done))
  ·
    have g1' := of_decide_eq_true g1
    refine r_guard rfl rfl rfl (nc g1) (fun _ => ?_)
    refine r_guard rfl rfl rfl (nc g1) (fun _ => ?_)
    refine r_guard rfl rfl rfl (nc g1) (fun _ => ?_)
    refine r_op (o_pickT rfl rfl g1 rfl) ?_
    refine r_end ?_
    refine t_cond rfl (fun _ => ?_) (nc rfl)
    refine t_seq ?_
    refine t_region ?_
    refine r_op (o_assign rfl rfl) ?_
    refine r_op (o_assign rfl rfl) ?_
    refine r_end ?_
    refine t_ret Try.func30 (.tmp rfl (.tmp rfl .nil)) rfl fun E S w u hI hd => ?_
    refine post_mk hI hd ?_ trivial rfl rfl rfl <;> clear hI hd
    all_goals first | rfl | (first | (have hn : ¬(-40 ≤ v ∧ v ≤ -1) := by (simp only [IntKind.wrap_i64] at *; omega)); (simp [hn]; done) | (have hn : (-40 ≤ v ∧ v ≤ -1) := by (simp only [IntKind.wrap_i64] at *; omega)); (have e : IntKind.i64.wrap (-1 - v) = -1 - v := wr64 (by omega) (by omega)); (simp [hn, e]; done))
set_option maxHeartbeats 1000000 in
set_option maxRecDepth 10000 in
theorem c_spec_IsValidUnionFind (l : List Int) (hl : l.length ≤ 4611686018427387904) (ho : ∀ x ∈ l, okI x) : Pu Try.prog 12 [.agg [.t none (.sl 1 encI (l))]] [] 0 (.c (.t none (.v (.bool (ufOk l))))) := by
  refine pu_enter Try.func12 rfl (Nat.le_of_ble_eq_true rfl) fun w S => ?_
  refine t_seq ?_
  refine t_region ?_
  refine r_op (o_box 0 rfl rfl rfl rfl) ?_
  refine r_op (o_assign rfl rfl) ?_
  refine r_end ?_
  refine t_seq ?_
  refine t_seq ?_
  refine t_region ?_
  refine r_op (o_assign rfl rfl) ?_
  refine r_end ?_
  refine t_block ?_
  refine t_loopL (fun m => ⟨[(1, some (.c (.ptr 0 0))), (3, some (.c (.t none (.v (.int .i64 ((m : Int)))))))], [(0, some (.box [.t none (.sl 1 encI (l))]))], 1⟩ : Nat → St) (fun m => m ≤ l.length ∧ ∀ j, j < m → ufStep l j = true) (fun m => l.length - m) 0 ⟨⟨rfl, ⟨rfl, trivial⟩⟩, ⟨rfl, trivial⟩, rfl⟩ (by exact ⟨Nat.zero_le _, fun j h => by omega⟩) ?_
  rintro m hI ih0
  try dsimp only at hI ih0
  obtain ⟨i1, i2⟩ := hI
  refine t_seq ?_
  refine t_seq ?_
  refine t_region ?_
  refine r_op (o_move rfl rfl) ?_
  refine r_op (o_fieldb rfl (off := 0) (by kernel_rfl) rfl) ?_
  refine r_op (o_load1b rfl (by kernel_rfl) rfl rfl rfl) ?_
  refine r_op (o_len rfl rfl rfl) ?_
  refine r_op (o_bin rfl rfl rfl rfl) ?_
  refine r_end ?_
  refine t_cond rfl (fun h1 => ?_) (fun h1 => ?_)
  ·
    have h1' := of_decide_eq_true h1
    refine t_skip ?_
    refine t_seq ?_
    refine t_block ?_
    refine t_seq ?_
    refine t_region ?_
    refine r_op (o_fieldb rfl (off := 0) (by kernel_rfl) rfl) ?_
    refine r_op (o_load1b rfl (by kernel_rfl) rfl rfl rfl) ?_
    refine r_op (o_move rfl rfl) ?_
    obtain ⟨z2, hz3, b4⟩ := at_get (xs := l) (n := (m : Int)) (by first | omega | exact (ho _ (List.mem_of_getElem? (by assumption))).1 | exact (ho _ (List.mem_of_getElem? (by assumption))).2 | (split at * <;> omega)) (by first | omega | exact (ho _ (List.mem_of_getElem? (by assumption))).1 | exact (ho _ (List.mem_of_getElem? (by assumption))).2 | (split at * <;> omega))
    refine r_op (o_index rfl (by kernel_rfl) rfl rfl b4 hz3) ?_
    refine r_op (o_load1 rfl (by kernel_rfl) rfl rfl) ?_
    refine r_op (o_call 1 1 false (Go.Proofs.enters_of Try.func30 (by kernel_rfl) rfl) (c_spec_NullNumber (z2) (by first | omega | exact (ho _ (List.mem_of_getElem? (by assumption))).1 | exact (ho _ (List.mem_of_getElem? (by assumption))).2 | (split at * <;> omega)) (by first | omega | exact (ho _ (List.mem_of_getElem? (by assumption))).1 | exact (ho _ (List.mem_of_getElem? (by assumption))).2 | (split at * <;> omega))) rfl (.cons rfl (.c .t0) .nil) rfl rfl rfl) ?_
    refine r_op (o_move rfl rfl) ?_
    refine r_op (o_extract rfl rfl rfl rfl) ?_
    refine r_op (o_extract rfl rfl rfl rfl) ?_
    refine r_op (o_assign rfl rfl) ?_
    refine r_op (o_assign rfl rfl) ?_
    refine r_end ?_
    refine t_seq ?_
    refine t_draw (fun _ => true) (by kernel_rfl) ?_
    refine d_take 0 rfl rfl (by kernel_rfl) (by kernel_rfl) (by kernel_rfl) (p_move rfl) ?_
    refine d_take 1 rfl rfl (by kernel_rfl) (by kernel_rfl) (by kernel_rfl) (p_not rfl) ?_
    refine d_take 2 rfl rfl (by kernel_rfl) (by kernel_rfl) (by kernel_rfl) (p_move rfl) ?_
    refine d_guard 3 rfl rfl (by kernel_rfl) (by kernel_rfl) (by kernel_rfl) rfl rfl (fun _ => p_fieldb (off := 0) (by kernel_rfl) rfl) (fun g5 => ?_) (fun g5 => ?_)
    ·
      have g5' := of_decide_eq_false (bnt g5)
      refine d_guard 4 rfl rfl (by kernel_rfl) (by kernel_rfl) (by kernel_rfl) rfl rfl (fun _ => p_load1b (by kernel_rfl) rfl rfl rfl) (fun _ => ?_) (nc g5)
      refine d_guard 5 rfl rfl (by kernel_rfl) (by kernel_rfl) (by kernel_rfl) rfl rfl (fun _ => p_move rfl) (fun _ => ?_) (nc g5)
      refine d_guard 6 rfl rfl (by kernel_rfl) (by kernel_rfl) (by kernel_rfl) rfl rfl (fun _ => p_index (by kernel_rfl) rfl rfl b4 hz3) (fun _ => ?_) (nc g5)
      refine d_guard 7 rfl rfl (by kernel_rfl) (by kernel_rfl) (by kernel_rfl) rfl rfl (fun _ => p_load1 (by kernel_rfl) rfl rfl) (fun _ => ?_) (nc g5)
      refine d_onlyG 8 rfl rfl (by kernel_rfl) rfl rfl rfl (fun _ => (o_call 1 1 false (Go.Proofs.enters_of Try.func31 (by kernel_rfl) rfl) (c_spec_l1In (z2) (0) (9)) rfl (.cons rfl (.c .t0) (.cons rfl (.c .t0) (.cons rfl (.c .t0) .nil))) rfl rfl rfl)) (fun _ => ?_) (nc g5)
      refine d_guard 9 rfl rfl (by kernel_rfl) (by kernel_rfl) (by kernel_rfl) rfl rfl (fun _ => p_not rfl) (fun _ => ?_) (nc g5)
      refine d_take 10 rfl rfl (by kernel_rfl) (by kernel_rfl) (by kernel_rfl) (p_pickT rfl g5 rfl) ?_
      refine d_take 11 rfl rfl (by kernel_rfl) (by kernel_rfl) (by kernel_rfl) (p_move rfl) ?_
      refine d_guard 12 rfl rfl (by kernel_rfl) (by kernel_rfl) (by kernel_rfl) rfl rfl (fun _ => p_move rfl) (fun g6 => ?_) (fun g6 => ?_)
      ·
        have g6' := of_decide_eq_true (bnf g6)
        refine d_guard 13 rfl rfl (by kernel_rfl) (by kernel_rfl) (by kernel_rfl) rfl rfl (fun _ => p_move rfl) (fun _ => ?_) (ncf g6)
        refine d_guard 14 rfl rfl (by kernel_rfl) (by kernel_rfl) (by kernel_rfl) rfl rfl (fun _ => p_move rfl) (fun g7 => ?_) (fun g7 => ?_)
        ·
          have g7' := of_decide_eq_true g7
          refine d_guard 15 rfl rfl (by kernel_rfl) (by kernel_rfl) (by kernel_rfl) rfl rfl (fun _ => p_move rfl) (fun _ => ?_) (nc g7)
          refine d_guard 16 rfl rfl (by kernel_rfl) (by kernel_rfl) (by kernel_rfl) rfl rfl (fun _ => p_bin rfl rfl rfl) (fun _ => ?_) (nc g7)
          refine d_guard 17 rfl rfl (by kernel_rfl) (by kernel_rfl) (by kernel_rfl) rfl rfl (fun _ => p_move rfl) (fun _ => ?_) (nc g7)
          refine d_guard 18 rfl rfl (by kernel_rfl) (by kernel_rfl) (by kernel_rfl) rfl rfl (fun _ => p_fieldb (off := 0) (by kernel_rfl) rfl) (fun g8 => ?_) (fun g8 => ?_)
          ·
            have g8' := of_decide_eq_false g8
            refine d_guard 19 rfl rfl (by kernel_rfl) (by kernel_rfl) (by kernel_rfl) rfl rfl (fun _ => p_load1b (by kernel_rfl) rfl rfl rfl) (fun _ => ?_) (ncf g8)
            refine d_guard 20 rfl rfl (by kernel_rfl) (by kernel_rfl) (by kernel_rfl) rfl rfl (fun _ => p_move rfl) (fun _ => ?_) (ncf g8)
            obtain ⟨z9, hz10, b11⟩ := at_get (xs := l) (n := if -40 ≤ (z2) ∧ (z2) ≤ -1 then -1 - (z2) else 0) (by first | omega | exact (ho _ (List.mem_of_getElem? (by assumption))).1 | exact (ho _ (List.mem_of_getElem? (by assumption))).2 | (split at * <;> omega)) (by first | omega | exact (ho _ (List.mem_of_getElem? (by assumption))).1 | exact (ho _ (List.mem_of_getElem? (by assumption))).2 | (split at * <;> omega))
            refine d_guard 21 rfl rfl (by kernel_rfl) (by kernel_rfl) (by kernel_rfl) rfl rfl (fun _ => p_index (by kernel_rfl) rfl rfl b11 hz10) (fun _ => ?_) (ncf g8)
            refine d_guard 22 rfl rfl (by kernel_rfl) (by kernel_rfl) (by kernel_rfl) rfl rfl (fun _ => p_load1 (by kernel_rfl) rfl rfl) (fun _ => ?_) (ncf g8)
            refine d_guard 23 rfl rfl (by kernel_rfl) (by kernel_rfl) (by kernel_rfl) rfl rfl (fun _ => p_move rfl) (fun _ => ?_) (ncf g8)
            refine d_onlyG 24 rfl rfl (by kernel_rfl) rfl rfl rfl (fun _ => (o_call 1 1 false (Go.Proofs.enters_of Try.func32 (by kernel_rfl) rfl) (c_spec_NullValue (if -40 ≤ (z2) ∧ (z2) ≤ -1 then -1 - (z2) else 0) (by first | omega | exact (ho _ (List.mem_of_getElem? (by assumption))).1 | exact (ho _ (List.mem_of_getElem? (by assumption))).2 | (split at * <;> omega))) rfl (.cons rfl (.c .t0) .nil) rfl rfl rfl)) (fun _ => ?_) (ncf g8)
            refine d_guard 25 rfl rfl (by kernel_rfl) (by kernel_rfl) (by kernel_rfl) rfl rfl (fun _ => p_bin rfl rfl rfl) (fun _ => ?_) (ncf g8)
            refine d_guard 26 rfl rfl (by kernel_rfl) (by kernel_rfl) (by kernel_rfl) rfl rfl (fun _ => p_pickF rfl g8 rfl) (fun _ => ?_) (nc g7)
            refine d_guard 27 rfl rfl (by kernel_rfl) (by kernel_rfl) (by kernel_rfl) rfl rfl (fun _ => p_pickT rfl g7 rfl) (fun _ => ?_) (ncf g6)
            refine d_take 28 rfl rfl (by kernel_rfl) (by kernel_rfl) (by kernel_rfl) (p_pickF rfl g6 rfl) ?_
            refine d_end (by kernel_rfl) ?_
            refine t_cond rfl (fun h12 => ?_) (fun h12 => ?_)
            ·
              have h12' := of_decide_eq_true h12
              refine t_seq ?_
              refine t_region ?_
              refine r_op (o_assign rfl rfl) ?_
              refine r_end ?_
              refine t_ret Try.func12 (.tmp rfl .nil) rfl fun E S w u hI hd => ?_
              refine post_mk hI hd ?_ trivial rfl rfl rfl <;> clear hI hd <;> (try clear ih0)
              all_goals first | rfl | (refine scB ?_; first | (rw [ufOk_not (m := m) (by omega) (by first | exact ufStep_bad (m := m) (by assumption) (by omega) | exact ufStep_far (m := m) (by assumption) (by omega) (by omega) | exact ufStep_const (m := m) (by assumption) (by omega) (by omega) | (rw [ufStep_rep (m := m) (by assumption) (by assumption) (by omega) (by omega) (by omega) (by omega)]; first | exact decide_eq_true (by omega) | exact decide_eq_false (by omega)))]; done) | (rw [ufOk_end (m := m) i2 (by omega)]; exact decide_eq_decide.2 (by omega)))
            ·
              have h12' := of_decide_eq_false h12
              refine t_skip ?_
              refine t_endblock ?_
              refine t_region ?_
              refine r_op (o_move rfl rfl) ?_
              refine r_op (o_bin rfl rfl rfl rfl) ?_
              refine r_op (o_assign rfl rfl) ?_
              refine r_end ?_
              refine t_le ?_ (ih0 (m + 1) (by (try dsimp only); omega) (by (try dsimp only); exact ⟨by omega, step_all i2 (by first | exact ufStep_bad (m := m) (by assumption) (by omega) | exact ufStep_far (m := m) (by assumption) (by omega) (by omega) | exact ufStep_const (m := m) (by assumption) (by omega) (by omega) | (rw [ufStep_rep (m := m) (by assumption) (by assumption) (by omega) (by omega) (by omega) (by omega)]; first | exact decide_eq_true (by omega) | exact decide_eq_false (by omega)))⟩))
              exact ⟨⟨rfl, ⟨(eqI (wr64 (by omega) (by omega))), trivial⟩⟩, ⟨rfl, trivial⟩, rfl⟩
          ·
            have g8' := of_decide_eq_true g8
            refine d_guard 19 rfl rfl (by kernel_rfl) (by kernel_rfl) (by kernel_rfl) rfl rfl (v := .c .top) (nc g8) (nc g8) (fun _ => ?_)
            refine d_guard 20 rfl rfl (by kernel_rfl) (by kernel_rfl) (by kernel_rfl) rfl rfl (v := .c .top) (nc g8) (nc g8) (fun _ => ?_)
            refine d_guard 21 rfl rfl (by kernel_rfl) (by kernel_rfl) (by kernel_rfl) rfl rfl (v := .c .top) (nc g8) (nc g8) (fun _ => ?_)
            refine d_guard 22 rfl rfl (by kernel_rfl) (by kernel_rfl) (by kernel_rfl) rfl rfl (v := .c .top) (nc g8) (nc g8) (fun _ => ?_)
            refine d_guard 23 rfl rfl (by kernel_rfl) (by kernel_rfl) (by kernel_rfl) rfl rfl (v := .c .top) (nc g8) (nc g8) (fun _ => ?_)
            refine d_guard 24 rfl rfl (by kernel_rfl) (by kernel_rfl) (by kernel_rfl) rfl rfl (v := .c .top) (nc g8) (nc g8) (fun _ => ?_)
            refine d_guard 25 rfl rfl (by kernel_rfl) (by kernel_rfl) (by kernel_rfl) rfl rfl (v := .c .top) (nc g8) (nc g8) (fun _ => ?_)
            refine d_guard 26 rfl rfl (by kernel_rfl) (by kernel_rfl) (by kernel_rfl) rfl rfl (fun _ => p_pickT rfl g8 rfl) (fun _ => ?_) (nc g7)
            refine d_guard 27 rfl rfl (by kernel_rfl) (by kernel_rfl) (by kernel_rfl) rfl rfl (fun _ => p_pickT rfl g7 rfl) (fun _ => ?_) (ncf g6)
            refine d_take 28 rfl rfl (by kernel_rfl) (by kernel_rfl) (by kernel_rfl) (p_pickF rfl g6 rfl) ?_
            refine d_end (by kernel_rfl) ?_
            refine t_cond rfl (fun _ => ?_) (nc rfl)
            refine t_seq ?_
            refine t_region ?_
            refine r_op (o_assign rfl rfl) ?_
            refine r_end ?_
            refine t_ret Try.func12 (.tmp rfl .nil) rfl fun E S w u hI hd => ?_
            refine post_mk hI hd ?_ trivial rfl rfl rfl <;> clear hI hd <;> (try clear ih0)
            all_goals first | rfl | (refine scB ?_; first | (rw [ufOk_not (m := m) (by omega) (by first | exact ufStep_bad (m := m) (by assumption) (by omega) | exact ufStep_far (m := m) (by assumption) (by omega) (by omega) | exact ufStep_const (m := m) (by assumption) (by omega) (by omega) | (rw [ufStep_rep (m := m) (by assumption) (by assumption) (by omega) (by omega) (by omega) (by omega)]; first | exact decide_eq_true (by omega) | exact decide_eq_false (by omega)))]; done) | (rw [ufOk_end (m := m) i2 (by omega)]; exact decide_eq_decide.2 (by omega)))
        ·
          have g7' := of_decide_eq_false g7
          refine d_guard 15 rfl rfl (by kernel_rfl) (by kernel_rfl) (by kernel_rfl) rfl rfl (v := .c .top) (ncf g7) (ncf g7) (fun _ => ?_)
          refine d_guard 16 rfl rfl (by kernel_rfl) (by kernel_rfl) (by kernel_rfl) rfl rfl (v := .c .top) (ncf g7) (ncf g7) (fun _ => ?_)
          refine d_guard 17 rfl rfl (by kernel_rfl) (by kernel_rfl) (by kernel_rfl) rfl rfl (v := .c .top) (ncf g7) (ncf g7) (fun _ => ?_)
          refine d_skip 18 rfl rfl (by kernel_rfl) (by kernel_rfl) (by kernel_rfl) rfl rfl ?_
          refine d_skip 19 rfl rfl (by kernel_rfl) (by kernel_rfl) (by kernel_rfl) rfl rfl ?_
          refine d_skip 20 rfl rfl (by kernel_rfl) (by kernel_rfl) (by kernel_rfl) rfl rfl ?_
          refine d_skip 21 rfl rfl (by kernel_rfl) (by kernel_rfl) (by kernel_rfl) rfl rfl ?_
          refine d_skip 22 rfl rfl (by kernel_rfl) (by kernel_rfl) (by kernel_rfl) rfl rfl ?_
          refine d_skip 23 rfl rfl (by kernel_rfl) (by kernel_rfl) (by kernel_rfl) rfl rfl ?_
          refine d_skip 24 rfl rfl (by kernel_rfl) (by kernel_rfl) (by kernel_rfl) rfl rfl ?_
          refine d_skip 25 rfl rfl (by kernel_rfl) (by kernel_rfl) (by kernel_rfl) rfl rfl ?_
          refine d_guard 26 rfl rfl (by kernel_rfl) (by kernel_rfl) (by kernel_rfl) rfl rfl (v := .c .top) (ncf g7) (ncf g7) (fun _ => ?_)
          refine d_guard 27 rfl rfl (by kernel_rfl) (by kernel_rfl) (by kernel_rfl) rfl rfl (fun _ => p_pickF rfl g7 rfl) (fun _ => ?_) (ncf g6)
          refine d_take 28 rfl rfl (by kernel_rfl) (by kernel_rfl) (by kernel_rfl) (p_pickF rfl g6 rfl) ?_
          refine d_end (by kernel_rfl) ?_
          refine t_cond rfl (ncf rfl) (fun _ => ?_)
          refine t_skip ?_
          refine t_endblock ?_
          refine t_region ?_
          refine r_op (o_move rfl rfl) ?_
          refine r_op (o_bin rfl rfl rfl rfl) ?_
          refine r_op (o_assign rfl rfl) ?_
          refine r_end ?_
          refine t_le ?_ (ih0 (m + 1) (by (try dsimp only); omega) (by (try dsimp only); exact ⟨by omega, step_all i2 (by first | exact ufStep_bad (m := m) (by assumption) (by omega) | exact ufStep_far (m := m) (by assumption) (by omega) (by omega) | exact ufStep_const (m := m) (by assumption) (by omega) (by omega) | (rw [ufStep_rep (m := m) (by assumption) (by assumption) (by omega) (by omega) (by omega) (by omega)]; first | exact decide_eq_true (by omega) | exact decide_eq_false (by omega)))⟩))
          exact ⟨⟨rfl, ⟨(eqI (wr64 (by omega) (by omega))), trivial⟩⟩, ⟨rfl, trivial⟩, rfl⟩
      ·
        have g6' := of_decide_eq_false (bnt g6)
        refine d_guard 13 rfl rfl (by kernel_rfl) (by kernel_rfl) (by kernel_rfl) rfl rfl (v := .c .top) (nc g6) (nc g6) (fun _ => ?_)
        refine d_skip 14 rfl rfl (by kernel_rfl) (by kernel_rfl) (by kernel_rfl) rfl rfl ?_
        refine d_skip 15 rfl rfl (by kernel_rfl) (by kernel_rfl) (by kernel_rfl) rfl rfl ?_
        refine d_skip 16 rfl rfl (by kernel_rfl) (by kernel_rfl) (by kernel_rfl) rfl rfl ?_
        refine d_skip 17 rfl rfl (by kernel_rfl) (by kernel_rfl) (by kernel_rfl) rfl rfl ?_
        refine d_skip 18 rfl rfl (by kernel_rfl) (by kernel_rfl) (by kernel_rfl) rfl rfl ?_
        refine d_skip 19 rfl rfl (by kernel_rfl) (by kernel_rfl) (by kernel_rfl) rfl rfl ?_
        refine d_skip 20 rfl rfl (by kernel_rfl) (by kernel_rfl) (by kernel_rfl) rfl rfl ?_
        refine d_skip 21 rfl rfl (by kernel_rfl) (by kernel_rfl) (by kernel_rfl) rfl rfl ?_
        refine d_skip 22 rfl rfl (by kernel_rfl) (by kernel_rfl) (by kernel_rfl) rfl rfl ?_
        refine d_skip 23 rfl rfl (by kernel_rfl) (by kernel_rfl) (by kernel_rfl) rfl rfl ?_
        refine d_skip 24 rfl rfl (by kernel_rfl) (by kernel_rfl) (by kernel_rfl) rfl rfl ?_
        refine d_skip 25 rfl rfl (by kernel_rfl) (by kernel_rfl) (by kernel_rfl) rfl rfl ?_
        refine d_skip 26 rfl rfl (by kernel_rfl) (by kernel_rfl) (by kernel_rfl) rfl rfl ?_
        refine d_guard 27 rfl rfl (by kernel_rfl) (by kernel_rfl) (by kernel_rfl) rfl rfl (v := .c .top) (nc g6) (nc g6) (fun _ => ?_)
        refine d_take 28 rfl rfl (by kernel_rfl) (by kernel_rfl) (by kernel_rfl) (p_pickT rfl g6 rfl) ?_
        refine d_end (by kernel_rfl) ?_
        refine t_cond rfl (fun _ => ?_) (nc rfl)
        refine t_seq ?_
        refine t_region ?_
        refine r_op (o_assign rfl rfl) ?_
        refine r_end ?_
        refine t_ret Try.func12 (.tmp rfl .nil) rfl fun E S w u hI hd => ?_
        refine post_mk hI hd ?_ trivial rfl rfl rfl <;> clear hI hd <;> (try clear ih0)
        all_goals first | rfl | (refine scB ?_; first | (rw [ufOk_not (m := m) (by omega) (by first | exact ufStep_bad (m := m) (by assumption) (by omega) | exact ufStep_far (m := m) (by assumption) (by omega) (by omega) | exact ufStep_const (m := m) (by assumption) (by omega) (by omega) | (rw [ufStep_rep (m := m) (by assumption) (by assumption) (by omega) (by omega) (by omega) (by omega)]; first | exact decide_eq_true (by omega) | exact decide_eq_false (by omega)))]; done) | (rw [ufOk_end (m := m) i2 (by omega)]; exact decide_eq_decide.2 (by omega)))
    ·
      have g5' := of_decide_eq_true (bnf g5)
      refine d_guard 4 rfl rfl (by kernel_rfl) (by kernel_rfl) (by kernel_rfl) rfl rfl (v := .c .top) (ncf g5) (ncf g5) (fun _ => ?_)
      refine d_guard 5 rfl rfl (by kernel_rfl) (by kernel_rfl) (by kernel_rfl) rfl rfl (v := .c .top) (ncf g5) (ncf g5) (fun _ => ?_)
      refine d_guard 6 rfl rfl (by kernel_rfl) (by kernel_rfl) (by kernel_rfl) rfl rfl (v := .c .top) (ncf g5) (ncf g5) (fun _ => ?_)
      refine d_guard 7 rfl rfl (by kernel_rfl) (by kernel_rfl) (by kernel_rfl) rfl rfl (v := .c .top) (ncf g5) (ncf g5) (fun _ => ?_)
      refine d_guard 8 rfl rfl (by kernel_rfl) (by kernel_rfl) (by kernel_rfl) rfl rfl (v := .c .top) (ncf g5) (ncf g5) (fun _ => ?_)
      refine d_guard 9 rfl rfl (by kernel_rfl) (by kernel_rfl) (by kernel_rfl) rfl rfl (v := .c .top) (ncf g5) (ncf g5) (fun _ => ?_)
      refine d_take 10 rfl rfl (by kernel_rfl) (by kernel_rfl) (by kernel_rfl) (p_pickF rfl g5 rfl) ?_
      refine d_take 11 rfl rfl (by kernel_rfl) (by kernel_rfl) (by kernel_rfl) (p_move rfl) ?_
      refine d_guard 12 rfl rfl (by kernel_rfl) (by kernel_rfl) (by kernel_rfl) rfl rfl (fun _ => p_move rfl) (fun _ => ?_) (ncf rfl)
      refine d_guard 13 rfl rfl (by kernel_rfl) (by kernel_rfl) (by kernel_rfl) rfl rfl (fun _ => p_move rfl) (fun _ => ?_) (ncf rfl)
      refine d_guard 14 rfl rfl (by kernel_rfl) (by kernel_rfl) (by kernel_rfl) rfl rfl (fun _ => p_move rfl) (fun g13 => ?_) (fun g13 => ?_)
      ·
        have g13' := of_decide_eq_true g13
        refine d_guard 15 rfl rfl (by kernel_rfl) (by kernel_rfl) (by kernel_rfl) rfl rfl (fun _ => p_move rfl) (fun _ => ?_) (nc g13)
        refine d_guard 16 rfl rfl (by kernel_rfl) (by kernel_rfl) (by kernel_rfl) rfl rfl (fun _ => p_bin rfl rfl rfl) (fun _ => ?_) (nc g13)
        refine d_guard 17 rfl rfl (by kernel_rfl) (by kernel_rfl) (by kernel_rfl) rfl rfl (fun _ => p_move rfl) (fun _ => ?_) (nc g13)
        refine d_guard 18 rfl rfl (by kernel_rfl) (by kernel_rfl) (by kernel_rfl) rfl rfl (fun _ => p_fieldb (off := 0) (by kernel_rfl) rfl) (fun g14 => ?_) (fun g14 => ?_)
        ·
          have g14' := of_decide_eq_false g14
          refine d_guard 19 rfl rfl (by kernel_rfl) (by kernel_rfl) (by kernel_rfl) rfl rfl (fun _ => p_load1b (by kernel_rfl) rfl rfl rfl) (fun _ => ?_) (ncf g14)
          refine d_guard 20 rfl rfl (by kernel_rfl) (by kernel_rfl) (by kernel_rfl) rfl rfl (fun _ => p_move rfl) (fun _ => ?_) (ncf g14)
          obtain ⟨z15, hz16, b17⟩ := at_get (xs := l) (n := if -40 ≤ (z2) ∧ (z2) ≤ -1 then -1 - (z2) else 0) (by first | omega | exact (ho _ (List.mem_of_getElem? (by assumption))).1 | exact (ho _ (List.mem_of_getElem? (by assumption))).2 | (split at * <;> omega)) (by first | omega | exact (ho _ (List.mem_of_getElem? (by assumption))).1 | exact (ho _ (List.mem_of_getElem? (by assumption))).2 | (split at * <;> omega))
          refine d_guard 21 rfl rfl (by kernel_rfl) (by kernel_rfl) (by kernel_rfl) rfl rfl (fun _ => p_index (by kernel_rfl) rfl rfl b17 hz16) (fun _ => ?_) (ncf g14)
          refine d_guard 22 rfl rfl (by kernel_rfl) (by kernel_rfl) (by kernel_rfl) rfl rfl (fun _ => p_load1 (by kernel_rfl) rfl rfl) (fun _ => ?_) (ncf g14)
          refine d_guard 23 rfl rfl (by kernel_rfl) (by kernel_rfl) (by kernel_rfl) rfl rfl (fun _ => p_move rfl) (fun _ => ?_) (ncf g14)
          refine d_onlyG 24 rfl rfl (by kernel_rfl) rfl rfl rfl (fun _ => (o_call 1 1 false (Go.Proofs.enters_of Try.func32 (by kernel_rfl) rfl) (c_spec_NullValue (if -40 ≤ (z2) ∧ (z2) ≤ -1 then -1 - (z2) else 0) (by first | omega | exact (ho _ (List.mem_of_getElem? (by assumption))).1 | exact (ho _ (List.mem_of_getElem? (by assumption))).2 | (split at * <;> omega))) rfl (.cons rfl (.c .t0) .nil) rfl rfl rfl)) (fun _ => ?_) (ncf g14)
          refine d_guard 25 rfl rfl (by kernel_rfl) (by kernel_rfl) (by kernel_rfl) rfl rfl (fun _ => p_bin rfl rfl rfl) (fun _ => ?_) (ncf g14)
          refine d_guard 26 rfl rfl (by kernel_rfl) (by kernel_rfl) (by kernel_rfl) rfl rfl (fun _ => p_pickF rfl g14 rfl) (fun _ => ?_) (nc g13)
          refine d_guard 27 rfl rfl (by kernel_rfl) (by kernel_rfl) (by kernel_rfl) rfl rfl (fun _ => p_pickT rfl g13 rfl) (fun _ => ?_) (ncf rfl)
          refine d_take 28 rfl rfl (by kernel_rfl) (by kernel_rfl) (by kernel_rfl) (p_pickF rfl rfl rfl) ?_
          refine d_end (by kernel_rfl) ?_
          refine t_cond rfl (fun h18 => ?_) (fun h18 => ?_)
          ·
            have h18' := of_decide_eq_true h18
            refine t_seq ?_
            refine t_region ?_
            refine r_op (o_assign rfl rfl) ?_
            refine r_end ?_
            refine t_ret Try.func12 (.tmp rfl .nil) rfl fun E S w u hI hd => ?_
            refine post_mk hI hd ?_ trivial rfl rfl rfl <;> clear hI hd <;> (try clear ih0)
            all_goals first | rfl | (refine scB ?_; first | (rw [ufOk_not (m := m) (by omega) (by first | exact ufStep_bad (m := m) (by assumption) (by omega) | exact ufStep_far (m := m) (by assumption) (by omega) (by omega) | exact ufStep_const (m := m) (by assumption) (by omega) (by omega) | (rw [ufStep_rep (m := m) (by assumption) (by assumption) (by omega) (by omega) (by omega) (by omega)]; first | exact decide_eq_true (by omega) | exact decide_eq_false (by omega)))]; done) | (rw [ufOk_end (m := m) i2 (by omega)]; exact decide_eq_decide.2 (by omega)))
          ·
            have h18' := of_decide_eq_false h18
            refine t_skip ?_
            refine t_endblock ?_
            refine t_region ?_
            refine r_op (o_move rfl rfl) ?_
            refine r_op (o_bin rfl rfl rfl rfl) ?_
            refine r_op (o_assign rfl rfl) ?_
            refine r_end ?_
            refine t_le ?_ (ih0 (m + 1) (by (try dsimp only); omega) (by (try dsimp only); exact ⟨by omega, step_all i2 (by first | exact ufStep_bad (m := m) (by assumption) (by omega) | exact ufStep_far (m := m) (by assumption) (by omega) (by omega) | exact ufStep_const (m := m) (by assumption) (by omega) (by omega) | (rw [ufStep_rep (m := m) (by assumption) (by assumption) (by omega) (by omega) (by omega) (by omega)]; first | exact decide_eq_true (by omega) | exact decide_eq_false (by omega)))⟩))
            exact ⟨⟨rfl, ⟨(eqI (wr64 (by omega) (by omega))), trivial⟩⟩, ⟨rfl, trivial⟩, rfl⟩
        ·
          have g14' := of_decide_eq_true g14
          refine d_guard 19 rfl rfl (by kernel_rfl) (by kernel_rfl) (by kernel_rfl) rfl rfl (v := .c .top) (nc g14) (nc g14) (fun _ => ?_)
          refine d_guard 20 rfl rfl (by kernel_rfl) (by kernel_rfl) (by kernel_rfl) rfl rfl (v := .c .top) (nc g14) (nc g14) (fun _ => ?_)
          refine d_guard 21 rfl rfl (by kernel_rfl) (by kernel_rfl) (by kernel_rfl) rfl rfl (v := .c .top) (nc g14) (nc g14) (fun _ => ?_)
          refine d_guard 22 rfl rfl (by kernel_rfl) (by kernel_rfl) (by kernel_rfl) rfl rfl (v := .c .top) (nc g14) (nc g14) (fun _ => ?_)
          refine d_guard 23 rfl rfl (by kernel_rfl) (by kernel_rfl) (by kernel_rfl) rfl rfl (v := .c .top) (nc g14) (nc g14) (fun _ => ?_)
          refine d_guard 24 rfl rfl (by kernel_rfl) (by kernel_rfl) (by kernel_rfl) rfl rfl (v := .c .top) (nc g14) (nc g14) (fun _ => ?_)
          refine d_guard 25 rfl rfl (by kernel_rfl) (by kernel_rfl) (by kernel_rfl) rfl rfl (v := .c .top) (nc g14) (nc g14) (fun _ => ?_)
          refine d_guard 26 rfl rfl (by kernel_rfl) (by kernel_rfl) (by kernel_rfl) rfl rfl (fun _ => p_pickT rfl g14 rfl) (fun _ => ?_) (nc g13)
          refine d_guard 27 rfl rfl (by kernel_rfl) (by kernel_rfl) (by kernel_rfl) rfl rfl (fun _ => p_pickT rfl g13 rfl) (fun _ => ?_) (ncf rfl)
          refine d_take 28 rfl rfl (by kernel_rfl) (by kernel_rfl) (by kernel_rfl) (p_pickF rfl rfl rfl) ?_
          refine d_end (by kernel_rfl) ?_
          refine t_cond rfl (fun _ => ?_) (nc rfl)
          refine t_seq ?_
          refine t_region ?_
          refine r_op (o_assign rfl rfl) ?_
          refine r_end ?_
          refine t_ret Try.func12 (.tmp rfl .nil) rfl fun E S w u hI hd => ?_
          refine post_mk hI hd ?_ trivial rfl rfl rfl <;> clear hI hd <;> (try clear ih0)
          all_goals first | rfl | (refine scB ?_; first | (rw [ufOk_not (m := m) (by omega) (by first | exact ufStep_bad (m := m) (by assumption) (by omega) | exact ufStep_far (m := m) (by assumption) (by omega) (by omega) | exact ufStep_const (m := m) (by assumption) (by omega) (by omega) | (rw [ufStep_rep (m := m) (by assumption) (by assumption) (by omega) (by omega) (by omega) (by omega)]; first | exact decide_eq_true (by omega) | exact decide_eq_false (by omega)))]; done) | (rw [ufOk_end (m := m) i2 (by omega)]; exact decide_eq_decide.2 (by omega)))
      ·
        have g13' := of_decide_eq_false g13
        refine d_guard 15 rfl rfl (by kernel_rfl) (by kernel_rfl) (by kernel_rfl) rfl rfl (v := .c .top) (ncf g13) (ncf g13) (fun _ => ?_)
        refine d_guard 16 rfl rfl (by kernel_rfl) (by kernel_rfl) (by kernel_rfl) rfl rfl (v := .c .top) (ncf g13) (ncf g13) (fun _ => ?_)
        refine d_guard 17 rfl rfl (by kernel_rfl) (by kernel_rfl) (by kernel_rfl) rfl rfl (v := .c .top) (ncf g13) (ncf g13) (fun _ => ?_)
        refine d_skip 18 rfl rfl (by kernel_rfl) (by kernel_rfl) (by kernel_rfl) rfl rfl ?_
        refine d_skip 19 rfl rfl (by kernel_rfl) (by kernel_rfl) (by kernel_rfl) rfl rfl ?_
        refine d_skip 20 rfl rfl (by kernel_rfl) (by kernel_rfl) (by kernel_rfl) rfl rfl ?_
        refine d_skip 21 rfl rfl (by kernel_rfl) (by kernel_rfl) (by kernel_rfl) rfl rfl ?_
        refine d_skip 22 rfl rfl (by kernel_rfl) (by kernel_rfl) (by kernel_rfl) rfl rfl ?_
        refine d_skip 23 rfl rfl (by kernel_rfl) (by kernel_rfl) (by kernel_rfl) rfl rfl ?_
        refine d_skip 24 rfl rfl (by kernel_rfl) (by kernel_rfl) (by kernel_rfl) rfl rfl ?_
        refine d_skip 25 rfl rfl (by kernel_rfl) (by kernel_rfl) (by kernel_rfl) rfl rfl ?_
        refine d_guard 26 rfl rfl (by kernel_rfl) (by kernel_rfl) (by kernel_rfl) rfl rfl (v := .c .top) (ncf g13) (ncf g13) (fun _ => ?_)
        refine d_guard 27 rfl rfl (by kernel_rfl) (by kernel_rfl) (by kernel_rfl) rfl rfl (fun _ => p_pickF rfl g13 rfl) (fun _ => ?_) (ncf rfl)
        refine d_take 28 rfl rfl (by kernel_rfl) (by kernel_rfl) (by kernel_rfl) (p_pickF rfl rfl rfl) ?_
        refine d_end (by kernel_rfl) ?_
        refine t_cond rfl (ncf rfl) (fun _ => ?_)
        refine t_skip ?_
        refine t_endblock ?_
        refine t_region ?_
        refine r_op (o_move rfl rfl) ?_
        refine r_op (o_bin rfl rfl rfl rfl) ?_
        refine r_op (o_assign rfl rfl) ?_
        refine r_end ?_
        refine t_le ?_ (ih0 (m + 1) (by (try dsimp only); omega) (by (try dsimp only); exact ⟨by omega, step_all i2 (by first | exact ufStep_bad (m := m) (by assumption) (by omega) | exact ufStep_far (m := m) (by assumption) (by omega) (by omega) | exact ufStep_const (m := m) (by assumption) (by omega) (by omega) | (rw [ufStep_rep (m := m) (by assumption) (by assumption) (by omega) (by omega) (by omega) (by omega)]; first | exact decide_eq_true (by omega) | exact decide_eq_false (by omega)))⟩))
        exact ⟨⟨rfl, ⟨(eqI (wr64 (by omega) (by omega))), trivial⟩⟩, ⟨rfl, trivial⟩, rfl⟩
  ·
    have h1' := of_decide_eq_false h1
    refine t_exit rfl ?_
    refine t_seq ?_
    refine t_region ?_
    refine r_op (o_fieldb rfl (off := 0) (by kernel_rfl) rfl) ?_
    refine r_op (o_load1b rfl (by kernel_rfl) rfl rfl rfl) ?_
    refine r_op (o_len rfl rfl rfl) ?_
    refine r_op (o_bin rfl rfl rfl rfl) ?_
    refine r_op (o_assign rfl rfl) ?_
    refine r_end ?_
    refine t_ret Try.func12 (.tmp rfl .nil) rfl fun E S w u hI hd => ?_
    refine post_mk hI hd ?_ trivial rfl rfl rfl <;> clear hI hd <;> (try clear ih0)
    all_goals first | rfl | (refine scB ?_; first | (rw [ufOk_not (m := m) (by omega) (by first | exact ufStep_bad (m := m) (by assumption) (by omega) | exact ufStep_far (m := m) (by assumption) (by omega) (by omega) | exact ufStep_const (m := m) (by assumption) (by omega) (by omega) | (rw [ufStep_rep (m := m) (by assumption) (by assumption) (by omega) (by omega) (by omega) (by omega)]; first | exact decide_eq_true (by omega) | exact decide_eq_false (by omega)))]; done) | (rw [ufOk_end (m := m) i2 (by omega)]; exact decide_eq_decide.2 (by omega)))
set_option maxHeartbeats 1000000 in
set_option maxRecDepth 10000 in
theorem c_spec_IsValidValue (v : Int) (hv : -9223372036854775808 ≤ v) (hv2 : v ≤ 9223372036854775807) : Pu Try.prog 36 [.c (.t none (.v (.int .i64 (v))))] [] 0 (.c (.t none (.v (.bool (decide (-40 ≤ v ∧ v ≤ 9)))))) := by
  refine pu_enter Try.func36 rfl (Nat.le_of_ble_eq_true rfl) fun w S => ?_
  refine t_seq ?_
  refine t_region ?_
  refine r_op (o_assign rfl rfl) ?_
  refine r_end ?_
  refine t_seq ?_
  refine t_region ?_
  refine r_op (o_move rfl rfl) ?_
  refine r_op (o_call 0 0 false (Go.Proofs.enters_of Try.func30 (by kernel_rfl) rfl) (c_spec_NullNumber (v) (by first | omega | (simp; omega)) (by first | omega | (simp; omega))) rfl (.cons rfl (.c .t0) .nil) rfl rfl rfl) ?_
  refine r_op (o_move rfl rfl) ?_
  refine r_op (o_extract rfl rfl rfl rfl) ?_
  refine r_op (o_extract rfl rfl rfl rfl) ?_
  refine r_op (o_assign rfl rfl) ?_
  refine r_op (o_assign rfl rfl) ?_
  refine r_end ?_
  refine t_seq ?_
  refine t_region ?_
  refine r_op (o_move rfl rfl) ?_
  refine r_op (o_move rfl rfl) ?_
  refine r_guard rfl rfl rfl (fun g1 => ?_) (fun g1 => ?_)
  ·
    have g1' := of_decide_eq_false g1
    refine r_op (o_move rfl rfl) ?_
    refine r_guard rfl rfl rfl (fun _ => ?_) (ncf g1)
    refine r_op (o_call 0 0 false (Go.Proofs.enters_of Try.func31 (by kernel_rfl) rfl) (c_spec_l1In (v) (0) (9)) rfl (.cons rfl (.c .t0) (.cons rfl (.c .t0) (.cons rfl (.c .t0) .nil))) rfl rfl rfl) ?_
    refine r_op (o_pickF rfl rfl g1 rfl) ?_
    refine r_op (o_assign rfl rfl) ?_
    refine r_end ?_
    refine t_ret Try.func36 (.tmp rfl .nil) rfl fun E S w u hI hd => ?_
    refine post_mk hI hd ?_ trivial rfl rfl rfl <;> clear hI hd
    all_goals first | rfl | (first | exact scD (by omega) | exact scTrue (by omega) | exact scFalse (by omega))
  ·
    have g1' := of_decide_eq_true g1
    refine r_guard rfl rfl rfl (nc g1) (fun _ => ?_)
    refine r_op (o_pickT rfl rfl g1 rfl) ?_
    refine r_op (o_assign rfl rfl) ?_
    refine r_end ?_
    refine t_ret Try.func36 (.tmp rfl .nil) rfl fun E S w u hI hd => ?_
    refine post_mk hI hd ?_ trivial rfl rfl rfl <;> clear hI hd
    all_goals first | rfl | (first | exact scD (by omega) | exact scTrue (by omega) | exact scFalse (by omega))
set_option maxHeartbeats 1000000 in
set_option maxRecDepth 10000 in
theorem c_spec_Find (l : List Int) (v : Int) (hl : l.length ≤ 4611686018427387904) (ho : ∀ x ∈ l, okI x) (hv : okI v) : Pu Try.prog 20 [.agg [.t none (.sl 1 encI (l))], .c (.t none (.v (.int .i64 (v))))] [] 0 (.c (.t none (.v (.int .i64 (findU l v))))) := by
  refine pu_enter Try.func20 rfl (Nat.le_of_ble_eq_true rfl) fun w S => ?_
  have hv1 := hv.1; have hv2 := hv.2
  refine t_seq ?_
  refine t_region ?_
  refine r_op (o_box 0 rfl rfl rfl rfl) ?_
  refine r_op (o_assign rfl rfl) ?_
  refine r_end ?_
  refine t_seq ?_
  refine t_region ?_
  refine r_op (o_move rfl rfl) ?_
  refine r_op (o_call 1 1 false (Go.Proofs.enters_of Try.func30 (by kernel_rfl) rfl) (c_spec_NullNumber (v) (by first | omega | assumption) (by first | omega | assumption)) rfl (.cons rfl (.c .t0) .nil) rfl rfl rfl) ?_
  refine r_op (o_move rfl rfl) ?_
  refine r_op (o_extract rfl rfl rfl rfl) ?_
  refine r_op (o_extract rfl rfl rfl rfl) ?_
  refine r_op (o_assign rfl rfl) ?_
  refine r_op (o_assign rfl rfl) ?_
  refine r_end ?_
  refine t_seq ?_
  refine t_seq ?_
  refine t_region ?_
  refine r_op (o_move rfl rfl) ?_
  refine r_op (o_not rfl rfl) ?_
  refine r_op (o_move rfl rfl) ?_
  refine r_guard rfl rfl rfl (fun g1 => ?_) (fun g1 => ?_)
  ·
    have g1' := of_decide_eq_true (bnf g1)
    refine r_op (o_loadAb rfl (n := 1) (by kernel_rfl) (by kernel_rfl) rfl rfl rfl) ?_
    refine r_guard rfl rfl rfl (fun _ => ?_) (ncf g1)
    refine r_op (o_call 1 1 false (Go.Proofs.enters_of Try.func12 (by kernel_rfl) rfl) (c_spec_IsValidUnionFind (l) (by first | omega | assumption) (by first | omega | assumption)) rfl (.cons rfl (.agg (.cons .t0 .nil)) .nil) rfl rfl rfl) ?_
    refine r_guard rfl rfl rfl (fun _ => ?_) (ncf g1)
    refine r_op (o_not rfl rfl) ?_
    refine r_op (o_pickF rfl rfl g1 rfl) ?_
    refine r_op (o_move rfl rfl) ?_
    refine r_guard rfl rfl rfl (fun g2 => ?_) (fun g2 => ?_)
    ·
      have g2' := (bnf g2)
      refine r_op (o_move rfl rfl) ?_
      refine r_guard rfl rfl rfl (fun _ => ?_) (ncf g2)
      refine r_op (o_fieldb rfl (off := 0) (by kernel_rfl) rfl) ?_
      refine r_guard rfl rfl rfl (fun _ => ?_) (ncf g2)
      refine r_op (o_load1b rfl (by kernel_rfl) rfl rfl rfl) ?_
      refine r_guard rfl rfl rfl (fun _ => ?_) (ncf g2)
      refine r_op (o_len rfl rfl rfl) ?_
      refine r_guard rfl rfl rfl (fun _ => ?_) (ncf g2)
      refine r_op (o_bin rfl rfl rfl rfl) ?_
      refine r_op (o_pickF rfl rfl g2 rfl) ?_
      refine r_end ?_
      refine t_cond rfl (fun h3 => ?_) (fun h3 => ?_)
      ·
        have h3' := of_decide_eq_true h3
        refine t_seq ?_
        refine t_region ?_
        refine r_op (o_move rfl rfl) ?_
        refine r_op (o_assign rfl rfl) ?_
        refine r_end ?_
        refine t_ret Try.func20 (.tmp rfl .nil) rfl fun E S w u hI hd => ?_
        refine post_mk hI hd ?_ trivial rfl rfl rfl <;> clear hI hd
        all_goals first | rfl | (refine scI ?_; first | (rw [findU_at (l := l) (v := v) (by omega) (by omega) (by assumption) (n := if -40 ≤ v ∧ v ≤ -1 then -1 - v else 0) (by omega) (by assumption)]; done) | (rw [findU_no]; intro q; first | omega | (have q3 := q.2.2; simp_all; done)))
      ·
        have h3' := of_decide_eq_false h3
        refine t_skip ?_
        refine t_seq ?_
        refine t_region ?_
        refine r_op (o_fieldb rfl (off := 0) (by kernel_rfl) rfl) ?_
        refine r_op (o_load1b rfl (by kernel_rfl) rfl rfl rfl) ?_
        refine r_op (o_move rfl rfl) ?_
        obtain ⟨z4, hz5, b6⟩ := at_get (xs := l) (n := if -40 ≤ (v) ∧ (v) ≤ -1 then -1 - (v) else 0) (by first | omega | assumption) (by first | omega | assumption)
        refine r_op (o_index rfl (by kernel_rfl) rfl rfl b6 hz5) ?_
        refine r_op (o_load1 rfl (by kernel_rfl) rfl rfl) ?_
        refine r_op (o_assign rfl rfl) ?_
        refine r_end ?_
        refine t_ret Try.func20 (.tmp rfl .nil) rfl fun E S w u hI hd => ?_
        refine post_mk hI hd ?_ trivial rfl rfl rfl <;> clear hI hd
        all_goals first | rfl | (refine scI ?_; first | (rw [findU_at (l := l) (v := v) (by omega) (by omega) (by assumption) (n := if -40 ≤ v ∧ v ≤ -1 then -1 - v else 0) (by omega) (by assumption)]; done) | (rw [findU_no]; intro q; first | omega | (have q3 := q.2.2; simp_all; done)))
    ·
      have g2' := (bnt g2)
      refine r_guard rfl rfl rfl (nc g2) (fun _ => ?_)
      refine r_guard rfl rfl rfl (nc g2) (fun _ => ?_)
      refine r_guard rfl rfl rfl (nc g2) (fun _ => ?_)
      refine r_guard rfl rfl rfl (nc g2) (fun _ => ?_)
      refine r_op (o_pickT rfl rfl g2 rfl) ?_
      refine r_end ?_
      refine t_cond rfl (fun _ => ?_) (nc rfl)
      refine t_seq ?_
      refine t_region ?_
      refine r_op (o_move rfl rfl) ?_
      refine r_op (o_assign rfl rfl) ?_
      refine r_end ?_
      refine t_ret Try.func20 (.tmp rfl .nil) rfl fun E S w u hI hd => ?_
      refine post_mk hI hd ?_ trivial rfl rfl rfl <;> clear hI hd
      all_goals first | rfl | (refine scI ?_; first | (rw [findU_at (l := l) (v := v) (by omega) (by omega) (by assumption) (n := if -40 ≤ v ∧ v ≤ -1 then -1 - v else 0) (by omega) (by assumption)]; done) | (rw [findU_no]; intro q; first | omega | (have q3 := q.2.2; simp_all; done)))
  ·
    have g1' := of_decide_eq_false (bnt g1)
    refine r_guard rfl rfl rfl (nc g1) (fun _ => ?_)
    refine r_guard rfl rfl rfl (nc g1) (fun _ => ?_)
    refine r_op (o_pickT rfl rfl g1 rfl) ?_
    refine r_op (o_move rfl rfl) ?_
    refine r_guard rfl rfl rfl (nc rfl) (fun _ => ?_)
    refine r_guard rfl rfl rfl (nc rfl) (fun _ => ?_)
    refine r_guard rfl rfl rfl (nc rfl) (fun _ => ?_)
    refine r_guard rfl rfl rfl (nc rfl) (fun _ => ?_)
    refine r_guard rfl rfl rfl (nc rfl) (fun _ => ?_)
    refine r_op (o_pickT rfl rfl rfl rfl) ?_
    refine r_end ?_
    refine t_cond rfl (fun _ => ?_) (nc rfl)
    refine t_seq ?_
    refine t_region ?_
    refine r_op (o_move rfl rfl) ?_
    refine r_op (o_assign rfl rfl) ?_
    refine r_end ?_
    refine t_ret Try.func20 (.tmp rfl .nil) rfl fun E S w u hI hd => ?_
    refine post_mk hI hd ?_ trivial rfl rfl rfl <;> clear hI hd
    all_goals first | rfl | (refine scI ?_; first | (rw [findU_at (l := l) (v := v) (by omega) (by omega) (by assumption) (n := if -40 ≤ v ∧ v ≤ -1 then -1 - v else 0) (by omega) (by assumption)]; done) | (rw [findU_no]; intro q; first | omega | (have q3 := q.2.2; simp_all; done)))
set_option maxHeartbeats 1000000 in
set_option maxRecDepth 10000 in
theorem c_spec_Union (l : List Int) (a b : Int) (hl : l.length ≤ 1048576) (ho : ∀ x ∈ l, okI x) (ha : okI a) (hb : okI b) : Pu Try.prog 16 [.agg [.t none (.sl 1 encI (l))], .c (.t none (.v (.int .i64 (a)))), .c (.t none (.v (.int .i64 (b))))] [(2, some (.row none 3 true 1 encI (uniL l a b)))] 3 (.tup [(true, [.own 2]), (false, [.t none (.v (.int .i64 (uniC l a b)))])]) := by
  refine pu_enter Try.func16 rfl (Nat.le_of_ble_eq_true rfl) fun w S => ?_
  have ha1 := ha.1; have ha2 := ha.2; have hb1 := hb.1; have hb2 := hb.2
  refine t_seq ?_
  refine t_region ?_
  refine r_op (o_box 0 rfl rfl rfl rfl) ?_
  refine r_op (o_alloc 1 (zs := [.slice none 0 0]) rfl rfl (by kernel_rfl) rfl) ?_
  refine r_op (o_assign rfl rfl) ?_
  refine r_end ?_
  refine t_seq ?_
  refine t_region ?_
  refine r_op (o_lit0 2 (e := 3) (sz := 1) (zs := [.int .i64 (0)]) encI rfl rfl (by kernel_rfl) rfl) ?_
  refine r_op (o_fieldb rfl (off := 0) (by kernel_rfl) rfl) ?_
  refine r_op (o_load1b rfl (by kernel_rfl) rfl rfl rfl) ?_
  refine r_op (o_appendS 2 (e := 3) (sz := 1) (by' := 8) rfl (by kernel_rfl) rfl rfl rfl rfl (fun _ _ => ⟨_, rfl⟩) (by first | omega | assumption | (simp; omega)) (by first | omega | assumption | (simp; omega))) ?_
  refine r_op (o_build rfl (pl := [(0, 1)]) (zs := [.slice none 0 0]) (by kernel_rfl) (by kernel_rfl) rfl rfl rfl) ?_
  refine r_op (o_alloc 3 (zs := [.slice none 0 0]) rfl rfl (by kernel_rfl) rfl) ?_
  refine r_op (o_storeb (n := 1) (by kernel_rfl) rfl rfl rfl rfl rfl rfl) ?_
  refine r_end ?_
  refine t_seq ?_
  refine t_region ?_
  refine r_op (o_move rfl rfl) ?_
  refine r_op (o_call 4 4 false (Go.Proofs.enters_of Try.func30 (by kernel_rfl) rfl) (c_spec_NullNumber (a) (by first | omega | assumption | (simp; omega)) (by first | omega | assumption | (simp; omega))) rfl (.cons rfl (.c .t0) .nil) rfl rfl rfl) ?_
  refine r_op (o_move rfl rfl) ?_
  refine r_op (o_extract rfl rfl rfl rfl) ?_
  refine r_op (o_extract rfl rfl rfl rfl) ?_
  refine r_op (o_assign rfl rfl) ?_
  refine r_op (o_assign rfl rfl) ?_
  refine r_end ?_
  refine t_seq ?_
  refine t_region ?_
  refine r_op (o_move rfl rfl) ?_
  refine r_op (o_call 4 4 false (Go.Proofs.enters_of Try.func30 (by kernel_rfl) rfl) (c_spec_NullNumber (b) (by first | omega | assumption | (simp; omega)) (by first | omega | assumption | (simp; omega))) rfl (.cons rfl (.c .t0) .nil) rfl rfl rfl) ?_
  refine r_op (o_move rfl rfl) ?_
  refine r_op (o_extract rfl rfl rfl rfl) ?_
  refine r_op (o_extract rfl rfl rfl rfl) ?_
  refine r_op (o_assign rfl rfl) ?_
  refine r_op (o_assign rfl rfl) ?_
  refine r_end ?_
  refine t_seq ?_
  refine t_seq ?_
  refine t_region ?_
  refine r_op (o_loadAb rfl (n := 1) (by kernel_rfl) (by kernel_rfl) rfl rfl rfl) ?_
  refine r_op (o_call 4 4 false (Go.Proofs.enters_of Try.func12 (by kernel_rfl) rfl) (c_spec_IsValidUnionFind (l) (by first | omega | assumption | (simp; omega)) (by first | omega | assumption | (simp; omega))) rfl (.cons rfl (.agg (.cons .t0 .nil)) .nil) rfl rfl rfl) ?_
  refine r_op (o_not rfl rfl) ?_
  refine r_op (o_move rfl rfl) ?_
  refine r_guard rfl rfl rfl (fun g1 => ?_) (fun g1 => ?_)
  ·
    have g1' := (bnf g1)
    refine r_op (o_move rfl rfl) ?_
    refine r_guard rfl rfl rfl (fun _ => ?_) (ncf g1)
    refine r_op (o_call 4 4 false (Go.Proofs.enters_of Try.func36 (by kernel_rfl) rfl) (c_spec_IsValidValue (a) (by first | omega | assumption | (simp; omega)) (by first | omega | assumption | (simp; omega))) rfl (.cons rfl (.c .t0) .nil) rfl rfl rfl) ?_
    refine r_guard rfl rfl rfl (fun _ => ?_) (ncf g1)
    refine r_op (o_not rfl rfl) ?_
    refine r_op (o_pickF rfl rfl g1 rfl) ?_
    refine r_op (o_move rfl rfl) ?_
    refine r_guard rfl rfl rfl (fun g2 => ?_) (fun g2 => ?_)
    ·
      have g2' := of_decide_eq_true (bnf g2)
      refine r_op (o_move rfl rfl) ?_
      refine r_guard rfl rfl rfl (fun _ => ?_) (ncf g2)
      refine r_op (o_call 4 4 false (Go.Proofs.enters_of Try.func36 (by kernel_rfl) rfl) (c_spec_IsValidValue (b) (by first | omega | assumption | (simp; omega)) (by first | omega | assumption | (simp; omega))) rfl (.cons rfl (.c .t0) .nil) rfl rfl rfl) ?_
      refine r_guard rfl rfl rfl (fun _ => ?_) (ncf g2)
      refine r_op (o_not rfl rfl) ?_
      refine r_op (o_pickF rfl rfl g2 rfl) ?_
      refine r_op (o_move rfl rfl) ?_
      refine r_guard rfl rfl rfl (fun g3 => ?_) (fun g3 => ?_)
      ·
        have g3' := of_decide_eq_true (bnf g3)
        refine r_op (o_move rfl rfl) ?_
        refine r_guard rfl rfl rfl (fun _ => ?_) (ncf g3)
        refine r_op (o_move rfl rfl) ?_
        refine r_guard rfl rfl rfl (fun g4 => ?_) (fun g4 => ?_)
        ·
          have g4' := of_decide_eq_true g4
          refine r_op (o_move rfl rfl) ?_
          refine r_guard rfl rfl rfl (fun _ => ?_) (nc g4)
          refine r_op (o_fieldb rfl (off := 0) (by kernel_rfl) rfl) ?_
          refine r_guard rfl rfl rfl (fun _ => ?_) (nc g4)
          refine r_op (o_load1b rfl (by kernel_rfl) rfl rfl rfl) ?_
          refine r_guard rfl rfl rfl (fun _ => ?_) (nc g4)
          refine r_op (o_len rfl rfl rfl) ?_
          refine r_guard rfl rfl rfl (fun _ => ?_) (nc g4)
          refine r_op (o_bin rfl rfl rfl rfl) ?_
          refine r_guard rfl rfl rfl (fun _ => ?_) (ncf g3)
          refine r_op (o_pickT rfl rfl g4 rfl) ?_
          refine r_op (o_pickF rfl rfl g3 rfl) ?_
          refine r_op (o_move rfl rfl) ?_
          refine r_guard rfl rfl rfl (fun g5 => ?_) (fun g5 => ?_)
          ·
            have g5' := of_decide_eq_false g5
            refine r_op (o_move rfl rfl) ?_
            refine r_guard rfl rfl rfl (fun _ => ?_) (ncf g5)
            refine r_op (o_move rfl rfl) ?_
            refine r_guard rfl rfl rfl (fun g6 => ?_) (fun g6 => ?_)
            ·
              have g6' := of_decide_eq_true g6
              refine r_op (o_move rfl rfl) ?_
              refine r_guard rfl rfl rfl (fun _ => ?_) (nc g6)
              refine r_op (o_fieldb rfl (off := 0) (by kernel_rfl) rfl) ?_
              refine r_guard rfl rfl rfl (fun _ => ?_) (nc g6)
              refine r_op (o_load1b rfl (by kernel_rfl) rfl rfl rfl) ?_
              refine r_guard rfl rfl rfl (fun _ => ?_) (nc g6)
              refine r_op (o_len rfl rfl rfl) ?_
              refine r_guard rfl rfl rfl (fun _ => ?_) (nc g6)
              refine r_op (o_bin rfl rfl rfl rfl) ?_
              refine r_guard rfl rfl rfl (fun _ => ?_) (ncf g5)
              refine r_op (o_pickT rfl rfl g6 rfl) ?_
              refine r_op (o_pickF rfl rfl g5 rfl) ?_
              refine r_end ?_
              refine t_cond rfl (fun h7 => ?_) (fun h7 => ?_)
              ·
                have h7' := of_decide_eq_true h7
                refine t_seq ?_
                refine t_region ?_
                refine r_op (o_loadAb rfl (n := 1) (by kernel_rfl) (by kernel_rfl) rfl rfl rfl) ?_
                refine r_op (o_storeb (n := 1) (by kernel_rfl) rfl rfl rfl rfl rfl rfl) ?_
                refine r_op (o_assign rfl rfl) ?_
                refine r_end ?_
                refine t_ret Try.func16 (.cells (n := 1) (by kernel_rfl) (by kernel_rfl) rfl rfl rfl (.tmp rfl .nil)) rfl fun E S w u hI hd => ?_
                refine post_mk hI hd ?_ ⟨eqR ?_, trivial⟩ rfl rfl rfl <;> clear hI hd <;> (try clear ih0)
                all_goals first | rfl | (clear ho ha hb; first | ((have UC : uniC l a b = 2 := by (first | exact uniC_bad (.inl (by assumption)) | exact uniC_bad (.inr (.inl (by first | assumption | exact memU_not (by omega)))) | exact uniC_bad (.inr (.inr (by first | assumption | exact memU_not (by omega)))) | exact uniC_same (by assumption) (by first | assumption | exact memU_of (by omega) (by omega)) (by first | assumption | exact memU_of (by omega) (by omega)) (by omega) | exact uniC_const (by assumption) (by first | assumption | exact memU_of (by omega) (by omega)) (by first | assumption | exact memU_of (by omega) (by omega)) (by omega) (by omega) | exact uniC_done (by assumption) (by first | assumption | exact memU_of (by omega) (by omega)) (by first | assumption | exact memU_of (by omega) (by omega)) (by omega) (by omega))); first | exact tupU UC | exact uniL_keep UC (by decide)) | ((have UC : uniC l a b = 0 := by (first | exact uniC_bad (.inl (by assumption)) | exact uniC_bad (.inr (.inl (by first | assumption | exact memU_not (by omega)))) | exact uniC_bad (.inr (.inr (by first | assumption | exact memU_not (by omega)))) | exact uniC_same (by assumption) (by first | assumption | exact memU_of (by omega) (by omega)) (by first | assumption | exact memU_of (by omega) (by omega)) (by omega) | exact uniC_const (by assumption) (by first | assumption | exact memU_of (by omega) (by omega)) (by first | assumption | exact memU_of (by omega) (by omega)) (by omega) (by omega) | exact uniC_done (by assumption) (by first | assumption | exact memU_of (by omega) (by omega)) (by first | assumption | exact memU_of (by omega) (by omega)) (by omega) (by omega))); first | exact tupU UC | exact uniL_keep UC (by decide)) | ((have UC : uniC l a b = 1 := by (first | exact uniC_bad (.inl (by assumption)) | exact uniC_bad (.inr (.inl (by first | assumption | exact memU_not (by omega)))) | exact uniC_bad (.inr (.inr (by first | assumption | exact memU_not (by omega)))) | exact uniC_same (by assumption) (by first | assumption | exact memU_of (by omega) (by omega)) (by first | assumption | exact memU_of (by omega) (by omega)) (by omega) | exact uniC_const (by assumption) (by first | assumption | exact memU_of (by omega) (by omega)) (by first | assumption | exact memU_of (by omega) (by omega)) (by omega) (by omega) | exact uniC_done (by assumption) (by first | assumption | exact memU_of (by omega) (by omega)) (by first | assumption | exact memU_of (by omega) (by omega)) (by omega) (by omega))); first | exact tupU UC | exact uniL_done UC (by omega)))
              ·
                have h7' := of_decide_eq_false h7
                refine t_skip ?_
                refine t_seq ?_
                refine t_region ?_
                refine r_op (o_loadAb rfl (n := 1) (by kernel_rfl) (by kernel_rfl) rfl rfl rfl) ?_
                refine r_op (o_move rfl rfl) ?_
                refine r_op (o_call 4 4 false (Go.Proofs.enters_of Try.func20 (by kernel_rfl) rfl) (c_spec_Find (l) (a) (by first | omega | assumption | (simp; omega)) (by first | omega | assumption | (simp; omega)) (by first | omega | assumption | (simp; omega))) rfl (.cons rfl (.agg (.cons .t0 .nil)) (.cons rfl (.c .t0) .nil)) rfl rfl rfl) ?_
                refine r_op (o_assign rfl rfl) ?_
                refine r_end ?_
                refine t_seq ?_
                refine t_region ?_
                refine r_op (o_loadAb rfl (n := 1) (by kernel_rfl) (by kernel_rfl) rfl rfl rfl) ?_
                refine r_op (o_move rfl rfl) ?_
                refine r_op (o_call 4 4 false (Go.Proofs.enters_of Try.func20 (by kernel_rfl) rfl) (c_spec_Find (l) (b) (by first | omega | assumption | (simp; omega)) (by first | omega | assumption | (simp; omega)) (by first | omega | assumption | (simp; omega))) rfl (.cons rfl (.agg (.cons .t0 .nil)) (.cons rfl (.c .t0) .nil)) rfl rfl rfl) ?_
                refine r_op (o_assign rfl rfl) ?_
                refine r_end ?_
                refine t_seq ?_
                refine t_seq ?_
                refine t_region ?_
                refine r_op (o_move rfl rfl) ?_
                refine r_op (o_move rfl rfl) ?_
                refine r_op (o_bin rfl rfl rfl rfl) ?_
                refine r_end ?_
                refine t_cond rfl (fun h8 => ?_) (fun h8 => ?_)
                ·
                  have h8' := of_decide_eq_true h8
                  refine t_seq ?_
                  refine t_region ?_
                  refine r_op (o_loadAb rfl (n := 1) (by kernel_rfl) (by kernel_rfl) rfl rfl rfl) ?_
                  refine r_op (o_storeb (n := 1) (by kernel_rfl) rfl rfl rfl rfl rfl rfl) ?_
                  refine r_op (o_assign rfl rfl) ?_
                  refine r_end ?_
                  refine t_ret Try.func16 (.cells (n := 1) (by kernel_rfl) (by kernel_rfl) rfl rfl rfl (.tmp rfl .nil)) rfl fun E S w u hI hd => ?_
                  refine post_mk hI hd ?_ ⟨eqR ?_, trivial⟩ rfl rfl rfl <;> clear hI hd <;> (try clear ih0)
                  all_goals first | rfl | (clear ho ha hb; first | ((have UC : uniC l a b = 2 := by (first | exact uniC_bad (.inl (by assumption)) | exact uniC_bad (.inr (.inl (by first | assumption | exact memU_not (by omega)))) | exact uniC_bad (.inr (.inr (by first | assumption | exact memU_not (by omega)))) | exact uniC_same (by assumption) (by first | assumption | exact memU_of (by omega) (by omega)) (by first | assumption | exact memU_of (by omega) (by omega)) (by omega) | exact uniC_const (by assumption) (by first | assumption | exact memU_of (by omega) (by omega)) (by first | assumption | exact memU_of (by omega) (by omega)) (by omega) (by omega) | exact uniC_done (by assumption) (by first | assumption | exact memU_of (by omega) (by omega)) (by first | assumption | exact memU_of (by omega) (by omega)) (by omega) (by omega))); first | exact tupU UC | exact uniL_keep UC (by decide)) | ((have UC : uniC l a b = 0 := by (first | exact uniC_bad (.inl (by assumption)) | exact uniC_bad (.inr (.inl (by first | assumption | exact memU_not (by omega)))) | exact uniC_bad (.inr (.inr (by first | assumption | exact memU_not (by omega)))) | exact uniC_same (by assumption) (by first | assumption | exact memU_of (by omega) (by omega)) (by first | assumption | exact memU_of (by omega) (by omega)) (by omega) | exact uniC_const (by assumption) (by first | assumption | exact memU_of (by omega) (by omega)) (by first | assumption | exact memU_of (by omega) (by omega)) (by omega) (by omega) | exact uniC_done (by assumption) (by first | assumption | exact memU_of (by omega) (by omega)) (by first | assumption | exact memU_of (by omega) (by omega)) (by omega) (by omega))); first | exact tupU UC | exact uniL_keep UC (by decide)) | ((have UC : uniC l a b = 1 := by (first | exact uniC_bad (.inl (by assumption)) | exact uniC_bad (.inr (.inl (by first | assumption | exact memU_not (by omega)))) | exact uniC_bad (.inr (.inr (by first | assumption | exact memU_not (by omega)))) | exact uniC_same (by assumption) (by first | assumption | exact memU_of (by omega) (by omega)) (by first | assumption | exact memU_of (by omega) (by omega)) (by omega) | exact uniC_const (by assumption) (by first | assumption | exact memU_of (by omega) (by omega)) (by first | assumption | exact memU_of (by omega) (by omega)) (by omega) (by omega) | exact uniC_done (by assumption) (by first | assumption | exact memU_of (by omega) (by omega)) (by first | assumption | exact memU_of (by omega) (by omega)) (by omega) (by omega))); first | exact tupU UC | exact uniL_done UC (by omega)))
                ·
                  have h8' := of_decide_eq_false h8
                  refine t_skip ?_
                  refine t_seq ?_
                  refine t_seq ?_
                  refine t_region ?_
                  refine r_op (o_move rfl rfl) ?_
                  refine r_op (o_bin rfl rfl rfl rfl) ?_
                  refine r_op (o_move rfl rfl) ?_
                  refine r_guard rfl rfl rfl (fun g9 => ?_) (fun g9 => ?_)
                  ·
                    have g9' := of_decide_eq_true g9
                    refine r_op (o_move rfl rfl) ?_
                    refine r_guard rfl rfl rfl (fun _ => ?_) (nc g9)
                    refine r_op (o_bin rfl rfl rfl rfl) ?_
                    refine r_op (o_pickT rfl rfl g9 rfl) ?_
                    refine r_end ?_
                    refine t_cond rfl (fun h10 => ?_) (fun h10 => ?_)
                    ·
                      have h10' := of_decide_eq_true h10
                      refine t_seq ?_
                      refine t_region ?_
                      refine r_op (o_loadAb rfl (n := 1) (by kernel_rfl) (by kernel_rfl) rfl rfl rfl) ?_
                      refine r_op (o_storeb (n := 1) (by kernel_rfl) rfl rfl rfl rfl rfl rfl) ?_
                      refine r_op (o_assign rfl rfl) ?_
                      refine r_end ?_
                      refine t_ret Try.func16 (.cells (n := 1) (by kernel_rfl) (by kernel_rfl) rfl rfl rfl (.tmp rfl .nil)) rfl fun E S w u hI hd => ?_
                      refine post_mk hI hd ?_ ⟨eqR ?_, trivial⟩ rfl rfl rfl <;> clear hI hd <;> (try clear ih0)
                      all_goals first | rfl | (clear ho ha hb; first | ((have UC : uniC l a b = 2 := by (first | exact uniC_bad (.inl (by assumption)) | exact uniC_bad (.inr (.inl (by first | assumption | exact memU_not (by omega)))) | exact uniC_bad (.inr (.inr (by first | assumption | exact memU_not (by omega)))) | exact uniC_same (by assumption) (by first | assumption | exact memU_of (by omega) (by omega)) (by first | assumption | exact memU_of (by omega) (by omega)) (by omega) | exact uniC_const (by assumption) (by first | assumption | exact memU_of (by omega) (by omega)) (by first | assumption | exact memU_of (by omega) (by omega)) (by omega) (by omega) | exact uniC_done (by assumption) (by first | assumption | exact memU_of (by omega) (by omega)) (by first | assumption | exact memU_of (by omega) (by omega)) (by omega) (by omega))); first | exact tupU UC | exact uniL_keep UC (by decide)) | ((have UC : uniC l a b = 0 := by (first | exact uniC_bad (.inl (by assumption)) | exact uniC_bad (.inr (.inl (by first | assumption | exact memU_not (by omega)))) | exact uniC_bad (.inr (.inr (by first | assumption | exact memU_not (by omega)))) | exact uniC_same (by assumption) (by first | assumption | exact memU_of (by omega) (by omega)) (by first | assumption | exact memU_of (by omega) (by omega)) (by omega) | exact uniC_const (by assumption) (by first | assumption | exact memU_of (by omega) (by omega)) (by first | assumption | exact memU_of (by omega) (by omega)) (by omega) (by omega) | exact uniC_done (by assumption) (by first | assumption | exact memU_of (by omega) (by omega)) (by first | assumption | exact memU_of (by omega) (by omega)) (by omega) (by omega))); first | exact tupU UC | exact uniL_keep UC (by decide)) | ((have UC : uniC l a b = 1 := by (first | exact uniC_bad (.inl (by assumption)) | exact uniC_bad (.inr (.inl (by first | assumption | exact memU_not (by omega)))) | exact uniC_bad (.inr (.inr (by first | assumption | exact memU_not (by omega)))) | exact uniC_same (by assumption) (by first | assumption | exact memU_of (by omega) (by omega)) (by first | assumption | exact memU_of (by omega) (by omega)) (by omega) | exact uniC_const (by assumption) (by first | assumption | exact memU_of (by omega) (by omega)) (by first | assumption | exact memU_of (by omega) (by omega)) (by omega) (by omega) | exact uniC_done (by assumption) (by first | assumption | exact memU_of (by omega) (by omega)) (by first | assumption | exact memU_of (by omega) (by omega)) (by omega) (by omega))); first | exact tupU UC | exact uniL_done UC (by omega)))
                    ·
                      have h10' := of_decide_eq_false h10
                      refine t_skip ?_
                      refine t_seq ?_
                      refine t_region ?_
                      refine r_op (o_move rfl rfl) ?_
                      refine r_op (o_move rfl rfl) ?_
                      refine r_op (o_max rfl rfl rfl) ?_
                      refine r_op (o_assign rfl rfl) ?_
                      refine r_end ?_
                      refine t_seq ?_
                      refine t_region ?_
                      refine r_op (o_move rfl rfl) ?_
                      refine r_op (o_move rfl rfl) ?_
                      refine r_op (o_min rfl rfl rfl) ?_
                      refine r_op (o_assign rfl rfl) ?_
                      refine r_end ?_
                      refine t_seq ?_
                      refine t_seq ?_
                      refine t_region ?_
                      refine r_op (o_assign rfl rfl) ?_
                      refine r_end ?_
                      refine t_block ?_
                      refine t_loopL (fun m => ⟨[(6, some (.c (.ptr 1 0))), (7, some (.c (.t none (.v (.int .i64 (0)))))), (8, some (.c (.ptr 3 0))), (15, some (.c (.t none (.v (.int .i64 (if (findU (l) (a)) < (findU (l) (b)) then (findU (l) (b)) else (findU (l) (a)))))))), (16, some (.c (.t none (.v (.int .i64 (if (findU (l) (b)) < (findU (l) (a)) then (findU (l) (b)) else (findU (l) (a)))))))), (17, some (.c (.t none (.v (.int .i64 ((m : Int)))))))], [(0, some (.box [.t none (.sl 1 encI (l))])), (1, some (.box [.t none (.v (.slice none 0 0))])), (2, some (.row none 3 true 1 encI ((l.take m).map (repU (findU l a) (findU l b)) ++ l.drop m))), (3, some (.box [.own 2]))], 4⟩ : Nat → St) (fun m => m ≤ l.length) (fun m => l.length - m) 0 ⟨⟨rfl, ⟨rfl, ⟨rfl, ⟨rfl, ⟨rfl, ⟨rfl, trivial⟩⟩⟩⟩⟩⟩, ⟨rfl, ⟨rfl, ⟨(eqR (by simp)), ⟨rfl, trivial⟩⟩⟩⟩, rfl⟩ (by exact Nat.zero_le _) ?_
                      rintro m hI ih0
                      try dsimp only at hI ih0
                      have i1 := hI; have hlen : ((l.take m).map (repU (findU l a) (findU l b)) ++ l.drop m).length = l.length := by (simp; omega)
                      refine t_seq ?_
                      refine t_seq ?_
                      refine t_region ?_
                      refine r_op (o_move rfl rfl) ?_
                      refine r_op (o_fieldb rfl (off := 0) (by kernel_rfl) rfl) ?_
                      refine r_op (o_load1b rfl (by kernel_rfl) rfl rfl rfl) ?_
                      refine r_op (o_leno rfl rfl rfl rfl) ?_
                      refine r_op (o_bin rfl rfl rfl rfl) ?_
                      refine r_end ?_
                      refine t_cond rfl (fun h11 => ?_) (fun h11 => ?_)
                      ·
                        have h11' := of_decide_eq_true h11
                        refine t_skip ?_
                        refine t_seq ?_
                        refine t_block ?_
                        refine t_seq ?_
                        refine t_region ?_
                        refine r_op (o_fieldb rfl (off := 0) (by kernel_rfl) rfl) ?_
                        refine r_op (o_load1b rfl (by kernel_rfl) rfl rfl rfl) ?_
                        refine r_op (o_move rfl rfl) ?_
                        obtain ⟨z12, hz13, b14⟩ := at_get (xs := (l.take m).map (repU (findU l a) (findU l b)) ++ l.drop m) (n := (m : Int)) (by first | omega | assumption | (simp; omega)) (by first | omega | assumption | (simp; omega))
                        refine r_op (o_indexo rfl (by kernel_rfl) rfl rfl rfl b14 (at_lt b14 hz13)) ?_
                        refine r_op (o_load1o rfl (by kernel_rfl) rfl rfl rfl hz13) ?_
                        refine r_op (o_move rfl rfl) ?_
                        refine r_op (o_bin rfl rfl rfl rfl) ?_
                        refine r_end ?_
                        refine t_cond rfl (fun h15 => ?_) (fun h15 => ?_)
                        ·
                          have h15' := of_decide_eq_true h15
                          refine t_region ?_
                          refine r_op (o_fieldb rfl (off := 0) (by kernel_rfl) rfl) ?_
                          refine r_op (o_load1b rfl (by kernel_rfl) rfl rfl rfl) ?_
                          refine r_op (o_move rfl rfl) ?_
                          refine r_op (o_move rfl rfl) ?_
                          refine r_op (o_indexo rfl (by kernel_rfl) rfl rfl rfl b14 (at_lt b14 hz13)) ?_
                          refine r_op (o_storeo (if (findU (l) (a)) < (findU (l) (b)) then (findU (l) (b)) else (findU (l) (a))) (n := 1) (by kernel_rfl) rfl rfl hz13 rfl rfl rfl rfl (.cons .sc .nil) rfl (fun j h1 h2 => by simp at h1 h2; omega)) ?_
                          refine r_end ?_
                          refine t_endblock ?_
                          refine t_region ?_
                          refine r_op (o_move rfl rfl) ?_
                          refine r_op (o_bin rfl rfl rfl rfl) ?_
                          refine r_op (o_assign rfl rfl) ?_
                          refine r_end ?_
                          refine t_le ?_ (ih0 (m + 1) (by (try dsimp only); omega) (by (try dsimp only); omega))
                          exact ⟨⟨rfl, ⟨rfl, ⟨rfl, ⟨rfl, ⟨rfl, ⟨(eqI (wr64 (by omega) (by omega))), trivial⟩⟩⟩⟩⟩⟩, ⟨rfl, ⟨rfl, ⟨(eqR (by have ma := map_at (l := l) (m := m) hz13 i1; first | exact map_set (f := repU (findU l a) (findU l b)) ma (repU_hit (by assumption)) | exact map_skip (f := repU (findU l a) (findU l b)) ma (repU_miss (by assumption)))), ⟨rfl, trivial⟩⟩⟩⟩, rfl⟩
                        ·
                          have h15' := of_decide_eq_false h15
                          refine t_skip ?_
                          refine t_endblock ?_
                          refine t_region ?_
                          refine r_op (o_move rfl rfl) ?_
                          refine r_op (o_bin rfl rfl rfl rfl) ?_
                          refine r_op (o_assign rfl rfl) ?_
                          refine r_end ?_
                          refine t_le ?_ (ih0 (m + 1) (by (try dsimp only); omega) (by (try dsimp only); omega))
                          exact ⟨⟨rfl, ⟨rfl, ⟨rfl, ⟨rfl, ⟨rfl, ⟨(eqI (wr64 (by omega) (by omega))), trivial⟩⟩⟩⟩⟩⟩, ⟨rfl, ⟨rfl, ⟨(eqR (by have ma := map_at (l := l) (m := m) hz13 i1; first | exact map_set (f := repU (findU l a) (findU l b)) ma (repU_hit (by assumption)) | exact map_skip (f := repU (findU l a) (findU l b)) ma (repU_miss (by assumption)))), ⟨rfl, trivial⟩⟩⟩⟩, rfl⟩
                      ·
                        have h11' := of_decide_eq_false h11
                        refine t_exit rfl ?_
                        refine t_seq ?_
                        refine t_region ?_
                        refine r_op (o_loadAb rfl (n := 1) (by kernel_rfl) (by kernel_rfl) rfl rfl rfl) ?_
                        refine r_op (o_storeb (n := 1) (by kernel_rfl) rfl rfl rfl rfl rfl rfl) ?_
                        refine r_op (o_assign rfl rfl) ?_
                        refine r_end ?_
                        refine t_ret Try.func16 (.cells (n := 1) (by kernel_rfl) (by kernel_rfl) rfl rfl rfl (.tmp rfl .nil)) rfl fun E S w u hI hd => ?_
                        refine post_mk hI hd ?_ ⟨eqR ?_, trivial⟩ rfl rfl rfl <;> clear hI hd <;> (try clear ih0)
                        all_goals first | rfl | (clear ho ha hb; first | ((have UC : uniC l a b = 2 := by (first | exact uniC_bad (.inl (by assumption)) | exact uniC_bad (.inr (.inl (by first | assumption | exact memU_not (by omega)))) | exact uniC_bad (.inr (.inr (by first | assumption | exact memU_not (by omega)))) | exact uniC_same (by assumption) (by first | assumption | exact memU_of (by omega) (by omega)) (by first | assumption | exact memU_of (by omega) (by omega)) (by omega) | exact uniC_const (by assumption) (by first | assumption | exact memU_of (by omega) (by omega)) (by first | assumption | exact memU_of (by omega) (by omega)) (by omega) (by omega) | exact uniC_done (by assumption) (by first | assumption | exact memU_of (by omega) (by omega)) (by first | assumption | exact memU_of (by omega) (by omega)) (by omega) (by omega))); first | exact tupU UC | exact uniL_keep UC (by decide)) | ((have UC : uniC l a b = 0 := by (first | exact uniC_bad (.inl (by assumption)) | exact uniC_bad (.inr (.inl (by first | assumption | exact memU_not (by omega)))) | exact uniC_bad (.inr (.inr (by first | assumption | exact memU_not (by omega)))) | exact uniC_same (by assumption) (by first | assumption | exact memU_of (by omega) (by omega)) (by first | assumption | exact memU_of (by omega) (by omega)) (by omega) | exact uniC_const (by assumption) (by first | assumption | exact memU_of (by omega) (by omega)) (by first | assumption | exact memU_of (by omega) (by omega)) (by omega) (by omega) | exact uniC_done (by assumption) (by first | assumption | exact memU_of (by omega) (by omega)) (by first | assumption | exact memU_of (by omega) (by omega)) (by omega) (by omega))); first | exact tupU UC | exact uniL_keep UC (by decide)) | ((have UC : uniC l a b = 1 := by (first | exact uniC_bad (.inl (by assumption)) | exact uniC_bad (.inr (.inl (by first | assumption | exact memU_not (by omega)))) | exact uniC_bad (.inr (.inr (by first | assumption | exact memU_not (by omega)))) | exact uniC_same (by assumption) (by first | assumption | exact memU_of (by omega) (by omega)) (by first | assumption | exact memU_of (by omega) (by omega)) (by omega) | exact uniC_const (by assumption) (by first | assumption | exact memU_of (by omega) (by omega)) (by first | assumption | exact memU_of (by omega) (by omega)) (by omega) (by omega) | exact uniC_done (by assumption) (by first | assumption | exact memU_of (by omega) (by omega)) (by first | assumption | exact memU_of (by omega) (by omega)) (by omega) (by omega))); first | exact tupU UC | exact uniL_done UC (by omega)))
                  ·
                    have g9' := of_decide_eq_false g9
                    refine r_guard rfl rfl rfl (ncf g9) (fun _ => ?_)
                    refine r_op (o_pickF rfl rfl g9 rfl) ?_
                    refine r_end ?_
                    refine t_cond rfl (ncf rfl) (fun _ => ?_)
                    refine t_skip ?_
                    refine t_seq ?_
                    refine t_region ?_
                    refine r_op (o_move rfl rfl) ?_
                    refine r_op (o_move rfl rfl) ?_
                    refine r_op (o_max rfl rfl rfl) ?_
                    refine r_op (o_assign rfl rfl) ?_
                    refine r_end ?_
                    refine t_seq ?_
                    refine t_region ?_
                    refine r_op (o_move rfl rfl) ?_
                    refine r_op (o_move rfl rfl) ?_
                    refine r_op (o_min rfl rfl rfl) ?_
                    refine r_op (o_assign rfl rfl) ?_
                    refine r_end ?_
                    refine t_seq ?_
                    refine t_seq ?_
                    refine t_region ?_
                    refine r_op (o_assign rfl rfl) ?_
                    refine r_end ?_
                    refine t_block ?_
                    refine t_loopL (fun m => ⟨[(6, some (.c (.ptr 1 0))), (7, some (.c (.t none (.v (.int .i64 (0)))))), (8, some (.c (.ptr 3 0))), (15, some (.c (.t none (.v (.int .i64 (if (findU (l) (a)) < (findU (l) (b)) then (findU (l) (b)) else (findU (l) (a)))))))), (16, some (.c (.t none (.v (.int .i64 (if (findU (l) (b)) < (findU (l) (a)) then (findU (l) (b)) else (findU (l) (a)))))))), (17, some (.c (.t none (.v (.int .i64 ((m : Int)))))))], [(0, some (.box [.t none (.sl 1 encI (l))])), (1, some (.box [.t none (.v (.slice none 0 0))])), (2, some (.row none 3 true 1 encI ((l.take m).map (repU (findU l a) (findU l b)) ++ l.drop m))), (3, some (.box [.own 2]))], 4⟩ : Nat → St) (fun m => m ≤ l.length) (fun m => l.length - m) 0 ⟨⟨rfl, ⟨rfl, ⟨rfl, ⟨rfl, ⟨rfl, ⟨rfl, trivial⟩⟩⟩⟩⟩⟩, ⟨rfl, ⟨rfl, ⟨(eqR (by simp)), ⟨rfl, trivial⟩⟩⟩⟩, rfl⟩ (by exact Nat.zero_le _) ?_
                    rintro m hI ih0
                    try dsimp only at hI ih0
                    have i1 := hI; have hlen : ((l.take m).map (repU (findU l a) (findU l b)) ++ l.drop m).length = l.length := by (simp; omega)
                    refine t_seq ?_
                    refine t_seq ?_
                    refine t_region ?_
                    refine r_op (o_move rfl rfl) ?_
                    refine r_op (o_fieldb rfl (off := 0) (by kernel_rfl) rfl) ?_
                    refine r_op (o_load1b rfl (by kernel_rfl) rfl rfl rfl) ?_
                    refine r_op (o_leno rfl rfl rfl rfl) ?_
                    refine r_op (o_bin rfl rfl rfl rfl) ?_
                    refine r_end ?_
                    refine t_cond rfl (fun h16 => ?_) (fun h16 => ?_)
                    ·
                      have h16' := of_decide_eq_true h16
                      refine t_skip ?_
                      refine t_seq ?_
                      refine t_block ?_
                      refine t_seq ?_
                      refine t_region ?_
                      refine r_op (o_fieldb rfl (off := 0) (by kernel_rfl) rfl) ?_
                      refine r_op (o_load1b rfl (by kernel_rfl) rfl rfl rfl) ?_
                      refine r_op (o_move rfl rfl) ?_
                      obtain ⟨z17, hz18, b19⟩ := at_get (xs := (l.take m).map (repU (findU l a) (findU l b)) ++ l.drop m) (n := (m : Int)) (by first | omega | assumption | (simp; omega)) (by first | omega | assumption | (simp; omega))
                      refine r_op (o_indexo rfl (by kernel_rfl) rfl rfl rfl b19 (at_lt b19 hz18)) ?_
                      refine r_op (o_load1o rfl (by kernel_rfl) rfl rfl rfl hz18) ?_
                      refine r_op (o_move rfl rfl) ?_
                      refine r_op (o_bin rfl rfl rfl rfl) ?_
                      refine r_end ?_
                      refine t_cond rfl (fun h20 => ?_) (fun h20 => ?_)
                      ·
                        have h20' := of_decide_eq_true h20
                        refine t_region ?_
                        refine r_op (o_fieldb rfl (off := 0) (by kernel_rfl) rfl) ?_
                        refine r_op (o_load1b rfl (by kernel_rfl) rfl rfl rfl) ?_
                        refine r_op (o_move rfl rfl) ?_
                        refine r_op (o_move rfl rfl) ?_
                        refine r_op (o_indexo rfl (by kernel_rfl) rfl rfl rfl b19 (at_lt b19 hz18)) ?_
                        refine r_op (o_storeo (if (findU (l) (a)) < (findU (l) (b)) then (findU (l) (b)) else (findU (l) (a))) (n := 1) (by kernel_rfl) rfl rfl hz18 rfl rfl rfl rfl (.cons .sc .nil) rfl (fun j h1 h2 => by simp at h1 h2; omega)) ?_
                        refine r_end ?_
                        refine t_endblock ?_
                        refine t_region ?_
                        refine r_op (o_move rfl rfl) ?_
                        refine r_op (o_bin rfl rfl rfl rfl) ?_
                        refine r_op (o_assign rfl rfl) ?_
                        refine r_end ?_
                        refine t_le ?_ (ih0 (m + 1) (by (try dsimp only); omega) (by (try dsimp only); omega))
                        exact ⟨⟨rfl, ⟨rfl, ⟨rfl, ⟨rfl, ⟨rfl, ⟨(eqI (wr64 (by omega) (by omega))), trivial⟩⟩⟩⟩⟩⟩, ⟨rfl, ⟨rfl, ⟨(eqR (by have ma := map_at (l := l) (m := m) hz18 i1; first | exact map_set (f := repU (findU l a) (findU l b)) ma (repU_hit (by assumption)) | exact map_skip (f := repU (findU l a) (findU l b)) ma (repU_miss (by assumption)))), ⟨rfl, trivial⟩⟩⟩⟩, rfl⟩
                      ·
                        have h20' := of_decide_eq_false h20
                        refine t_skip ?_
                        refine t_endblock ?_
                        refine t_region ?_
                        refine r_op (o_move rfl rfl) ?_
                        refine r_op (o_bin rfl rfl rfl rfl) ?_
                        refine r_op (o_assign rfl rfl) ?_
                        refine r_end ?_
                        refine t_le ?_ (ih0 (m + 1) (by (try dsimp only); omega) (by (try dsimp only); omega))
                        exact ⟨⟨rfl, ⟨rfl, ⟨rfl, ⟨rfl, ⟨rfl, ⟨(eqI (wr64 (by omega) (by omega))), trivial⟩⟩⟩⟩⟩⟩, ⟨rfl, ⟨rfl, ⟨(eqR (by have ma := map_at (l := l) (m := m) hz18 i1; first | exact map_set (f := repU (findU l a) (findU l b)) ma (repU_hit (by assumption)) | exact map_skip (f := repU (findU l a) (findU l b)) ma (repU_miss (by assumption)))), ⟨rfl, trivial⟩⟩⟩⟩, rfl⟩
                    ·
                      have h16' := of_decide_eq_false h16
                      refine t_exit rfl ?_
                      refine t_seq ?_
                      refine t_region ?_
                      refine r_op (o_loadAb rfl (n := 1) (by kernel_rfl) (by kernel_rfl) rfl rfl rfl) ?_
                      refine r_op (o_storeb (n := 1) (by kernel_rfl) rfl rfl rfl rfl rfl rfl) ?_
                      refine r_op (o_assign rfl rfl) ?_
                      refine r_end ?_
                      refine t_ret Try.func16 (.cells (n := 1) (by kernel_rfl) (by kernel_rfl) rfl rfl rfl (.tmp rfl .nil)) rfl fun E S w u hI hd => ?_
                      refine post_mk hI hd ?_ ⟨eqR ?_, trivial⟩ rfl rfl rfl <;> clear hI hd <;> (try clear ih0)
                      all_goals first | rfl | (clear ho ha hb; first | ((have UC : uniC l a b = 2 := by (first | exact uniC_bad (.inl (by assumption)) | exact uniC_bad (.inr (.inl (by first | assumption | exact memU_not (by omega)))) | exact uniC_bad (.inr (.inr (by first | assumption | exact memU_not (by omega)))) | exact uniC_same (by assumption) (by first | assumption | exact memU_of (by omega) (by omega)) (by first | assumption | exact memU_of (by omega) (by omega)) (by omega) | exact uniC_const (by assumption) (by first | assumption | exact memU_of (by omega) (by omega)) (by first | assumption | exact memU_of (by omega) (by omega)) (by omega) (by omega) | exact uniC_done (by assumption) (by first | assumption | exact memU_of (by omega) (by omega)) (by first | assumption | exact memU_of (by omega) (by omega)) (by omega) (by omega))); first | exact tupU UC | exact uniL_keep UC (by decide)) | ((have UC : uniC l a b = 0 := by (first | exact uniC_bad (.inl (by assumption)) | exact uniC_bad (.inr (.inl (by first | assumption | exact memU_not (by omega)))) | exact uniC_bad (.inr (.inr (by first | assumption | exact memU_not (by omega)))) | exact uniC_same (by assumption) (by first | assumption | exact memU_of (by omega) (by omega)) (by first | assumption | exact memU_of (by omega) (by omega)) (by omega) | exact uniC_const (by assumption) (by first | assumption | exact memU_of (by omega) (by omega)) (by first | assumption | exact memU_of (by omega) (by omega)) (by omega) (by omega) | exact uniC_done (by assumption) (by first | assumption | exact memU_of (by omega) (by omega)) (by first | assumption | exact memU_of (by omega) (by omega)) (by omega) (by omega))); first | exact tupU UC | exact uniL_keep UC (by decide)) | ((have UC : uniC l a b = 1 := by (first | exact uniC_bad (.inl (by assumption)) | exact uniC_bad (.inr (.inl (by first | assumption | exact memU_not (by omega)))) | exact uniC_bad (.inr (.inr (by first | assumption | exact memU_not (by omega)))) | exact uniC_same (by assumption) (by first | assumption | exact memU_of (by omega) (by omega)) (by first | assumption | exact memU_of (by omega) (by omega)) (by omega) | exact uniC_const (by assumption) (by first | assumption | exact memU_of (by omega) (by omega)) (by first | assumption | exact memU_of (by omega) (by omega)) (by omega) (by omega) | exact uniC_done (by assumption) (by first | assumption | exact memU_of (by omega) (by omega)) (by first | assumption | exact memU_of (by omega) (by omega)) (by omega) (by omega))); first | exact tupU UC | exact uniL_done UC (by omega)))
            ·
              have g6' := of_decide_eq_false g6
              refine r_guard rfl rfl rfl (ncf g6) (fun _ => ?_)
              refine r_guard rfl rfl rfl (ncf g6) (fun _ => ?_)
              refine r_guard rfl rfl rfl (ncf g6) (fun _ => ?_)
              refine r_guard rfl rfl rfl (ncf g6) (fun _ => ?_)
              refine r_guard rfl rfl rfl (fun _ => ?_) (ncf g5)
              refine r_op (o_pickF rfl rfl g6 rfl) ?_
              refine r_op (o_pickF rfl rfl g5 rfl) ?_
              refine r_end ?_
              refine t_cond rfl (ncf rfl) (fun _ => ?_)
              refine t_skip ?_
              refine t_seq ?_
              refine t_region ?_
              refine r_op (o_loadAb rfl (n := 1) (by kernel_rfl) (by kernel_rfl) rfl rfl rfl) ?_
              refine r_op (o_move rfl rfl) ?_
              refine r_op (o_call 4 4 false (Go.Proofs.enters_of Try.func20 (by kernel_rfl) rfl) (c_spec_Find (l) (a) (by first | omega | assumption | (simp; omega)) (by first | omega | assumption | (simp; omega)) (by first | omega | assumption | (simp; omega))) rfl (.cons rfl (.agg (.cons .t0 .nil)) (.cons rfl (.c .t0) .nil)) rfl rfl rfl) ?_
              refine r_op (o_assign rfl rfl) ?_
              refine r_end ?_
              refine t_seq ?_
              refine t_region ?_
              refine r_op (o_loadAb rfl (n := 1) (by kernel_rfl) (by kernel_rfl) rfl rfl rfl) ?_
              refine r_op (o_move rfl rfl) ?_
              refine r_op (o_call 4 4 false (Go.Proofs.enters_of Try.func20 (by kernel_rfl) rfl) (c_spec_Find (l) (b) (by first | omega | assumption | (simp; omega)) (by first | omega | assumption | (simp; omega)) (by first | omega | assumption | (simp; omega))) rfl (.cons rfl (.agg (.cons .t0 .nil)) (.cons rfl (.c .t0) .nil)) rfl rfl rfl) ?_
              refine r_op (o_assign rfl rfl) ?_
              refine r_end ?_
              refine t_seq ?_
              refine t_seq ?_
              refine t_region ?_
              refine r_op (o_move rfl rfl) ?_
              refine r_op (o_move rfl rfl) ?_
              refine r_op (o_bin rfl rfl rfl rfl) ?_
              refine r_end ?_
              refine t_cond rfl (fun h21 => ?_) (fun h21 => ?_)
              ·
                have h21' := of_decide_eq_true h21
                refine t_seq ?_
                refine t_region ?_
                refine r_op (o_loadAb rfl (n := 1) (by kernel_rfl) (by kernel_rfl) rfl rfl rfl) ?_
                refine r_op (o_storeb (n := 1) (by kernel_rfl) rfl rfl rfl rfl rfl rfl) ?_
                refine r_op (o_assign rfl rfl) ?_
                refine r_end ?_
                refine t_ret Try.func16 (.cells (n := 1) (by kernel_rfl) (by kernel_rfl) rfl rfl rfl (.tmp rfl .nil)) rfl fun E S w u hI hd => ?_
                refine post_mk hI hd ?_ ⟨eqR ?_, trivial⟩ rfl rfl rfl <;> clear hI hd <;> (try clear ih0)
                all_goals first | rfl | (clear ho ha hb; first | ((have UC : uniC l a b = 2 := by (first | exact uniC_bad (.inl (by assumption)) | exact uniC_bad (.inr (.inl (by first | assumption | exact memU_not (by omega)))) | exact uniC_bad (.inr (.inr (by first | assumption | exact memU_not (by omega)))) | exact uniC_same (by assumption) (by first | assumption | exact memU_of (by omega) (by omega)) (by first | assumption | exact memU_of (by omega) (by omega)) (by omega) | exact uniC_const (by assumption) (by first | assumption | exact memU_of (by omega) (by omega)) (by first | assumption | exact memU_of (by omega) (by omega)) (by omega) (by omega) | exact uniC_done (by assumption) (by first | assumption | exact memU_of (by omega) (by omega)) (by first | assumption | exact memU_of (by omega) (by omega)) (by omega) (by omega))); first | exact tupU UC | exact uniL_keep UC (by decide)) | ((have UC : uniC l a b = 0 := by (first | exact uniC_bad (.inl (by assumption)) | exact uniC_bad (.inr (.inl (by first | assumption | exact memU_not (by omega)))) | exact uniC_bad (.inr (.inr (by first | assumption | exact memU_not (by omega)))) | exact uniC_same (by assumption) (by first | assumption | exact memU_of (by omega) (by omega)) (by first | assumption | exact memU_of (by omega) (by omega)) (by omega) | exact uniC_const (by assumption) (by first | assumption | exact memU_of (by omega) (by omega)) (by first | assumption | exact memU_of (by omega) (by omega)) (by omega) (by omega) | exact uniC_done (by assumption) (by first | assumption | exact memU_of (by omega) (by omega)) (by first | assumption | exact memU_of (by omega) (by omega)) (by omega) (by omega))); first | exact tupU UC | exact uniL_keep UC (by decide)) | ((have UC : uniC l a b = 1 := by (first | exact uniC_bad (.inl (by assumption)) | exact uniC_bad (.inr (.inl (by first | assumption | exact memU_not (by omega)))) | exact uniC_bad (.inr (.inr (by first | assumption | exact memU_not (by omega)))) | exact uniC_same (by assumption) (by first | assumption | exact memU_of (by omega) (by omega)) (by first | assumption | exact memU_of (by omega) (by omega)) (by omega) | exact uniC_const (by assumption) (by first | assumption | exact memU_of (by omega) (by omega)) (by first | assumption | exact memU_of (by omega) (by omega)) (by omega) (by omega) | exact uniC_done (by assumption) (by first | assumption | exact memU_of (by omega) (by omega)) (by first | assumption | exact memU_of (by omega) (by omega)) (by omega) (by omega))); first | exact tupU UC | exact uniL_done UC (by omega)))
              ·
                have h21' := of_decide_eq_false h21
                refine t_skip ?_
                refine t_seq ?_
                refine t_seq ?_
                refine t_region ?_
                refine r_op (o_move rfl rfl) ?_
                refine r_op (o_bin rfl rfl rfl rfl) ?_
                refine r_op (o_move rfl rfl) ?_
                refine r_guard rfl rfl rfl (fun g22 => ?_) (fun g22 => ?_)
                ·
                  have g22' := of_decide_eq_true g22
                  refine r_op (o_move rfl rfl) ?_
                  refine r_guard rfl rfl rfl (fun _ => ?_) (nc g22)
                  refine r_op (o_bin rfl rfl rfl rfl) ?_
                  refine r_op (o_pickT rfl rfl g22 rfl) ?_
                  refine r_end ?_
                  refine t_cond rfl (fun h23 => ?_) (fun h23 => ?_)
                  ·
                    have h23' := of_decide_eq_true h23
                    refine t_seq ?_
                    refine t_region ?_
                    refine r_op (o_loadAb rfl (n := 1) (by kernel_rfl) (by kernel_rfl) rfl rfl rfl) ?_
                    refine r_op (o_storeb (n := 1) (by kernel_rfl) rfl rfl rfl rfl rfl rfl) ?_
                    refine r_op (o_assign rfl rfl) ?_
                    refine r_end ?_
                    refine t_ret Try.func16 (.cells (n := 1) (by kernel_rfl) (by kernel_rfl) rfl rfl rfl (.tmp rfl .nil)) rfl fun E S w u hI hd => ?_
                    refine post_mk hI hd ?_ ⟨eqR ?_, trivial⟩ rfl rfl rfl <;> clear hI hd <;> (try clear ih0)
                    all_goals first | rfl | (clear ho ha hb; first | ((have UC : uniC l a b = 2 := by (first | exact uniC_bad (.inl (by assumption)) | exact uniC_bad (.inr (.inl (by first | assumption | exact memU_not (by omega)))) | exact uniC_bad (.inr (.inr (by first | assumption | exact memU_not (by omega)))) | exact uniC_same (by assumption) (by first | assumption | exact memU_of (by omega) (by omega)) (by first | assumption | exact memU_of (by omega) (by omega)) (by omega) | exact uniC_const (by assumption) (by first | assumption | exact memU_of (by omega) (by omega)) (by first | assumption | exact memU_of (by omega) (by omega)) (by omega) (by omega) | exact uniC_done (by assumption) (by first | assumption | exact memU_of (by omega) (by omega)) (by first | assumption | exact memU_of (by omega) (by omega)) (by omega) (by omega))); first | exact tupU UC | exact uniL_keep UC (by decide)) | ((have UC : uniC l a b = 0 := by (first | exact uniC_bad (.inl (by assumption)) | exact uniC_bad (.inr (.inl (by first | assumption | exact memU_not (by omega)))) | exact uniC_bad (.inr (.inr (by first | assumption | exact memU_not (by omega)))) | exact uniC_same (by assumption) (by first | assumption | exact memU_of (by omega) (by omega)) (by first | assumption | exact memU_of (by omega) (by omega)) (by omega) | exact uniC_const (by assumption) (by first | assumption | exact memU_of (by omega) (by omega)) (by first | assumption | exact memU_of (by omega) (by omega)) (by omega) (by omega) | exact uniC_done (by assumption) (by first | assumption | exact memU_of (by omega) (by omega)) (by first | assumption | exact memU_of (by omega) (by omega)) (by omega) (by omega))); first | exact tupU UC | exact uniL_keep UC (by decide)) | ((have UC : uniC l a b = 1 := by (first | exact uniC_bad (.inl (by assumption)) | exact uniC_bad (.inr (.inl (by first | assumption | exact memU_not (by omega)))) | exact uniC_bad (.inr (.inr (by first | assumption | exact memU_not (by omega)))) | exact uniC_same (by assumption) (by first | assumption | exact memU_of (by omega) (by omega)) (by first | assumption | exact memU_of (by omega) (by omega)) (by omega) | exact uniC_const (by assumption) (by first | assumption | exact memU_of (by omega) (by omega)) (by first | assumption | exact memU_of (by omega) (by omega)) (by omega) (by omega) | exact uniC_done (by assumption) (by first | assumption | exact memU_of (by omega) (by omega)) (by first | assumption | exact memU_of (by omega) (by omega)) (by omega) (by omega))); first | exact tupU UC | exact uniL_done UC (by omega)))
                  ·
                    have h23' := of_decide_eq_false h23
                    refine t_skip ?_
                    refine t_seq ?_
                    refine t_region ?_
                    refine r_op (o_move rfl rfl) ?_
                    refine r_op (o_move rfl rfl) ?_
                    refine r_op (o_max rfl rfl rfl) ?_
                    refine r_op (o_assign rfl rfl) ?_
                    refine r_end ?_
                    refine t_seq ?_
                    refine t_region ?_
                    refine r_op (o_move rfl rfl) ?_
                    refine r_op (o_move rfl rfl) ?_
                    refine r_op (o_min rfl rfl rfl) ?_
                    refine r_op (o_assign rfl rfl) ?_
                    refine r_end ?_
                    refine t_seq ?_
                    refine t_seq ?_
                    refine t_region ?_
                    refine r_op (o_assign rfl rfl) ?_
                    refine r_end ?_
                    refine t_block ?_
                    refine t_loopL (fun m => ⟨[(6, some (.c (.ptr 1 0))), (7, some (.c (.t none (.v (.int .i64 (0)))))), (8, some (.c (.ptr 3 0))), (15, some (.c (.t none (.v (.int .i64 (if (findU (l) (a)) < (findU (l) (b)) then (findU (l) (b)) else (findU (l) (a)))))))), (16, some (.c (.t none (.v (.int .i64 (if (findU (l) (b)) < (findU (l) (a)) then (findU (l) (b)) else (findU (l) (a)))))))), (17, some (.c (.t none (.v (.int .i64 ((m : Int)))))))], [(0, some (.box [.t none (.sl 1 encI (l))])), (1, some (.box [.t none (.v (.slice none 0 0))])), (2, some (.row none 3 true 1 encI ((l.take m).map (repU (findU l a) (findU l b)) ++ l.drop m))), (3, some (.box [.own 2]))], 4⟩ : Nat → St) (fun m => m ≤ l.length) (fun m => l.length - m) 0 ⟨⟨rfl, ⟨rfl, ⟨rfl, ⟨rfl, ⟨rfl, ⟨rfl, trivial⟩⟩⟩⟩⟩⟩, ⟨rfl, ⟨rfl, ⟨(eqR (by simp)), ⟨rfl, trivial⟩⟩⟩⟩, rfl⟩ (by exact Nat.zero_le _) ?_
                    rintro m hI ih0
                    try dsimp only at hI ih0
                    have i1 := hI; have hlen : ((l.take m).map (repU (findU l a) (findU l b)) ++ l.drop m).length = l.length := by (simp; omega)
                    refine t_seq ?_
                    refine t_seq ?_
                    refine t_region ?_
                    refine r_op (o_move rfl rfl) ?_
                    refine r_op (o_fieldb rfl (off := 0) (by kernel_rfl) rfl) ?_
                    refine r_op (o_load1b rfl (by kernel_rfl) rfl rfl rfl) ?_
                    refine r_op (o_leno rfl rfl rfl rfl) ?_
                    refine r_op (o_bin rfl rfl rfl rfl) ?_
                    refine r_end ?_
                    refine t_cond rfl (fun h24 => ?_) (fun h24 => ?_)
                    ·
                      have h24' := of_decide_eq_true h24
                      refine t_skip ?_
                      refine t_seq ?_
                      refine t_block ?_
                      refine t_seq ?_
                      refine t_region ?_
                      refine r_op (o_fieldb rfl (off := 0) (by kernel_rfl) rfl) ?_
                      refine r_op (o_load1b rfl (by kernel_rfl) rfl rfl rfl) ?_
                      refine r_op (o_move rfl rfl) ?_
                      obtain ⟨z25, hz26, b27⟩ := at_get (xs := (l.take m).map (repU (findU l a) (findU l b)) ++ l.drop m) (n := (m : Int)) (by first | omega | assumption | (simp; omega)) (by first | omega | assumption | (simp; omega))
                      refine r_op (o_indexo rfl (by kernel_rfl) rfl rfl rfl b27 (at_lt b27 hz26)) ?_
                      refine r_op (o_load1o rfl (by kernel_rfl) rfl rfl rfl hz26) ?_
                      refine r_op (o_move rfl rfl) ?_
                      refine r_op (o_bin rfl rfl rfl rfl) ?_
                      refine r_end ?_
                      refine t_cond rfl (fun h28 => ?_) (fun h28 => ?_)
                      ·
                        have h28' := of_decide_eq_true h28
                        refine t_region ?_
                        refine r_op (o_fieldb rfl (off := 0) (by kernel_rfl) rfl) ?_
                        refine r_op (o_load1b rfl (by kernel_rfl) rfl rfl rfl) ?_
                        refine r_op (o_move rfl rfl) ?_
                        refine r_op (o_move rfl rfl) ?_
                        refine r_op (o_indexo rfl (by kernel_rfl) rfl rfl rfl b27 (at_lt b27 hz26)) ?_
                        refine r_op (o_storeo (if (findU (l) (a)) < (findU (l) (b)) then (findU (l) (b)) else (findU (l) (a))) (n := 1) (by kernel_rfl) rfl rfl hz26 rfl rfl rfl rfl (.cons .sc .nil) rfl (fun j h1 h2 => by simp at h1 h2; omega)) ?_
                        refine r_end ?_
                        refine t_endblock ?_
                        refine t_region ?_
                        refine r_op (o_move rfl rfl) ?_
                        refine r_op (o_bin rfl rfl rfl rfl) ?_
                        refine r_op (o_assign rfl rfl) ?_
                        refine r_end ?_
                        refine t_le ?_ (ih0 (m + 1) (by (try dsimp only); omega) (by (try dsimp only); omega))
                        exact ⟨⟨rfl, ⟨rfl, ⟨rfl, ⟨rfl, ⟨rfl, ⟨(eqI (wr64 (by omega) (by omega))), trivial⟩⟩⟩⟩⟩⟩, ⟨rfl, ⟨rfl, ⟨(eqR (by have ma := map_at (l := l) (m := m) hz26 i1; first | exact map_set (f := repU (findU l a) (findU l b)) ma (repU_hit (by assumption)) | exact map_skip (f := repU (findU l a) (findU l b)) ma (repU_miss (by assumption)))), ⟨rfl, trivial⟩⟩⟩⟩, rfl⟩
                      ·
                        have h28' := of_decide_eq_false h28
                        refine t_skip ?_
                        refine t_endblock ?_
                        refine t_region ?_
                        refine r_op (o_move rfl rfl) ?_
                        refine r_op (o_bin rfl rfl rfl rfl) ?_
                        refine r_op (o_assign rfl rfl) ?_
                        refine r_end ?_
                        refine t_le ?_ (ih0 (m + 1) (by (try dsimp only); omega) (by (try dsimp only); omega))
                        exact ⟨⟨rfl, ⟨rfl, ⟨rfl, ⟨rfl, ⟨rfl, ⟨(eqI (wr64 (by omega) (by omega))), trivial⟩⟩⟩⟩⟩⟩, ⟨rfl, ⟨rfl, ⟨(eqR (by have ma := map_at (l := l) (m := m) hz26 i1; first | exact map_set (f := repU (findU l a) (findU l b)) ma (repU_hit (by assumption)) | exact map_skip (f := repU (findU l a) (findU l b)) ma (repU_miss (by assumption)))), ⟨rfl, trivial⟩⟩⟩⟩, rfl⟩
                    ·
                      have h24' := of_decide_eq_false h24
                      refine t_exit rfl ?_
                      refine t_seq ?_
                      refine t_region ?_
                      refine r_op (o_loadAb rfl (n := 1) (by kernel_rfl) (by kernel_rfl) rfl rfl rfl) ?_
                      refine r_op (o_storeb (n := 1) (by kernel_rfl) rfl rfl rfl rfl rfl rfl) ?_
                      refine r_op (o_assign rfl rfl) ?_
                      refine r_end ?_
                      refine t_ret Try.func16 (.cells (n := 1) (by kernel_rfl) (by kernel_rfl) rfl rfl rfl (.tmp rfl .nil)) rfl fun E S w u hI hd => ?_
                      refine post_mk hI hd ?_ ⟨eqR ?_, trivial⟩ rfl rfl rfl <;> clear hI hd <;> (try clear ih0)
                      all_goals first | rfl | (clear ho ha hb; first | ((have UC : uniC l a b = 2 := by (first | exact uniC_bad (.inl (by assumption)) | exact uniC_bad (.inr (.inl (by first | assumption | exact memU_not (by omega)))) | exact uniC_bad (.inr (.inr (by first | assumption | exact memU_not (by omega)))) | exact uniC_same (by assumption) (by first | assumption | exact memU_of (by omega) (by omega)) (by first | assumption | exact memU_of (by omega) (by omega)) (by omega) | exact uniC_const (by assumption) (by first | assumption | exact memU_of (by omega) (by omega)) (by first | assumption | exact memU_of (by omega) (by omega)) (by omega) (by omega) | exact uniC_done (by assumption) (by first | assumption | exact memU_of (by omega) (by omega)) (by first | assumption | exact memU_of (by omega) (by omega)) (by omega) (by omega))); first | exact tupU UC | exact uniL_keep UC (by decide)) | ((have UC : uniC l a b = 0 := by (first | exact uniC_bad (.inl (by assumption)) | exact uniC_bad (.inr (.inl (by first | assumption | exact memU_not (by omega)))) | exact uniC_bad (.inr (.inr (by first | assumption | exact memU_not (by omega)))) | exact uniC_same (by assumption) (by first | assumption | exact memU_of (by omega) (by omega)) (by first | assumption | exact memU_of (by omega) (by omega)) (by omega) | exact uniC_const (by assumption) (by first | assumption | exact memU_of (by omega) (by omega)) (by first | assumption | exact memU_of (by omega) (by omega)) (by omega) (by omega) | exact uniC_done (by assumption) (by first | assumption | exact memU_of (by omega) (by omega)) (by first | assumption | exact memU_of (by omega) (by omega)) (by omega) (by omega))); first | exact tupU UC | exact uniL_keep UC (by decide)) | ((have UC : uniC l a b = 1 := by (first | exact uniC_bad (.inl (by assumption)) | exact uniC_bad (.inr (.inl (by first | assumption | exact memU_not (by omega)))) | exact uniC_bad (.inr (.inr (by first | assumption | exact memU_not (by omega)))) | exact uniC_same (by assumption) (by first | assumption | exact memU_of (by omega) (by omega)) (by first | assumption | exact memU_of (by omega) (by omega)) (by omega) | exact uniC_const (by assumption) (by first | assumption | exact memU_of (by omega) (by omega)) (by first | assumption | exact memU_of (by omega) (by omega)) (by omega) (by omega) | exact uniC_done (by assumption) (by first | assumption | exact memU_of (by omega) (by omega)) (by first | assumption | exact memU_of (by omega) (by omega)) (by omega) (by omega))); first | exact tupU UC | exact uniL_done UC (by omega)))
                ·
                  have g22' := of_decide_eq_false g22
                  refine r_guard rfl rfl rfl (ncf g22) (fun _ => ?_)
                  refine r_op (o_pickF rfl rfl g22 rfl) ?_
                  refine r_end ?_
                  refine t_cond rfl (ncf rfl) (fun _ => ?_)
                  refine t_skip ?_
                  refine t_seq ?_
                  refine t_region ?_
                  refine r_op (o_move rfl rfl) ?_
                  refine r_op (o_move rfl rfl) ?_
                  refine r_op (o_max rfl rfl rfl) ?_
                  refine r_op (o_assign rfl rfl) ?_
                  refine r_end ?_
                  refine t_seq ?_
                  refine t_region ?_
                  refine r_op (o_move rfl rfl) ?_
                  refine r_op (o_move rfl rfl) ?_
                  refine r_op (o_min rfl rfl rfl) ?_
                  refine r_op (o_assign rfl rfl) ?_
                  refine r_end ?_
                  refine t_seq ?_
                  refine t_seq ?_
                  refine t_region ?_
                  refine r_op (o_assign rfl rfl) ?_
                  refine r_end ?_
                  refine t_block ?_
                  refine t_loopL (fun m => ⟨[(6, some (.c (.ptr 1 0))), (7, some (.c (.t none (.v (.int .i64 (0)))))), (8, some (.c (.ptr 3 0))), (15, some (.c (.t none (.v (.int .i64 (if (findU (l) (a)) < (findU (l) (b)) then (findU (l) (b)) else (findU (l) (a)))))))), (16, some (.c (.t none (.v (.int .i64 (if (findU (l) (b)) < (findU (l) (a)) then (findU (l) (b)) else (findU (l) (a)))))))), (17, some (.c (.t none (.v (.int .i64 ((m : Int)))))))], [(0, some (.box [.t none (.sl 1 encI (l))])), (1, some (.box [.t none (.v (.slice none 0 0))])), (2, some (.row none 3 true 1 encI ((l.take m).map (repU (findU l a) (findU l b)) ++ l.drop m))), (3, some (.box [.own 2]))], 4⟩ : Nat → St) (fun m => m ≤ l.length) (fun m => l.length - m) 0 ⟨⟨rfl, ⟨rfl, ⟨rfl, ⟨rfl, ⟨rfl, ⟨rfl, trivial⟩⟩⟩⟩⟩⟩, ⟨rfl, ⟨rfl, ⟨(eqR (by simp)), ⟨rfl, trivial⟩⟩⟩⟩, rfl⟩ (by exact Nat.zero_le _) ?_
                  rintro m hI ih0
                  try dsimp only at hI ih0
                  have i1 := hI; have hlen : ((l.take m).map (repU (findU l a) (findU l b)) ++ l.drop m).length = l.length := by (simp; omega)
                  refine t_seq ?_
                  refine t_seq ?_
                  refine t_region ?_
                  refine r_op (o_move rfl rfl) ?_
                  refine r_op (o_fieldb rfl (off := 0) (by kernel_rfl) rfl) ?_
                  refine r_op (o_load1b rfl (by kernel_rfl) rfl rfl rfl) ?_
                  refine r_op (o_leno rfl rfl rfl rfl) ?_
                  refine r_op (o_bin rfl rfl rfl rfl) ?_
                  refine r_end ?_
                  refine t_cond rfl (fun h29 => ?_) (fun h29 => ?_)
                  ·
                    have h29' := of_decide_eq_true h29
                    refine t_skip ?_
                    refine t_seq ?_
                    refine t_block ?_
                    refine t_seq ?_
                    refine t_region ?_
                    refine r_op (o_fieldb rfl (off := 0) (by kernel_rfl) rfl) ?_
                    refine r_op (o_load1b rfl (by kernel_rfl) rfl rfl rfl) ?_
                    refine r_op (o_move rfl rfl) ?_
                    obtain ⟨z30, hz31, b32⟩ := at_get (xs := (l.take m).map (repU (findU l a) (findU l b)) ++ l.drop m) (n := (m : Int)) (by first | omega | assumption | (simp; omega)) (by first | omega | assumption | (simp; omega))
                    refine r_op (o_indexo rfl (by kernel_rfl) rfl rfl rfl b32 (at_lt b32 hz31)) ?_
                    refine r_op (o_load1o rfl (by kernel_rfl) rfl rfl rfl hz31) ?_
                    refine r_op (o_move rfl rfl) ?_
                    refine r_op (o_bin rfl rfl rfl rfl) ?_
                    refine r_end ?_
                    refine t_cond rfl (fun h33 => ?_) (fun h33 => ?_)
                    ·
                      have h33' := of_decide_eq_true h33
                      refine t_region ?_
                      refine r_op (o_fieldb rfl (off := 0) (by kernel_rfl) rfl) ?_
                      refine r_op (o_load1b rfl (by kernel_rfl) rfl rfl rfl) ?_
                      refine r_op (o_move rfl rfl) ?_
                      refine r_op (o_move rfl rfl) ?_
                      refine r_op (o_indexo rfl (by kernel_rfl) rfl rfl rfl b32 (at_lt b32 hz31)) ?_
                      refine r_op (o_storeo (if (findU (l) (a)) < (findU (l) (b)) then (findU (l) (b)) else (findU (l) (a))) (n := 1) (by kernel_rfl) rfl rfl hz31 rfl rfl rfl rfl (.cons .sc .nil) rfl (fun j h1 h2 => by simp at h1 h2; omega)) ?_
                      refine r_end ?_
                      refine t_endblock ?_
                      refine t_region ?_
                      refine r_op (o_move rfl rfl) ?_
                      refine r_op (o_bin rfl rfl rfl rfl) ?_
                      refine r_op (o_assign rfl rfl) ?_
                      refine r_end ?_
                      refine t_le ?_ (ih0 (m + 1) (by (try dsimp only); omega) (by (try dsimp only); omega))
                      exact ⟨⟨rfl, ⟨rfl, ⟨rfl, ⟨rfl, ⟨rfl, ⟨(eqI (wr64 (by omega) (by omega))), trivial⟩⟩⟩⟩⟩⟩, ⟨rfl, ⟨rfl, ⟨(eqR (by have ma := map_at (l := l) (m := m) hz31 i1; first | exact map_set (f := repU (findU l a) (findU l b)) ma (repU_hit (by assumption)) | exact map_skip (f := repU (findU l a) (findU l b)) ma (repU_miss (by assumption)))), ⟨rfl, trivial⟩⟩⟩⟩, rfl⟩
                    ·
                      have h33' := of_decide_eq_false h33
                      refine t_skip ?_
                      refine t_endblock ?_
                      refine t_region ?_
                      refine r_op (o_move rfl rfl) ?_
                      refine r_op (o_bin rfl rfl rfl rfl) ?_
                      refine r_op (o_assign rfl rfl) ?_
                      refine r_end ?_
                      refine t_le ?_ (ih0 (m + 1) (by (try dsimp only); omega) (by (try dsimp only); omega))
                      exact ⟨⟨rfl, ⟨rfl, ⟨rfl, ⟨rfl, ⟨rfl, ⟨(eqI (wr64 (by omega) (by omega))), trivial⟩⟩⟩⟩⟩⟩, ⟨rfl, ⟨rfl, ⟨(eqR (by have ma := map_at (l := l) (m := m) hz31 i1; first | exact map_set (f := repU (findU l a) (findU l b)) ma (repU_hit (by assumption)) | exact map_skip (f := repU (findU l a) (findU l b)) ma (repU_miss (by assumption)))), ⟨rfl, trivial⟩⟩⟩⟩, rfl⟩
                  ·
                    have h29' := of_decide_eq_false h29
                    refine t_exit rfl ?_
                    refine t_seq ?_
                    refine t_region ?_
                    refine r_op (o_loadAb rfl (n := 1) (by kernel_rfl) (by kernel_rfl) rfl rfl rfl) ?_
                    refine r_op (o_storeb (n := 1) (by kernel_rfl) rfl rfl rfl rfl rfl rfl) ?_
                    refine r_op (o_assign rfl rfl) ?_
                    refine r_end ?_
                    refine t_ret Try.func16 (.cells (n := 1) (by kernel_rfl) (by kernel_rfl) rfl rfl rfl (.tmp rfl .nil)) rfl fun E S w u hI hd => ?_
                    refine post_mk hI hd ?_ ⟨eqR ?_, trivial⟩ rfl rfl rfl <;> clear hI hd <;> (try clear ih0)
                    all_goals first | rfl | (clear ho ha hb; first | ((have UC : uniC l a b = 2 := by (first | exact uniC_bad (.inl (by assumption)) | exact uniC_bad (.inr (.inl (by first | assumption | exact memU_not (by omega)))) | exact uniC_bad (.inr (.inr (by first | assumption | exact memU_not (by omega)))) | exact uniC_same (by assumption) (by first | assumption | exact memU_of (by omega) (by omega)) (by first | assumption | exact memU_of (by omega) (by omega)) (by omega) | exact uniC_const (by assumption) (by first | assumption | exact memU_of (by omega) (by omega)) (by first | assumption | exact memU_of (by omega) (by omega)) (by omega) (by omega) | exact uniC_done (by assumption) (by first | assumption | exact memU_of (by omega) (by omega)) (by first | assumption | exact memU_of (by omega) (by omega)) (by omega) (by omega))); first | exact tupU UC | exact uniL_keep UC (by decide)) | ((have UC : uniC l a b = 0 := by (first | exact uniC_bad (.inl (by assumption)) | exact uniC_bad (.inr (.inl (by first | assumption | exact memU_not (by omega)))) | exact uniC_bad (.inr (.inr (by first | assumption | exact memU_not (by omega)))) | exact uniC_same (by assumption) (by first | assumption | exact memU_of (by omega) (by omega)) (by first | assumption | exact memU_of (by omega) (by omega)) (by omega) | exact uniC_const (by assumption) (by first | assumption | exact memU_of (by omega) (by omega)) (by first | assumption | exact memU_of (by omega) (by omega)) (by omega) (by omega) | exact uniC_done (by assumption) (by first | assumption | exact memU_of (by omega) (by omega)) (by first | assumption | exact memU_of (by omega) (by omega)) (by omega) (by omega))); first | exact tupU UC | exact uniL_keep UC (by decide)) | ((have UC : uniC l a b = 1 := by (first | exact uniC_bad (.inl (by assumption)) | exact uniC_bad (.inr (.inl (by first | assumption | exact memU_not (by omega)))) | exact uniC_bad (.inr (.inr (by first | assumption | exact memU_not (by omega)))) | exact uniC_same (by assumption) (by first | assumption | exact memU_of (by omega) (by omega)) (by first | assumption | exact memU_of (by omega) (by omega)) (by omega) | exact uniC_const (by assumption) (by first | assumption | exact memU_of (by omega) (by omega)) (by first | assumption | exact memU_of (by omega) (by omega)) (by omega) (by omega) | exact uniC_done (by assumption) (by first | assumption | exact memU_of (by omega) (by omega)) (by first | assumption | exact memU_of (by omega) (by omega)) (by omega) (by omega))); first | exact tupU UC | exact uniL_done UC (by omega)))
          ·
            have g5' := of_decide_eq_true g5
            refine r_guard rfl rfl rfl (nc g5) (fun _ => ?_)
            refine r_skip rfl rfl rfl ?_
            refine r_skip rfl rfl rfl ?_
            refine r_skip rfl rfl rfl ?_
            refine r_skip rfl rfl rfl ?_
            refine r_skip rfl rfl rfl ?_
            refine r_guard rfl rfl rfl (nc g5) (fun _ => ?_)
            refine r_op (o_pickT rfl rfl g5 rfl) ?_
            refine r_end ?_
            refine t_cond rfl (fun _ => ?_) (nc rfl)
            refine t_seq ?_
            refine t_region ?_
            refine r_op (o_loadAb rfl (n := 1) (by kernel_rfl) (by kernel_rfl) rfl rfl rfl) ?_
            refine r_op (o_storeb (n := 1) (by kernel_rfl) rfl rfl rfl rfl rfl rfl) ?_
            refine r_op (o_assign rfl rfl) ?_
            refine r_end ?_
            refine t_ret Try.func16 (.cells (n := 1) (by kernel_rfl) (by kernel_rfl) rfl rfl rfl (.tmp rfl .nil)) rfl fun E S w u hI hd => ?_
            refine post_mk hI hd ?_ ⟨eqR ?_, trivial⟩ rfl rfl rfl <;> clear hI hd <;> (try clear ih0)
            all_goals first | rfl | (clear ho ha hb; first | ((have UC : uniC l a b = 2 := by (first | exact uniC_bad (.inl (by assumption)) | exact uniC_bad (.inr (.inl (by first | assumption | exact memU_not (by omega)))) | exact uniC_bad (.inr (.inr (by first | assumption | exact memU_not (by omega)))) | exact uniC_same (by assumption) (by first | assumption | exact memU_of (by omega) (by omega)) (by first | assumption | exact memU_of (by omega) (by omega)) (by omega) | exact uniC_const (by assumption) (by first | assumption | exact memU_of (by omega) (by omega)) (by first | assumption | exact memU_of (by omega) (by omega)) (by omega) (by omega) | exact uniC_done (by assumption) (by first | assumption | exact memU_of (by omega) (by omega)) (by first | assumption | exact memU_of (by omega) (by omega)) (by omega) (by omega))); first | exact tupU UC | exact uniL_keep UC (by decide)) | ((have UC : uniC l a b = 0 := by (first | exact uniC_bad (.inl (by assumption)) | exact uniC_bad (.inr (.inl (by first | assumption | exact memU_not (by omega)))) | exact uniC_bad (.inr (.inr (by first | assumption | exact memU_not (by omega)))) | exact uniC_same (by assumption) (by first | assumption | exact memU_of (by omega) (by omega)) (by first | assumption | exact memU_of (by omega) (by omega)) (by omega) | exact uniC_const (by assumption) (by first | assumption | exact memU_of (by omega) (by omega)) (by first | assumption | exact memU_of (by omega) (by omega)) (by omega) (by omega) | exact uniC_done (by assumption) (by first | assumption | exact memU_of (by omega) (by omega)) (by first | assumption | exact memU_of (by omega) (by omega)) (by omega) (by omega))); first | exact tupU UC | exact uniL_keep UC (by decide)) | ((have UC : uniC l a b = 1 := by (first | exact uniC_bad (.inl (by assumption)) | exact uniC_bad (.inr (.inl (by first | assumption | exact memU_not (by omega)))) | exact uniC_bad (.inr (.inr (by first | assumption | exact memU_not (by omega)))) | exact uniC_same (by assumption) (by first | assumption | exact memU_of (by omega) (by omega)) (by first | assumption | exact memU_of (by omega) (by omega)) (by omega) | exact uniC_const (by assumption) (by first | assumption | exact memU_of (by omega) (by omega)) (by first | assumption | exact memU_of (by omega) (by omega)) (by omega) (by omega) | exact uniC_done (by assumption) (by first | assumption | exact memU_of (by omega) (by omega)) (by first | assumption | exact memU_of (by omega) (by omega)) (by omega) (by omega))); first | exact tupU UC | exact uniL_done UC (by omega)))
        ·
          have g4' := of_decide_eq_false g4
          refine r_guard rfl rfl rfl (ncf g4) (fun _ => ?_)
          refine r_guard rfl rfl rfl (ncf g4) (fun _ => ?_)
          refine r_guard rfl rfl rfl (ncf g4) (fun _ => ?_)
          refine r_guard rfl rfl rfl (ncf g4) (fun _ => ?_)
          refine r_guard rfl rfl rfl (fun _ => ?_) (ncf g3)
          refine r_op (o_pickF rfl rfl g4 rfl) ?_
          refine r_op (o_pickF rfl rfl g3 rfl) ?_
          refine r_op (o_move rfl rfl) ?_
          refine r_guard rfl rfl rfl (fun _ => ?_) (ncf rfl)
          refine r_op (o_move rfl rfl) ?_
          refine r_guard rfl rfl rfl (fun _ => ?_) (ncf rfl)
          refine r_op (o_move rfl rfl) ?_
          refine r_guard rfl rfl rfl (fun g34 => ?_) (fun g34 => ?_)
          ·
            have g34' := of_decide_eq_true g34
            refine r_op (o_move rfl rfl) ?_
            refine r_guard rfl rfl rfl (fun _ => ?_) (nc g34)
            refine r_op (o_fieldb rfl (off := 0) (by kernel_rfl) rfl) ?_
            refine r_guard rfl rfl rfl (fun _ => ?_) (nc g34)
            refine r_op (o_load1b rfl (by kernel_rfl) rfl rfl rfl) ?_
            refine r_guard rfl rfl rfl (fun _ => ?_) (nc g34)
            refine r_op (o_len rfl rfl rfl) ?_
            refine r_guard rfl rfl rfl (fun _ => ?_) (nc g34)
            refine r_op (o_bin rfl rfl rfl rfl) ?_
            refine r_guard rfl rfl rfl (fun _ => ?_) (ncf rfl)
            refine r_op (o_pickT rfl rfl g34 rfl) ?_
            refine r_op (o_pickF rfl rfl rfl rfl) ?_
            refine r_end ?_
            refine t_cond rfl (fun h35 => ?_) (fun h35 => ?_)
            ·
              have h35' := of_decide_eq_true h35
              refine t_seq ?_
              refine t_region ?_
              refine r_op (o_loadAb rfl (n := 1) (by kernel_rfl) (by kernel_rfl) rfl rfl rfl) ?_
              refine r_op (o_storeb (n := 1) (by kernel_rfl) rfl rfl rfl rfl rfl rfl) ?_
              refine r_op (o_assign rfl rfl) ?_
              refine r_end ?_
              refine t_ret Try.func16 (.cells (n := 1) (by kernel_rfl) (by kernel_rfl) rfl rfl rfl (.tmp rfl .nil)) rfl fun E S w u hI hd => ?_
              refine post_mk hI hd ?_ ⟨eqR ?_, trivial⟩ rfl rfl rfl <;> clear hI hd <;> (try clear ih0)
              all_goals first | rfl | (clear ho ha hb; first | ((have UC : uniC l a b = 2 := by (first | exact uniC_bad (.inl (by assumption)) | exact uniC_bad (.inr (.inl (by first | assumption | exact memU_not (by omega)))) | exact uniC_bad (.inr (.inr (by first | assumption | exact memU_not (by omega)))) | exact uniC_same (by assumption) (by first | assumption | exact memU_of (by omega) (by omega)) (by first | assumption | exact memU_of (by omega) (by omega)) (by omega) | exact uniC_const (by assumption) (by first | assumption | exact memU_of (by omega) (by omega)) (by first | assumption | exact memU_of (by omega) (by omega)) (by omega) (by omega) | exact uniC_done (by assumption) (by first | assumption | exact memU_of (by omega) (by omega)) (by first | assumption | exact memU_of (by omega) (by omega)) (by omega) (by omega))); first | exact tupU UC | exact uniL_keep UC (by decide)) | ((have UC : uniC l a b = 0 := by (first | exact uniC_bad (.inl (by assumption)) | exact uniC_bad (.inr (.inl (by first | assumption | exact memU_not (by omega)))) | exact uniC_bad (.inr (.inr (by first | assumption | exact memU_not (by omega)))) | exact uniC_same (by assumption) (by first | assumption | exact memU_of (by omega) (by omega)) (by first | assumption | exact memU_of (by omega) (by omega)) (by omega) | exact uniC_const (by assumption) (by first | assumption | exact memU_of (by omega) (by omega)) (by first | assumption | exact memU_of (by omega) (by omega)) (by omega) (by omega) | exact uniC_done (by assumption) (by first | assumption | exact memU_of (by omega) (by omega)) (by first | assumption | exact memU_of (by omega) (by omega)) (by omega) (by omega))); first | exact tupU UC | exact uniL_keep UC (by decide)) | ((have UC : uniC l a b = 1 := by (first | exact uniC_bad (.inl (by assumption)) | exact uniC_bad (.inr (.inl (by first | assumption | exact memU_not (by omega)))) | exact uniC_bad (.inr (.inr (by first | assumption | exact memU_not (by omega)))) | exact uniC_same (by assumption) (by first | assumption | exact memU_of (by omega) (by omega)) (by first | assumption | exact memU_of (by omega) (by omega)) (by omega) | exact uniC_const (by assumption) (by first | assumption | exact memU_of (by omega) (by omega)) (by first | assumption | exact memU_of (by omega) (by omega)) (by omega) (by omega) | exact uniC_done (by assumption) (by first | assumption | exact memU_of (by omega) (by omega)) (by first | assumption | exact memU_of (by omega) (by omega)) (by omega) (by omega))); first | exact tupU UC | exact uniL_done UC (by omega)))
            ·
              have h35' := of_decide_eq_false h35
              refine t_skip ?_
              refine t_seq ?_
              refine t_region ?_
              refine r_op (o_loadAb rfl (n := 1) (by kernel_rfl) (by kernel_rfl) rfl rfl rfl) ?_
              refine r_op (o_move rfl rfl) ?_
              refine r_op (o_call 4 4 false (Go.Proofs.enters_of Try.func20 (by kernel_rfl) rfl) (c_spec_Find (l) (a) (by first | omega | assumption | (simp; omega)) (by first | omega | assumption | (simp; omega)) (by first | omega | assumption | (simp; omega))) rfl (.cons rfl (.agg (.cons .t0 .nil)) (.cons rfl (.c .t0) .nil)) rfl rfl rfl) ?_
              refine r_op (o_assign rfl rfl) ?_
              refine r_end ?_
              refine t_seq ?_
              refine t_region ?_
              refine r_op (o_loadAb rfl (n := 1) (by kernel_rfl) (by kernel_rfl) rfl rfl rfl) ?_
              refine r_op (o_move rfl rfl) ?_
              refine r_op (o_call 4 4 false (Go.Proofs.enters_of Try.func20 (by kernel_rfl) rfl) (c_spec_Find (l) (b) (by first | omega | assumption | (simp; omega)) (by first | omega | assumption | (simp; omega)) (by first | omega | assumption | (simp; omega))) rfl (.cons rfl (.agg (.cons .t0 .nil)) (.cons rfl (.c .t0) .nil)) rfl rfl rfl) ?_
              refine r_op (o_assign rfl rfl) ?_
              refine r_end ?_
              refine t_seq ?_
              refine t_seq ?_
              refine t_region ?_
              refine r_op (o_move rfl rfl) ?_
              refine r_op (o_move rfl rfl) ?_
              refine r_op (o_bin rfl rfl rfl rfl) ?_
              refine r_end ?_
              refine t_cond rfl (fun h36 => ?_) (fun h36 => ?_)
              ·
                have h36' := of_decide_eq_true h36
                refine t_seq ?_
                refine t_region ?_
                refine r_op (o_loadAb rfl (n := 1) (by kernel_rfl) (by kernel_rfl) rfl rfl rfl) ?_
                refine r_op (o_storeb (n := 1) (by kernel_rfl) rfl rfl rfl rfl rfl rfl) ?_
                refine r_op (o_assign rfl rfl) ?_
                refine r_end ?_
                refine t_ret Try.func16 (.cells (n := 1) (by kernel_rfl) (by kernel_rfl) rfl rfl rfl (.tmp rfl .nil)) rfl fun E S w u hI hd => ?_
                refine post_mk hI hd ?_ ⟨eqR ?_, trivial⟩ rfl rfl rfl <;> clear hI hd <;> (try clear ih0)
                all_goals first | rfl | (clear ho ha hb; first | ((have UC : uniC l a b = 2 := by (first | exact uniC_bad (.inl (by assumption)) | exact uniC_bad (.inr (.inl (by first | assumption | exact memU_not (by omega)))) | exact uniC_bad (.inr (.inr (by first | assumption | exact memU_not (by omega)))) | exact uniC_same (by assumption) (by first | assumption | exact memU_of (by omega) (by omega)) (by first | assumption | exact memU_of (by omega) (by omega)) (by omega) | exact uniC_const (by assumption) (by first | assumption | exact memU_of (by omega) (by omega)) (by first | assumption | exact memU_of (by omega) (by omega)) (by omega) (by omega) | exact uniC_done (by assumption) (by first | assumption | exact memU_of (by omega) (by omega)) (by first | assumption | exact memU_of (by omega) (by omega)) (by omega) (by omega))); first | exact tupU UC | exact uniL_keep UC (by decide)) | ((have UC : uniC l a b = 0 := by (first | exact uniC_bad (.inl (by assumption)) | exact uniC_bad (.inr (.inl (by first | assumption | exact memU_not (by omega)))) | exact uniC_bad (.inr (.inr (by first | assumption | exact memU_not (by omega)))) | exact uniC_same (by assumption) (by first | assumption | exact memU_of (by omega) (by omega)) (by first | assumption | exact memU_of (by omega) (by omega)) (by omega) | exact uniC_const (by assumption) (by first | assumption | exact memU_of (by omega) (by omega)) (by first | assumption | exact memU_of (by omega) (by omega)) (by omega) (by omega) | exact uniC_done (by assumption) (by first | assumption | exact memU_of (by omega) (by omega)) (by first | assumption | exact memU_of (by omega) (by omega)) (by omega) (by omega))); first | exact tupU UC | exact uniL_keep UC (by decide)) | ((have UC : uniC l a b = 1 := by (first | exact uniC_bad (.inl (by assumption)) | exact uniC_bad (.inr (.inl (by first | assumption | exact memU_not (by omega)))) | exact uniC_bad (.inr (.inr (by first | assumption | exact memU_not (by omega)))) | exact uniC_same (by assumption) (by first | assumption | exact memU_of (by omega) (by omega)) (by first | assumption | exact memU_of (by omega) (by omega)) (by omega) | exact uniC_const (by assumption) (by first | assumption | exact memU_of (by omega) (by omega)) (by first | assumption | exact memU_of (by omega) (by omega)) (by omega) (by omega) | exact uniC_done (by assumption) (by first | assumption | exact memU_of (by omega) (by omega)) (by first | assumption | exact memU_of (by omega) (by omega)) (by omega) (by omega))); first | exact tupU UC | exact uniL_done UC (by omega)))
              ·
                have h36' := of_decide_eq_false h36
                refine t_skip ?_
                refine t_seq ?_
                refine t_seq ?_
                refine t_region ?_
                refine r_op (o_move rfl rfl) ?_
                refine r_op (o_bin rfl rfl rfl rfl) ?_
                refine r_op (o_move rfl rfl) ?_
                refine r_guard rfl rfl rfl (fun g37 => ?_) (fun g37 => ?_)
                ·
                  have g37' := of_decide_eq_true g37
                  refine r_op (o_move rfl rfl) ?_
                  refine r_guard rfl rfl rfl (fun _ => ?_) (nc g37)
                  refine r_op (o_bin rfl rfl rfl rfl) ?_
                  refine r_op (o_pickT rfl rfl g37 rfl) ?_
                  refine r_end ?_
                  refine t_cond rfl (fun h38 => ?_) (fun h38 => ?_)
                  ·
                    have h38' := of_decide_eq_true h38
                    refine t_seq ?_
                    refine t_region ?_
                    refine r_op (o_loadAb rfl (n := 1) (by kernel_rfl) (by kernel_rfl) rfl rfl rfl) ?_
                    refine r_op (o_storeb (n := 1) (by kernel_rfl) rfl rfl rfl rfl rfl rfl) ?_
                    refine r_op (o_assign rfl rfl) ?_
                    refine r_end ?_
                    refine t_ret Try.func16 (.cells (n := 1) (by kernel_rfl) (by kernel_rfl) rfl rfl rfl (.tmp rfl .nil)) rfl fun E S w u hI hd => ?_
                    refine post_mk hI hd ?_ ⟨eqR ?_, trivial⟩ rfl rfl rfl <;> clear hI hd <;> (try clear ih0)
                    all_goals first | rfl | (clear ho ha hb; first | ((have UC : uniC l a b = 2 := by (first | exact uniC_bad (.inl (by assumption)) | exact uniC_bad (.inr (.inl (by first | assumption | exact memU_not (by omega)))) | exact uniC_bad (.inr (.inr (by first | assumption | exact memU_not (by omega)))) | exact uniC_same (by assumption) (by first | assumption | exact memU_of (by omega) (by omega)) (by first | assumption | exact memU_of (by omega) (by omega)) (by omega) | exact uniC_const (by assumption) (by first | assumption | exact memU_of (by omega) (by omega)) (by first | assumption | exact memU_of (by omega) (by omega)) (by omega) (by omega) | exact uniC_done (by assumption) (by first | assumption | exact memU_of (by omega) (by omega)) (by first | assumption | exact memU_of (by omega) (by omega)) (by omega) (by omega))); first | exact tupU UC | exact uniL_keep UC (by decide)) | ((have UC : uniC l a b = 0 := by (first | exact uniC_bad (.inl (by assumption)) | exact uniC_bad (.inr (.inl (by first | assumption | exact memU_not (by omega)))) | exact uniC_bad (.inr (.inr (by first | assumption | exact memU_not (by omega)))) | exact uniC_same (by assumption) (by first | assumption | exact memU_of (by omega) (by omega)) (by first | assumption | exact memU_of (by omega) (by omega)) (by omega) | exact uniC_const (by assumption) (by first | assumption | exact memU_of (by omega) (by omega)) (by first | assumption | exact memU_of (by omega) (by omega)) (by omega) (by omega) | exact uniC_done (by assumption) (by first | assumption | exact memU_of (by omega) (by omega)) (by first | assumption | exact memU_of (by omega) (by omega)) (by omega) (by omega))); first | exact tupU UC | exact uniL_keep UC (by decide)) | ((have UC : uniC l a b = 1 := by (first | exact uniC_bad (.inl (by assumption)) | exact uniC_bad (.inr (.inl (by first | assumption | exact memU_not (by omega)))) | exact uniC_bad (.inr (.inr (by first | assumption | exact memU_not (by omega)))) | exact uniC_same (by assumption) (by first | assumption | exact memU_of (by omega) (by omega)) (by first | assumption | exact memU_of (by omega) (by omega)) (by omega) | exact uniC_const (by assumption) (by first | assumption | exact memU_of (by omega) (by omega)) (by first | assumption | exact memU_of (by omega) (by omega)) (by omega) (by omega) | exact uniC_done (by assumption) (by first | assumption | exact memU_of (by omega) (by omega)) (by first | assumption | exact memU_of (by omega) (by omega)) (by omega) (by omega))); first | exact tupU UC | exact uniL_done UC (by omega)))
                  ·
                    have h38' := of_decide_eq_false h38
                    refine t_skip ?_
                    refine t_seq ?_
                    refine t_region ?_
                    refine r_op (o_move rfl rfl) ?_
                    refine r_op (o_move rfl rfl) ?_
                    refine r_op (o_max rfl rfl rfl) ?_
                    refine r_op (o_assign rfl rfl) ?_
                    refine r_end ?_
                    refine t_seq ?_
                    refine t_region ?_
                    refine r_op (o_move rfl rfl) ?_
                    refine r_op (o_move rfl rfl) ?_
                    refine r_op (o_min rfl rfl rfl) ?_
                    refine r_op (o_assign rfl rfl) ?_
                    refine r_end ?_
                    refine t_seq ?_
                    refine t_seq ?_
                    refine t_region ?_
                    refine r_op (o_assign rfl rfl) ?_
                    refine r_end ?_
                    refine t_block ?_
                    refine t_loopL (fun m => ⟨[(6, some (.c (.ptr 1 0))), (7, some (.c (.t none (.v (.int .i64 (0)))))), (8, some (.c (.ptr 3 0))), (15, some (.c (.t none (.v (.int .i64 (if (findU (l) (a)) < (findU (l) (b)) then (findU (l) (b)) else (findU (l) (a)))))))), (16, some (.c (.t none (.v (.int .i64 (if (findU (l) (b)) < (findU (l) (a)) then (findU (l) (b)) else (findU (l) (a)))))))), (17, some (.c (.t none (.v (.int .i64 ((m : Int)))))))], [(0, some (.box [.t none (.sl 1 encI (l))])), (1, some (.box [.t none (.v (.slice none 0 0))])), (2, some (.row none 3 true 1 encI ((l.take m).map (repU (findU l a) (findU l b)) ++ l.drop m))), (3, some (.box [.own 2]))], 4⟩ : Nat → St) (fun m => m ≤ l.length) (fun m => l.length - m) 0 ⟨⟨rfl, ⟨rfl, ⟨rfl, ⟨rfl, ⟨rfl, ⟨rfl, trivial⟩⟩⟩⟩⟩⟩, ⟨rfl, ⟨rfl, ⟨(eqR (by simp)), ⟨rfl, trivial⟩⟩⟩⟩, rfl⟩ (by exact Nat.zero_le _) ?_
                    rintro m hI ih0
                    try dsimp only at hI ih0
                    have i1 := hI; have hlen : ((l.take m).map (repU (findU l a) (findU l b)) ++ l.drop m).length = l.length := by (simp; omega)
                    refine t_seq ?_
                    refine t_seq ?_
                    refine t_region ?_
                    refine r_op (o_move rfl rfl) ?_
                    refine r_op (o_fieldb rfl (off := 0) (by kernel_rfl) rfl) ?_
                    refine r_op (o_load1b rfl (by kernel_rfl) rfl rfl rfl) ?_
                    refine r_op (o_leno rfl rfl rfl rfl) ?_
                    refine r_op (o_bin rfl rfl rfl rfl) ?_
                    refine r_end ?_
                    refine t_cond rfl (fun h39 => ?_) (fun h39 => ?_)
                    ·
                      have h39' := of_decide_eq_true h39
                      refine t_skip ?_
                      refine t_seq ?_
                      refine t_block ?_
                      refine t_seq ?_
                      refine t_region ?_
                      refine r_op (o_fieldb rfl (off := 0) (by kernel_rfl) rfl) ?_
                      refine r_op (o_load1b rfl (by kernel_rfl) rfl rfl rfl) ?_
                      refine r_op (o_move rfl rfl) ?_
                      obtain ⟨z40, hz41, b42⟩ := at_get (xs := (l.take m).map (repU (findU l a) (findU l b)) ++ l.drop m) (n := (m : Int)) (by first | omega | assumption | (simp; omega)) (by first | omega | assumption | (simp; omega))
                      refine r_op (o_indexo rfl (by kernel_rfl) rfl rfl rfl b42 (at_lt b42 hz41)) ?_
                      refine r_op (o_load1o rfl (by kernel_rfl) rfl rfl rfl hz41) ?_
                      refine r_op (o_move rfl rfl) ?_
                      refine r_op (o_bin rfl rfl rfl rfl) ?_
                      refine r_end ?_
                      refine t_cond rfl (fun h43 => ?_) (fun h43 => ?_)
                      ·
                        have h43' := of_decide_eq_true h43
                        refine t_region ?_
                        refine r_op (o_fieldb rfl (off := 0) (by kernel_rfl) rfl) ?_
                        refine r_op (o_load1b rfl (by kernel_rfl) rfl rfl rfl) ?_
                        refine r_op (o_move rfl rfl) ?_
                        refine r_op (o_move rfl rfl) ?_
                        refine r_op (o_indexo rfl (by kernel_rfl) rfl rfl rfl b42 (at_lt b42 hz41)) ?_
                        refine r_op (o_storeo (if (findU (l) (a)) < (findU (l) (b)) then (findU (l) (b)) else (findU (l) (a))) (n := 1) (by kernel_rfl) rfl rfl hz41 rfl rfl rfl rfl (.cons .sc .nil) rfl (fun j h1 h2 => by simp at h1 h2; omega)) ?_
                        refine r_end ?_
                        refine t_endblock ?_
                        refine t_region ?_
                        refine r_op (o_move rfl rfl) ?_
                        refine r_op (o_bin rfl rfl rfl rfl) ?_
                        refine r_op (o_assign rfl rfl) ?_
                        refine r_end ?_
                        refine t_le ?_ (ih0 (m + 1) (by (try dsimp only); omega) (by (try dsimp only); omega))
                        exact ⟨⟨rfl, ⟨rfl, ⟨rfl, ⟨rfl, ⟨rfl, ⟨(eqI (wr64 (by omega) (by omega))), trivial⟩⟩⟩⟩⟩⟩, ⟨rfl, ⟨rfl, ⟨(eqR (by have ma := map_at (l := l) (m := m) hz41 i1; first | exact map_set (f := repU (findU l a) (findU l b)) ma (repU_hit (by assumption)) | exact map_skip (f := repU (findU l a) (findU l b)) ma (repU_miss (by assumption)))), ⟨rfl, trivial⟩⟩⟩⟩, rfl⟩
                      ·
                        have h43' := of_decide_eq_false h43
                        refine t_skip ?_
                        refine t_endblock ?_
                        refine t_region ?_
                        refine r_op (o_move rfl rfl) ?_
                        refine r_op (o_bin rfl rfl rfl rfl) ?_
                        refine r_op (o_assign rfl rfl) ?_
                        refine r_end ?_
                        refine t_le ?_ (ih0 (m + 1) (by (try dsimp only); omega) (by (try dsimp only); omega))
                        exact ⟨⟨rfl, ⟨rfl, ⟨rfl, ⟨rfl, ⟨rfl, ⟨(eqI (wr64 (by omega) (by omega))), trivial⟩⟩⟩⟩⟩⟩, ⟨rfl, ⟨rfl, ⟨(eqR (by have ma := map_at (l := l) (m := m) hz41 i1; first | exact map_set (f := repU (findU l a) (findU l b)) ma (repU_hit (by assumption)) | exact map_skip (f := repU (findU l a) (findU l b)) ma (repU_miss (by assumption)))), ⟨rfl, trivial⟩⟩⟩⟩, rfl⟩
                    ·
                      have h39' := of_decide_eq_false h39
                      refine t_exit rfl ?_
                      refine t_seq ?_
                      refine t_region ?_
                      refine r_op (o_loadAb rfl (n := 1) (by kernel_rfl) (by kernel_rfl) rfl rfl rfl) ?_
                      refine r_op (o_storeb (n := 1) (by kernel_rfl) rfl rfl rfl rfl rfl rfl) ?_
                      refine r_op (o_assign rfl rfl) ?_
                      refine r_end ?_
                      refine t_ret Try.func16 (.cells (n := 1) (by kernel_rfl) (by kernel_rfl) rfl rfl rfl (.tmp rfl .nil)) rfl fun E S w u hI hd => ?_
                      refine post_mk hI hd ?_ ⟨eqR ?_, trivial⟩ rfl rfl rfl <;> clear hI hd <;> (try clear ih0)
                      all_goals first | rfl | (clear ho ha hb; first | ((have UC : uniC l a b = 2 := by (first | exact uniC_bad (.inl (by assumption)) | exact uniC_bad (.inr (.inl (by first | assumption | exact memU_not (by omega)))) | exact uniC_bad (.inr (.inr (by first | assumption | exact memU_not (by omega)))) | exact uniC_same (by assumption) (by first | assumption | exact memU_of (by omega) (by omega)) (by first | assumption | exact memU_of (by omega) (by omega)) (by omega) | exact uniC_const (by assumption) (by first | assumption | exact memU_of (by omega) (by omega)) (by first | assumption | exact memU_of (by omega) (by omega)) (by omega) (by omega) | exact uniC_done (by assumption) (by first | assumption | exact memU_of (by omega) (by omega)) (by first | assumption | exact memU_of (by omega) (by omega)) (by omega) (by omega))); first | exact tupU UC | exact uniL_keep UC (by decide)) | ((have UC : uniC l a b = 0 := by (first | exact uniC_bad (.inl (by assumption)) | exact uniC_bad (.inr (.inl (by first | assumption | exact memU_not (by omega)))) | exact uniC_bad (.inr (.inr (by first | assumption | exact memU_not (by omega)))) | exact uniC_same (by assumption) (by first | assumption | exact memU_of (by omega) (by omega)) (by first | assumption | exact memU_of (by omega) (by omega)) (by omega) | exact uniC_const (by assumption) (by first | assumption | exact memU_of (by omega) (by omega)) (by first | assumption | exact memU_of (by omega) (by omega)) (by omega) (by omega) | exact uniC_done (by assumption) (by first | assumption | exact memU_of (by omega) (by omega)) (by first | assumption | exact memU_of (by omega) (by omega)) (by omega) (by omega))); first | exact tupU UC | exact uniL_keep UC (by decide)) | ((have UC : uniC l a b = 1 := by (first | exact uniC_bad (.inl (by assumption)) | exact uniC_bad (.inr (.inl (by first | assumption | exact memU_not (by omega)))) | exact uniC_bad (.inr (.inr (by first | assumption | exact memU_not (by omega)))) | exact uniC_same (by assumption) (by first | assumption | exact memU_of (by omega) (by omega)) (by first | assumption | exact memU_of (by omega) (by omega)) (by omega) | exact uniC_const (by assumption) (by first | assumption | exact memU_of (by omega) (by omega)) (by first | assumption | exact memU_of (by omega) (by omega)) (by omega) (by omega) | exact uniC_done (by assumption) (by first | assumption | exact memU_of (by omega) (by omega)) (by first | assumption | exact memU_of (by omega) (by omega)) (by omega) (by omega))); first | exact tupU UC | exact uniL_done UC (by omega)))
                ·
                  have g37' := of_decide_eq_false g37
                  refine r_guard rfl rfl rfl (ncf g37) (fun _ => ?_)
                  refine r_op (o_pickF rfl rfl g37 rfl) ?_
                  refine r_end ?_
                  refine t_cond rfl (ncf rfl) (fun _ => ?_)
                  refine t_skip ?_
                  refine t_seq ?_
                  refine t_region ?_
                  refine r_op (o_move rfl rfl) ?_
                  refine r_op (o_move rfl rfl) ?_
                  refine r_op (o_max rfl rfl rfl) ?_
                  refine r_op (o_assign rfl rfl) ?_
                  refine r_end ?_
                  refine t_seq ?_
                  refine t_region ?_
                  refine r_op (o_move rfl rfl) ?_
                  refine r_op (o_move rfl rfl) ?_
                  refine r_op (o_min rfl rfl rfl) ?_
                  refine r_op (o_assign rfl rfl) ?_
                  refine r_end ?_
                  refine t_seq ?_
                  refine t_seq ?_
                  refine t_region ?_
                  refine r_op (o_assign rfl rfl) ?_
                  refine r_end ?_
                  refine t_block ?_
                  refine t_loopL (fun m => ⟨[(6, some (.c (.ptr 1 0))), (7, some (.c (.t none (.v (.int .i64 (0)))))), (8, some (.c (.ptr 3 0))), (15, some (.c (.t none (.v (.int .i64 (if (findU (l) (a)) < (findU (l) (b)) then (findU (l) (b)) else (findU (l) (a)))))))), (16, some (.c (.t none (.v (.int .i64 (if (findU (l) (b)) < (findU (l) (a)) then (findU (l) (b)) else (findU (l) (a)))))))), (17, some (.c (.t none (.v (.int .i64 ((m : Int)))))))], [(0, some (.box [.t none (.sl 1 encI (l))])), (1, some (.box [.t none (.v (.slice none 0 0))])), (2, some (.row none 3 true 1 encI ((l.take m).map (repU (findU l a) (findU l b)) ++ l.drop m))), (3, some (.box [.own 2]))], 4⟩ : Nat → St) (fun m => m ≤ l.length) (fun m => l.length - m) 0 ⟨⟨rfl, ⟨rfl, ⟨rfl, ⟨rfl, ⟨rfl, ⟨rfl, trivial⟩⟩⟩⟩⟩⟩, ⟨rfl, ⟨rfl, ⟨(eqR (by simp)), ⟨rfl, trivial⟩⟩⟩⟩, rfl⟩ (by exact Nat.zero_le _) ?_
                  rintro m hI ih0
                  try dsimp only at hI ih0
                  have i1 := hI; have hlen : ((l.take m).map (repU (findU l a) (findU l b)) ++ l.drop m).length = l.length := by (simp; omega)
                  refine t_seq ?_
                  refine t_seq ?_
                  refine t_region ?_
                  refine r_op (o_move rfl rfl) ?_
                  refine r_op (o_fieldb rfl (off := 0) (by kernel_rfl) rfl) ?_
                  refine r_op (o_load1b rfl (by kernel_rfl) rfl rfl rfl) ?_
                  refine r_op (o_leno rfl rfl rfl rfl) ?_
                  refine r_op (o_bin rfl rfl rfl rfl) ?_
                  refine r_end ?_
                  refine t_cond rfl (fun h44 => ?_) (fun h44 => ?_)
                  ·
                    have h44' := of_decide_eq_true h44
                    refine t_skip ?_
                    refine t_seq ?_
                    refine t_block ?_
                    refine t_seq ?_
                    refine t_region ?_
                    refine r_op (o_fieldb rfl (off := 0) (by kernel_rfl) rfl) ?_
                    refine r_op (o_load1b rfl (by kernel_rfl) rfl rfl rfl) ?_
                    refine r_op (o_move rfl rfl) ?_
                    obtain ⟨z45, hz46, b47⟩ := at_get (xs := (l.take m).map (repU (findU l a) (findU l b)) ++ l.drop m) (n := (m : Int)) (by first | omega | assumption | (simp; omega)) (by first | omega | assumption | (simp; omega))
                    refine r_op (o_indexo rfl (by kernel_rfl) rfl rfl rfl b47 (at_lt b47 hz46)) ?_
                    refine r_op (o_load1o rfl (by kernel_rfl) rfl rfl rfl hz46) ?_
                    refine r_op (o_move rfl rfl) ?_
                    refine r_op (o_bin rfl rfl rfl rfl) ?_
                    refine r_end ?_
                    refine t_cond rfl (fun h48 => ?_) (fun h48 => ?_)
                    ·
                      have h48' := of_decide_eq_true h48
                      refine t_region ?_
                      refine r_op (o_fieldb rfl (off := 0) (by kernel_rfl) rfl) ?_
                      refine r_op (o_load1b rfl (by kernel_rfl) rfl rfl rfl) ?_
                      refine r_op (o_move rfl rfl) ?_
                      refine r_op (o_move rfl rfl) ?_
                      refine r_op (o_indexo rfl (by kernel_rfl) rfl rfl rfl b47 (at_lt b47 hz46)) ?_
                      refine r_op (o_storeo (if (findU (l) (a)) < (findU (l) (b)) then (findU (l) (b)) else (findU (l) (a))) (n := 1) (by kernel_rfl) rfl rfl hz46 rfl rfl rfl rfl (.cons .sc .nil) rfl (fun j h1 h2 => by simp at h1 h2; omega)) ?_
                      refine r_end ?_
                      refine t_endblock ?_
                      refine t_region ?_
                      refine r_op (o_move rfl rfl) ?_
                      refine r_op (o_bin rfl rfl rfl rfl) ?_
                      refine r_op (o_assign rfl rfl) ?_
                      refine r_end ?_
                      refine t_le ?_ (ih0 (m + 1) (by (try dsimp only); omega) (by (try dsimp only); omega))
                      exact ⟨⟨rfl, ⟨rfl, ⟨rfl, ⟨rfl, ⟨rfl, ⟨(eqI (wr64 (by omega) (by omega))), trivial⟩⟩⟩⟩⟩⟩, ⟨rfl, ⟨rfl, ⟨(eqR (by have ma := map_at (l := l) (m := m) hz46 i1; first | exact map_set (f := repU (findU l a) (findU l b)) ma (repU_hit (by assumption)) | exact map_skip (f := repU (findU l a) (findU l b)) ma (repU_miss (by assumption)))), ⟨rfl, trivial⟩⟩⟩⟩, rfl⟩
                    ·
                      have h48' := of_decide_eq_false h48
                      refine t_skip ?_
                      refine t_endblock ?_
                      refine t_region ?_
                      refine r_op (o_move rfl rfl) ?_
                      refine r_op (o_bin rfl rfl rfl rfl) ?_
                      refine r_op (o_assign rfl rfl) ?_
                      refine r_end ?_
                      refine t_le ?_ (ih0 (m + 1) (by (try dsimp only); omega) (by (try dsimp only); omega))
                      exact ⟨⟨rfl, ⟨rfl, ⟨rfl, ⟨rfl, ⟨rfl, ⟨(eqI (wr64 (by omega) (by omega))), trivial⟩⟩⟩⟩⟩⟩, ⟨rfl, ⟨rfl, ⟨(eqR (by have ma := map_at (l := l) (m := m) hz46 i1; first | exact map_set (f := repU (findU l a) (findU l b)) ma (repU_hit (by assumption)) | exact map_skip (f := repU (findU l a) (findU l b)) ma (repU_miss (by assumption)))), ⟨rfl, trivial⟩⟩⟩⟩, rfl⟩
                  ·
                    have h44' := of_decide_eq_false h44
                    refine t_exit rfl ?_
                    refine t_seq ?_
                    refine t_region ?_
                    refine r_op (o_loadAb rfl (n := 1) (by kernel_rfl) (by kernel_rfl) rfl rfl rfl) ?_
                    refine r_op (o_storeb (n := 1) (by kernel_rfl) rfl rfl rfl rfl rfl rfl) ?_
                    refine r_op (o_assign rfl rfl) ?_
                    refine r_end ?_
                    refine t_ret Try.func16 (.cells (n := 1) (by kernel_rfl) (by kernel_rfl) rfl rfl rfl (.tmp rfl .nil)) rfl fun E S w u hI hd => ?_
                    refine post_mk hI hd ?_ ⟨eqR ?_, trivial⟩ rfl rfl rfl <;> clear hI hd <;> (try clear ih0)
                    all_goals first | rfl | (clear ho ha hb; first | ((have UC : uniC l a b = 2 := by (first | exact uniC_bad (.inl (by assumption)) | exact uniC_bad (.inr (.inl (by first | assumption | exact memU_not (by omega)))) | exact uniC_bad (.inr (.inr (by first | assumption | exact memU_not (by omega)))) | exact uniC_same (by assumption) (by first | assumption | exact memU_of (by omega) (by omega)) (by first | assumption | exact memU_of (by omega) (by omega)) (by omega) | exact uniC_const (by assumption) (by first | assumption | exact memU_of (by omega) (by omega)) (by first | assumption | exact memU_of (by omega) (by omega)) (by omega) (by omega) | exact uniC_done (by assumption) (by first | assumption | exact memU_of (by omega) (by omega)) (by first | assumption | exact memU_of (by omega) (by omega)) (by omega) (by omega))); first | exact tupU UC | exact uniL_keep UC (by decide)) | ((have UC : uniC l a b = 0 := by (first | exact uniC_bad (.inl (by assumption)) | exact uniC_bad (.inr (.inl (by first | assumption | exact memU_not (by omega)))) | exact uniC_bad (.inr (.inr (by first | assumption | exact memU_not (by omega)))) | exact uniC_same (by assumption) (by first | assumption | exact memU_of (by omega) (by omega)) (by first | assumption | exact memU_of (by omega) (by omega)) (by omega) | exact uniC_const (by assumption) (by first | assumption | exact memU_of (by omega) (by omega)) (by first | assumption | exact memU_of (by omega) (by omega)) (by omega) (by omega) | exact uniC_done (by assumption) (by first | assumption | exact memU_of (by omega) (by omega)) (by first | assumption | exact memU_of (by omega) (by omega)) (by omega) (by omega))); first | exact tupU UC | exact uniL_keep UC (by decide)) | ((have UC : uniC l a b = 1 := by (first | exact uniC_bad (.inl (by assumption)) | exact uniC_bad (.inr (.inl (by first | assumption | exact memU_not (by omega)))) | exact uniC_bad (.inr (.inr (by first | assumption | exact memU_not (by omega)))) | exact uniC_same (by assumption) (by first | assumption | exact memU_of (by omega) (by omega)) (by first | assumption | exact memU_of (by omega) (by omega)) (by omega) | exact uniC_const (by assumption) (by first | assumption | exact memU_of (by omega) (by omega)) (by first | assumption | exact memU_of (by omega) (by omega)) (by omega) (by omega) | exact uniC_done (by assumption) (by first | assumption | exact memU_of (by omega) (by omega)) (by first | assumption | exact memU_of (by omega) (by omega)) (by omega) (by omega))); first | exact tupU UC | exact uniL_done UC (by omega)))
          ·
            have g34' := of_decide_eq_false g34
            refine r_guard rfl rfl rfl (ncf g34) (fun _ => ?_)
            refine r_guard rfl rfl rfl (ncf g34) (fun _ => ?_)
            refine r_guard rfl rfl rfl (ncf g34) (fun _ => ?_)
            refine r_guard rfl rfl rfl (ncf g34) (fun _ => ?_)
            refine r_guard rfl rfl rfl (fun _ => ?_) (ncf rfl)
            refine r_op (o_pickF rfl rfl g34 rfl) ?_
            refine r_op (o_pickF rfl rfl rfl rfl) ?_
            refine r_end ?_
            refine t_cond rfl (ncf rfl) (fun _ => ?_)
            refine t_skip ?_
            refine t_seq ?_
            refine t_region ?_
            refine r_op (o_loadAb rfl (n := 1) (by kernel_rfl) (by kernel_rfl) rfl rfl rfl) ?_
            refine r_op (o_move rfl rfl) ?_
            refine r_op (o_call 4 4 false (Go.Proofs.enters_of Try.func20 (by kernel_rfl) rfl) (c_spec_Find (l) (a) (by first | omega | assumption | (simp; omega)) (by first | omega | assumption | (simp; omega)) (by first | omega | assumption | (simp; omega))) rfl (.cons rfl (.agg (.cons .t0 .nil)) (.cons rfl (.c .t0) .nil)) rfl rfl rfl) ?_
            refine r_op (o_assign rfl rfl) ?_
            refine r_end ?_
            refine t_seq ?_
            refine t_region ?_
            refine r_op (o_loadAb rfl (n := 1) (by kernel_rfl) (by kernel_rfl) rfl rfl rfl) ?_
            refine r_op (o_move rfl rfl) ?_
            refine r_op (o_call 4 4 false (Go.Proofs.enters_of Try.func20 (by kernel_rfl) rfl) (c_spec_Find (l) (b) (by first | omega | assumption | (simp; omega)) (by first | omega | assumption | (simp; omega)) (by first | omega | assumption | (simp; omega))) rfl (.cons rfl (.agg (.cons .t0 .nil)) (.cons rfl (.c .t0) .nil)) rfl rfl rfl) ?_
            refine r_op (o_assign rfl rfl) ?_
            refine r_end ?_
            refine t_seq ?_
            refine t_seq ?_
            refine t_region ?_
            refine r_op (o_move rfl rfl) ?_
            refine r_op (o_move rfl rfl) ?_
            refine r_op (o_bin rfl rfl rfl rfl) ?_
            refine r_end ?_
            refine t_cond rfl (fun h49 => ?_) (fun h49 => ?_)
            ·
              have h49' := of_decide_eq_true h49
              refine t_seq ?_
              refine t_region ?_
              refine r_op (o_loadAb rfl (n := 1) (by kernel_rfl) (by kernel_rfl) rfl rfl rfl) ?_
              refine r_op (o_storeb (n := 1) (by kernel_rfl) rfl rfl rfl rfl rfl rfl) ?_
              refine r_op (o_assign rfl rfl) ?_
              refine r_end ?_
              refine t_ret Try.func16 (.cells (n := 1) (by kernel_rfl) (by kernel_rfl) rfl rfl rfl (.tmp rfl .nil)) rfl fun E S w u hI hd => ?_
              refine post_mk hI hd ?_ ⟨eqR ?_, trivial⟩ rfl rfl rfl <;> clear hI hd <;> (try clear ih0)
              all_goals first | rfl | (clear ho ha hb; first | ((have UC : uniC l a b = 2 := by (first | exact uniC_bad (.inl (by assumption)) | exact uniC_bad (.inr (.inl (by first | assumption | exact memU_not (by omega)))) | exact uniC_bad (.inr (.inr (by first | assumption | exact memU_not (by omega)))) | exact uniC_same (by assumption) (by first | assumption | exact memU_of (by omega) (by omega)) (by first | assumption | exact memU_of (by omega) (by omega)) (by omega) | exact uniC_const (by assumption) (by first | assumption | exact memU_of (by omega) (by omega)) (by first | assumption | exact memU_of (by omega) (by omega)) (by omega) (by omega) | exact uniC_done (by assumption) (by first | assumption | exact memU_of (by omega) (by omega)) (by first | assumption | exact memU_of (by omega) (by omega)) (by omega) (by omega))); first | exact tupU UC | exact uniL_keep UC (by decide)) | ((have UC : uniC l a b = 0 := by (first | exact uniC_bad (.inl (by assumption)) | exact uniC_bad (.inr (.inl (by first | assumption | exact memU_not (by omega)))) | exact uniC_bad (.inr (.inr (by first | assumption | exact memU_not (by omega)))) | exact uniC_same (by assumption) (by first | assumption | exact memU_of (by omega) (by omega)) (by first | assumption | exact memU_of (by omega) (by omega)) (by omega) | exact uniC_const (by assumption) (by first | assumption | exact memU_of (by omega) (by omega)) (by first | assumption | exact memU_of (by omega) (by omega)) (by omega) (by omega) | exact uniC_done (by assumption) (by first | assumption | exact memU_of (by omega) (by omega)) (by first | assumption | exact memU_of (by omega) (by omega)) (by omega) (by omega))); first | exact tupU UC | exact uniL_keep UC (by decide)) | ((have UC : uniC l a b = 1 := by (first | exact uniC_bad (.inl (by assumption)) | exact uniC_bad (.inr (.inl (by first | assumption | exact memU_not (by omega)))) | exact uniC_bad (.inr (.inr (by first | assumption | exact memU_not (by omega)))) | exact uniC_same (by assumption) (by first | assumption | exact memU_of (by omega) (by omega)) (by first | assumption | exact memU_of (by omega) (by omega)) (by omega) | exact uniC_const (by assumption) (by first | assumption | exact memU_of (by omega) (by omega)) (by first | assumption | exact memU_of (by omega) (by omega)) (by omega) (by omega) | exact uniC_done (by assumption) (by first | assumption | exact memU_of (by omega) (by omega)) (by first | assumption | exact memU_of (by omega) (by omega)) (by omega) (by omega))); first | exact tupU UC | exact uniL_done UC (by omega)))
            ·
              have h49' := of_decide_eq_false h49
              refine t_skip ?_
              refine t_seq ?_
              refine t_seq ?_
              refine t_region ?_
              refine r_op (o_move rfl rfl) ?_
              refine r_op (o_bin rfl rfl rfl rfl) ?_
              refine r_op (o_move rfl rfl) ?_
              refine r_guard rfl rfl rfl (fun g50 => ?_) (fun g50 => ?_)
              ·
                have g50' := of_decide_eq_true g50
                refine r_op (o_move rfl rfl) ?_
                refine r_guard rfl rfl rfl (fun _ => ?_) (nc g50)
                refine r_op (o_bin rfl rfl rfl rfl) ?_
                refine r_op (o_pickT rfl rfl g50 rfl) ?_
                refine r_end ?_
                refine t_cond rfl (fun h51 => ?_) (fun h51 => ?_)
                ·
                  have h51' := of_decide_eq_true h51
                  refine t_seq ?_
                  refine t_region ?_
                  refine r_op (o_loadAb rfl (n := 1) (by kernel_rfl) (by kernel_rfl) rfl rfl rfl) ?_
                  refine r_op (o_storeb (n := 1) (by kernel_rfl) rfl rfl rfl rfl rfl rfl) ?_
                  refine r_op (o_assign rfl rfl) ?_
                  refine r_end ?_
                  refine t_ret Try.func16 (.cells (n := 1) (by kernel_rfl) (by kernel_rfl) rfl rfl rfl (.tmp rfl .nil)) rfl fun E S w u hI hd => ?_
                  refine post_mk hI hd ?_ ⟨eqR ?_, trivial⟩ rfl rfl rfl <;> clear hI hd <;> (try clear ih0)
                  all_goals first | rfl | (clear ho ha hb; first | ((have UC : uniC l a b = 2 := by (first | exact uniC_bad (.inl (by assumption)) | exact uniC_bad (.inr (.inl (by first | assumption | exact memU_not (by omega)))) | exact uniC_bad (.inr (.inr (by first | assumption | exact memU_not (by omega)))) | exact uniC_same (by assumption) (by first | assumption | exact memU_of (by omega) (by omega)) (by first | assumption | exact memU_of (by omega) (by omega)) (by omega) | exact uniC_const (by assumption) (by first | assumption | exact memU_of (by omega) (by omega)) (by first | assumption | exact memU_of (by omega) (by omega)) (by omega) (by omega) | exact uniC_done (by assumption) (by first | assumption | exact memU_of (by omega) (by omega)) (by first | assumption | exact memU_of (by omega) (by omega)) (by omega) (by omega))); first | exact tupU UC | exact uniL_keep UC (by decide)) | ((have UC : uniC l a b = 0 := by (first | exact uniC_bad (.inl (by assumption)) | exact uniC_bad (.inr (.inl (by first | assumption | exact memU_not (by omega)))) | exact uniC_bad (.inr (.inr (by first | assumption | exact memU_not (by omega)))) | exact uniC_same (by assumption) (by first | assumption | exact memU_of (by omega) (by omega)) (by first | assumption | exact memU_of (by omega) (by omega)) (by omega) | exact uniC_const (by assumption) (by first | assumption | exact memU_of (by omega) (by omega)) (by first | assumption | exact memU_of (by omega) (by omega)) (by omega) (by omega) | exact uniC_done (by assumption) (by first | assumption | exact memU_of (by omega) (by omega)) (by first | assumption | exact memU_of (by omega) (by omega)) (by omega) (by omega))); first | exact tupU UC | exact uniL_keep UC (by decide)) | ((have UC : uniC l a b = 1 := by (first | exact uniC_bad (.inl (by assumption)) | exact uniC_bad (.inr (.inl (by first | assumption | exact memU_not (by omega)))) | exact uniC_bad (.inr (.inr (by first | assumption | exact memU_not (by omega)))) | exact uniC_same (by assumption) (by first | assumption | exact memU_of (by omega) (by omega)) (by first | assumption | exact memU_of (by omega) (by omega)) (by omega) | exact uniC_const (by assumption) (by first | assumption | exact memU_of (by omega) (by omega)) (by first | assumption | exact memU_of (by omega) (by omega)) (by omega) (by omega) | exact uniC_done (by assumption) (by first | assumption | exact memU_of (by omega) (by omega)) (by first | assumption | exact memU_of (by omega) (by omega)) (by omega) (by omega))); first | exact tupU UC | exact uniL_done UC (by omega)))
                ·
                  have h51' := of_decide_eq_false h51
                  refine t_skip ?_
                  refine t_seq ?_
                  refine t_region ?_
                  refine r_op (o_move rfl rfl) ?_
                  refine r_op (o_move rfl rfl) ?_
                  refine r_op (o_max rfl rfl rfl) ?_
                  refine r_op (o_assign rfl rfl) ?_
                  refine r_end ?_
                  refine t_seq ?_
                  refine t_region ?_
                  refine r_op (o_move rfl rfl) ?_
                  refine r_op (o_move rfl rfl) ?_
                  refine r_op (o_min rfl rfl rfl) ?_
                  refine r_op (o_assign rfl rfl) ?_
                  refine r_end ?_
                  refine t_seq ?_
                  refine t_seq ?_
                  refine t_region ?_
                  refine r_op (o_assign rfl rfl) ?_
                  refine r_end ?_
                  refine t_block ?_
                  refine t_loopL (fun m => ⟨[(6, some (.c (.ptr 1 0))), (7, some (.c (.t none (.v (.int .i64 (0)))))), (8, some (.c (.ptr 3 0))), (15, some (.c (.t none (.v (.int .i64 (if (findU (l) (a)) < (findU (l) (b)) then (findU (l) (b)) else (findU (l) (a)))))))), (16, some (.c (.t none (.v (.int .i64 (if (findU (l) (b)) < (findU (l) (a)) then (findU (l) (b)) else (findU (l) (a)))))))), (17, some (.c (.t none (.v (.int .i64 ((m : Int)))))))], [(0, some (.box [.t none (.sl 1 encI (l))])), (1, some (.box [.t none (.v (.slice none 0 0))])), (2, some (.row none 3 true 1 encI ((l.take m).map (repU (findU l a) (findU l b)) ++ l.drop m))), (3, some (.box [.own 2]))], 4⟩ : Nat → St) (fun m => m ≤ l.length) (fun m => l.length - m) 0 ⟨⟨rfl, ⟨rfl, ⟨rfl, ⟨rfl, ⟨rfl, ⟨rfl, trivial⟩⟩⟩⟩⟩⟩, ⟨rfl, ⟨rfl, ⟨(eqR (by simp)), ⟨rfl, trivial⟩⟩⟩⟩, rfl⟩ (by exact Nat.zero_le _) ?_
                  rintro m hI ih0
                  try dsimp only at hI ih0
                  have i1 := hI; have hlen : ((l.take m).map (repU (findU l a) (findU l b)) ++ l.drop m).length = l.length := by (simp; omega)
                  refine t_seq ?_
                  refine t_seq ?_
                  refine t_region ?_
                  refine r_op (o_move rfl rfl) ?_
                  refine r_op (o_fieldb rfl (off := 0) (by kernel_rfl) rfl) ?_
                  refine r_op (o_load1b rfl (by kernel_rfl) rfl rfl rfl) ?_
                  refine r_op (o_leno rfl rfl rfl rfl) ?_
                  refine r_op (o_bin rfl rfl rfl rfl) ?_
                  refine r_end ?_
                  refine t_cond rfl (fun h52 => ?_) (fun h52 => ?_)
                  ·
                    have h52' := of_decide_eq_true h52
                    refine t_skip ?_
                    refine t_seq ?_
                    refine t_block ?_
                    refine t_seq ?_
                    refine t_region ?_
                    refine r_op (o_fieldb rfl (off := 0) (by kernel_rfl) rfl) ?_
                    refine r_op (o_load1b rfl (by kernel_rfl) rfl rfl rfl) ?_
                    refine r_op (o_move rfl rfl) ?_
                    obtain ⟨z53, hz54, b55⟩ := at_get (xs := (l.take m).map (repU (findU l a) (findU l b)) ++ l.drop m) (n := (m : Int)) (by first | omega | assumption | (simp; omega)) (by first | omega | assumption | (simp; omega))
                    refine r_op (o_indexo rfl (by kernel_rfl) rfl rfl rfl b55 (at_lt b55 hz54)) ?_
                    refine r_op (o_load1o rfl (by kernel_rfl) rfl rfl rfl hz54) ?_
                    refine r_op (o_move rfl rfl) ?_
                    refine r_op (o_bin rfl rfl rfl rfl) ?_
                    refine r_end ?_
                    refine t_cond rfl (fun h56 => ?_) (fun h56 => ?_)
                    ·
                      have h56' := of_decide_eq_true h56
                      refine t_region ?_
                      refine r_op (o_fieldb rfl (off := 0) (by kernel_rfl) rfl) ?_
                      refine r_op (o_load1b rfl (by kernel_rfl) rfl rfl rfl) ?_
                      refine r_op (o_move rfl rfl) ?_
                      refine r_op (o_move rfl rfl) ?_
                      refine r_op (o_indexo rfl (by kernel_rfl) rfl rfl rfl b55 (at_lt b55 hz54)) ?_
                      refine r_op (o_storeo (if (findU (l) (a)) < (findU (l) (b)) then (findU (l) (b)) else (findU (l) (a))) (n := 1) (by kernel_rfl) rfl rfl hz54 rfl rfl rfl rfl (.cons .sc .nil) rfl (fun j h1 h2 => by simp at h1 h2; omega)) ?_
                      refine r_end ?_
                      refine t_endblock ?_
                      refine t_region ?_
                      refine r_op (o_move rfl rfl) ?_
                      refine r_op (o_bin rfl rfl rfl rfl) ?_
                      refine r_op (o_assign rfl rfl) ?_
                      refine r_end ?_
                      refine t_le ?_ (ih0 (m + 1) (by (try dsimp only); omega) (by (try dsimp only); omega))
                      exact ⟨⟨rfl, ⟨rfl, ⟨rfl, ⟨rfl, ⟨rfl, ⟨(eqI (wr64 (by omega) (by omega))), trivial⟩⟩⟩⟩⟩⟩, ⟨rfl, ⟨rfl, ⟨(eqR (by have ma := map_at (l := l) (m := m) hz54 i1; first | exact map_set (f := repU (findU l a) (findU l b)) ma (repU_hit (by assumption)) | exact map_skip (f := repU (findU l a) (findU l b)) ma (repU_miss (by assumption)))), ⟨rfl, trivial⟩⟩⟩⟩, rfl⟩
                    ·
                      have h56' := of_decide_eq_false h56
                      refine t_skip ?_
                      refine t_endblock ?_
                      refine t_region ?_
                      refine r_op (o_move rfl rfl) ?_
                      refine r_op (o_bin rfl rfl rfl rfl) ?_
                      refine r_op (o_assign rfl rfl) ?_
                      refine r_end ?_
                      refine t_le ?_ (ih0 (m + 1) (by (try dsimp only); omega) (by (try dsimp only); omega))
                      exact ⟨⟨rfl, ⟨rfl, ⟨rfl, ⟨rfl, ⟨rfl, ⟨(eqI (wr64 (by omega) (by omega))), trivial⟩⟩⟩⟩⟩⟩, ⟨rfl, ⟨rfl, ⟨(eqR (by have ma := map_at (l := l) (m := m) hz54 i1; first | exact map_set (f := repU (findU l a) (findU l b)) ma (repU_hit (by assumption)) | exact map_skip (f := repU (findU l a) (findU l b)) ma (repU_miss (by assumption)))), ⟨rfl, trivial⟩⟩⟩⟩, rfl⟩
                  ·
                    have h52' := of_decide_eq_false h52
                    refine t_exit rfl ?_
                    refine t_seq ?_
                    refine t_region ?_
                    refine r_op (o_loadAb rfl (n := 1) (by kernel_rfl) (by kernel_rfl) rfl rfl rfl) ?_
                    refine r_op (o_storeb (n := 1) (by kernel_rfl) rfl rfl rfl rfl rfl rfl) ?_
                    refine r_op (o_assign rfl rfl) ?_
                    refine r_end ?_
                    refine t_ret Try.func16 (.cells (n := 1) (by kernel_rfl) (by kernel_rfl) rfl rfl rfl (.tmp rfl .nil)) rfl fun E S w u hI hd => ?_
                    refine post_mk hI hd ?_ ⟨eqR ?_, trivial⟩ rfl rfl rfl <;> clear hI hd <;> (try clear ih0)
                    all_goals first | rfl | (clear ho ha hb; first | ((have UC : uniC l a b = 2 := by (first | exact uniC_bad (.inl (by assumption)) | exact uniC_bad (.inr (.inl (by first | assumption | exact memU_not (by omega)))) | exact uniC_bad (.inr (.inr (by first | assumption | exact memU_not (by omega)))) | exact uniC_same (by assumption) (by first | assumption | exact memU_of (by omega) (by omega)) (by first | assumption | exact memU_of (by omega) (by omega)) (by omega) | exact uniC_const (by assumption) (by first | assumption | exact memU_of (by omega) (by omega)) (by first | assumption | exact memU_of (by omega) (by omega)) (by omega) (by omega) | exact uniC_done (by assumption) (by first | assumption | exact memU_of (by omega) (by omega)) (by first | assumption | exact memU_of (by omega) (by omega)) (by omega) (by omega))); first | exact tupU UC | exact uniL_keep UC (by decide)) | ((have UC : uniC l a b = 0 := by (first | exact uniC_bad (.inl (by assumption)) | exact uniC_bad (.inr (.inl (by first | assumption | exact memU_not (by omega)))) | exact uniC_bad (.inr (.inr (by first | assumption | exact memU_not (by omega)))) | exact uniC_same (by assumption) (by first | assumption | exact memU_of (by omega) (by omega)) (by first | assumption | exact memU_of (by omega) (by omega)) (by omega) | exact uniC_const (by assumption) (by first | assumption | exact memU_of (by omega) (by omega)) (by first | assumption | exact memU_of (by omega) (by omega)) (by omega) (by omega) | exact uniC_done (by assumption) (by first | assumption | exact memU_of (by omega) (by omega)) (by first | assumption | exact memU_of (by omega) (by omega)) (by omega) (by omega))); first | exact tupU UC | exact uniL_keep UC (by decide)) | ((have UC : uniC l a b = 1 := by (first | exact uniC_bad (.inl (by assumption)) | exact uniC_bad (.inr (.inl (by first | assumption | exact memU_not (by omega)))) | exact uniC_bad (.inr (.inr (by first | assumption | exact memU_not (by omega)))) | exact uniC_same (by assumption) (by first | assumption | exact memU_of (by omega) (by omega)) (by first | assumption | exact memU_of (by omega) (by omega)) (by omega) | exact uniC_const (by assumption) (by first | assumption | exact memU_of (by omega) (by omega)) (by first | assumption | exact memU_of (by omega) (by omega)) (by omega) (by omega) | exact uniC_done (by assumption) (by first | assumption | exact memU_of (by omega) (by omega)) (by first | assumption | exact memU_of (by omega) (by omega)) (by omega) (by omega))); first | exact tupU UC | exact uniL_done UC (by omega)))
              ·
                have g50' := of_decide_eq_false g50
                refine r_guard rfl rfl rfl (ncf g50) (fun _ => ?_)
                refine r_op (o_pickF rfl rfl g50 rfl) ?_
                refine r_end ?_
                refine t_cond rfl (ncf rfl) (fun _ => ?_)
                refine t_skip ?_
                refine t_seq ?_
                refine t_region ?_
                refine r_op (o_move rfl rfl) ?_
                refine r_op (o_move rfl rfl) ?_
                refine r_op (o_max rfl rfl rfl) ?_
                refine r_op (o_assign rfl rfl) ?_
                refine r_end ?_
                refine t_seq ?_
                refine t_region ?_
                refine r_op (o_move rfl rfl) ?_
                refine r_op (o_move rfl rfl) ?_
                refine r_op (o_min rfl rfl rfl) ?_
                refine r_op (o_assign rfl rfl) ?_
                refine r_end ?_
                refine t_seq ?_
                refine t_seq ?_
                refine t_region ?_
                refine r_op (o_assign rfl rfl) ?_
                refine r_end ?_
                refine t_block ?_
                refine t_loopL (fun m => ⟨[(6, some (.c (.ptr 1 0))), (7, some (.c (.t none (.v (.int .i64 (0)))))), (8, some (.c (.ptr 3 0))), (15, some (.c (.t none (.v (.int .i64 (if (findU (l) (a)) < (findU (l) (b)) then (findU (l) (b)) else (findU (l) (a)))))))), (16, some (.c (.t none (.v (.int .i64 (if (findU (l) (b)) < (findU (l) (a)) then (findU (l) (b)) else (findU (l) (a)))))))), (17, some (.c (.t none (.v (.int .i64 ((m : Int)))))))], [(0, some (.box [.t none (.sl 1 encI (l))])), (1, some (.box [.t none (.v (.slice none 0 0))])), (2, some (.row none 3 true 1 encI ((l.take m).map (repU (findU l a) (findU l b)) ++ l.drop m))), (3, some (.box [.own 2]))], 4⟩ : Nat → St) (fun m => m ≤ l.length) (fun m => l.length - m) 0 ⟨⟨rfl, ⟨rfl, ⟨rfl, ⟨rfl, ⟨rfl, ⟨rfl, trivial⟩⟩⟩⟩⟩⟩, ⟨rfl, ⟨rfl, ⟨(eqR (by simp)), ⟨rfl, trivial⟩⟩⟩⟩, rfl⟩ (by exact Nat.zero_le _) ?_
                rintro m hI ih0
                try dsimp only at hI ih0
                have i1 := hI; have hlen : ((l.take m).map (repU (findU l a) (findU l b)) ++ l.drop m).length = l.length := by (simp; omega)
                refine t_seq ?_
                refine t_seq ?_
                refine t_region ?_
                refine r_op (o_move rfl rfl) ?_
                refine r_op (o_fieldb rfl (off := 0) (by kernel_rfl) rfl) ?_
                refine r_op (o_load1b rfl (by kernel_rfl) rfl rfl rfl) ?_
                refine r_op (o_leno rfl rfl rfl rfl) ?_
                refine r_op (o_bin rfl rfl rfl rfl) ?_
                refine r_end ?_
                refine t_cond rfl (fun h57 => ?_) (fun h57 => ?_)
                ·
                  have h57' := of_decide_eq_true h57
                  refine t_skip ?_
                  refine t_seq ?_
                  refine t_block ?_
                  refine t_seq ?_
                  refine t_region ?_
                  refine r_op (o_fieldb rfl (off := 0) (by kernel_rfl) rfl) ?_
                  refine r_op (o_load1b rfl (by kernel_rfl) rfl rfl rfl) ?_
                  refine r_op (o_move rfl rfl) ?_
                  obtain ⟨z58, hz59, b60⟩ := at_get (xs := (l.take m).map (repU (findU l a) (findU l b)) ++ l.drop m) (n := (m : Int)) (by first | omega | assumption | (simp; omega)) (by first | omega | assumption | (simp; omega))
                  refine r_op (o_indexo rfl (by kernel_rfl) rfl rfl rfl b60 (at_lt b60 hz59)) ?_
                  refine r_op (o_load1o rfl (by kernel_rfl) rfl rfl rfl hz59) ?_
                  refine r_op (o_move rfl rfl) ?_
                  refine r_op (o_bin rfl rfl rfl rfl) ?_
                  refine r_end ?_
                  refine t_cond rfl (fun h61 => ?_) (fun h61 => ?_)
                  ·
                    have h61' := of_decide_eq_true h61
                    refine t_region ?_
                    refine r_op (o_fieldb rfl (off := 0) (by kernel_rfl) rfl) ?_
                    refine r_op (o_load1b rfl (by kernel_rfl) rfl rfl rfl) ?_
                    refine r_op (o_move rfl rfl) ?_
                    refine r_op (o_move rfl rfl) ?_
                    refine r_op (o_indexo rfl (by kernel_rfl) rfl rfl rfl b60 (at_lt b60 hz59)) ?_
                    refine r_op (o_storeo (if (findU (l) (a)) < (findU (l) (b)) then (findU (l) (b)) else (findU (l) (a))) (n := 1) (by kernel_rfl) rfl rfl hz59 rfl rfl rfl rfl (.cons .sc .nil) rfl (fun j h1 h2 => by simp at h1 h2; omega)) ?_
                    refine r_end ?_
                    refine t_endblock ?_
                    refine t_region ?_
                    refine r_op (o_move rfl rfl) ?_
                    refine r_op (o_bin rfl rfl rfl rfl) ?_
                    refine r_op (o_assign rfl rfl) ?_
                    refine r_end ?_
                    refine t_le ?_ (ih0 (m + 1) (by (try dsimp only); omega) (by (try dsimp only); omega))
                    exact ⟨⟨rfl, ⟨rfl, ⟨rfl, ⟨rfl, ⟨rfl, ⟨(eqI (wr64 (by omega) (by omega))), trivial⟩⟩⟩⟩⟩⟩, ⟨rfl, ⟨rfl, ⟨(eqR (by have ma := map_at (l := l) (m := m) hz59 i1; first | exact map_set (f := repU (findU l a) (findU l b)) ma (repU_hit (by assumption)) | exact map_skip (f := repU (findU l a) (findU l b)) ma (repU_miss (by assumption)))), ⟨rfl, trivial⟩⟩⟩⟩, rfl⟩
                  ·
                    have h61' := of_decide_eq_false h61
                    refine t_skip ?_
                    refine t_endblock ?_
                    refine t_region ?_
                    refine r_op (o_move rfl rfl) ?_
                    refine r_op (o_bin rfl rfl rfl rfl) ?_
                    refine r_op (o_assign rfl rfl) ?_
                    refine r_end ?_
                    refine t_le ?_ (ih0 (m + 1) (by (try dsimp only); omega) (by (try dsimp only); omega))
                    exact ⟨⟨rfl, ⟨rfl, ⟨rfl, ⟨rfl, ⟨rfl, ⟨(eqI (wr64 (by omega) (by omega))), trivial⟩⟩⟩⟩⟩⟩, ⟨rfl, ⟨rfl, ⟨(eqR (by have ma := map_at (l := l) (m := m) hz59 i1; first | exact map_set (f := repU (findU l a) (findU l b)) ma (repU_hit (by assumption)) | exact map_skip (f := repU (findU l a) (findU l b)) ma (repU_miss (by assumption)))), ⟨rfl, trivial⟩⟩⟩⟩, rfl⟩
                ·
                  have h57' := of_decide_eq_false h57
                  refine t_exit rfl ?_
                  refine t_seq ?_
                  refine t_region ?_
                  refine r_op (o_loadAb rfl (n := 1) (by kernel_rfl) (by kernel_rfl) rfl rfl rfl) ?_
                  refine r_op (o_storeb (n := 1) (by kernel_rfl) rfl rfl rfl rfl rfl rfl) ?_
                  refine r_op (o_assign rfl rfl) ?_
                  refine r_end ?_
                  refine t_ret Try.func16 (.cells (n := 1) (by kernel_rfl) (by kernel_rfl) rfl rfl rfl (.tmp rfl .nil)) rfl fun E S w u hI hd => ?_
                  refine post_mk hI hd ?_ ⟨eqR ?_, trivial⟩ rfl rfl rfl <;> clear hI hd <;> (try clear ih0)
                  all_goals first | rfl | (clear ho ha hb; first | ((have UC : uniC l a b = 2 := by (first | exact uniC_bad (.inl (by assumption)) | exact uniC_bad (.inr (.inl (by first | assumption | exact memU_not (by omega)))) | exact uniC_bad (.inr (.inr (by first | assumption | exact memU_not (by omega)))) | exact uniC_same (by assumption) (by first | assumption | exact memU_of (by omega) (by omega)) (by first | assumption | exact memU_of (by omega) (by omega)) (by omega) | exact uniC_const (by assumption) (by first | assumption | exact memU_of (by omega) (by omega)) (by first | assumption | exact memU_of (by omega) (by omega)) (by omega) (by omega) | exact uniC_done (by assumption) (by first | assumption | exact memU_of (by omega) (by omega)) (by first | assumption | exact memU_of (by omega) (by omega)) (by omega) (by omega))); first | exact tupU UC | exact uniL_keep UC (by decide)) | ((have UC : uniC l a b = 0 := by (first | exact uniC_bad (.inl (by assumption)) | exact uniC_bad (.inr (.inl (by first | assumption | exact memU_not (by omega)))) | exact uniC_bad (.inr (.inr (by first | assumption | exact memU_not (by omega)))) | exact uniC_same (by assumption) (by first | assumption | exact memU_of (by omega) (by omega)) (by first | assumption | exact memU_of (by omega) (by omega)) (by omega) | exact uniC_const (by assumption) (by first | assumption | exact memU_of (by omega) (by omega)) (by first | assumption | exact memU_of (by omega) (by omega)) (by omega) (by omega) | exact uniC_done (by assumption) (by first | assumption | exact memU_of (by omega) (by omega)) (by first | assumption | exact memU_of (by omega) (by omega)) (by omega) (by omega))); first | exact tupU UC | exact uniL_keep UC (by decide)) | ((have UC : uniC l a b = 1 := by (first | exact uniC_bad (.inl (by assumption)) | exact uniC_bad (.inr (.inl (by first | assumption | exact memU_not (by omega)))) | exact uniC_bad (.inr (.inr (by first | assumption | exact memU_not (by omega)))) | exact uniC_same (by assumption) (by first | assumption | exact memU_of (by omega) (by omega)) (by first | assumption | exact memU_of (by omega) (by omega)) (by omega) | exact uniC_const (by assumption) (by first | assumption | exact memU_of (by omega) (by omega)) (by first | assumption | exact memU_of (by omega) (by omega)) (by omega) (by omega) | exact uniC_done (by assumption) (by first | assumption | exact memU_of (by omega) (by omega)) (by first | assumption | exact memU_of (by omega) (by omega)) (by omega) (by omega))); first | exact tupU UC | exact uniL_done UC (by omega)))
      ·
        have g3' := of_decide_eq_false (bnt g3)
        refine r_guard rfl rfl rfl (nc g3) (fun _ => ?_)
        refine r_skip rfl rfl rfl ?_
        refine r_skip rfl rfl rfl ?_
        refine r_skip rfl rfl rfl ?_
        refine r_skip rfl rfl rfl ?_
        refine r_skip rfl rfl rfl ?_
        refine r_guard rfl rfl rfl (nc g3) (fun _ => ?_)
        refine r_op (o_pickT rfl rfl g3 rfl) ?_
        refine r_op (o_move rfl rfl) ?_
        refine r_guard rfl rfl rfl (nc rfl) (fun _ => ?_)
        refine r_guard rfl rfl rfl (nc rfl) (fun _ => ?_)
        refine r_skip rfl rfl rfl ?_
        refine r_skip rfl rfl rfl ?_
        refine r_skip rfl rfl rfl ?_
        refine r_skip rfl rfl rfl ?_
        refine r_skip rfl rfl rfl ?_
        refine r_guard rfl rfl rfl (nc rfl) (fun _ => ?_)
        refine r_op (o_pickT rfl rfl rfl rfl) ?_
        refine r_end ?_
        refine t_cond rfl (fun _ => ?_) (nc rfl)
        refine t_seq ?_
        refine t_region ?_
        refine r_op (o_loadAb rfl (n := 1) (by kernel_rfl) (by kernel_rfl) rfl rfl rfl) ?_
        refine r_op (o_storeb (n := 1) (by kernel_rfl) rfl rfl rfl rfl rfl rfl) ?_
        refine r_op (o_assign rfl rfl) ?_
        refine r_end ?_
        refine t_ret Try.func16 (.cells (n := 1) (by kernel_rfl) (by kernel_rfl) rfl rfl rfl (.tmp rfl .nil)) rfl fun E S w u hI hd => ?_
        refine post_mk hI hd ?_ ⟨eqR ?_, trivial⟩ rfl rfl rfl <;> clear hI hd <;> (try clear ih0)
        all_goals first | rfl | (clear ho ha hb; first | ((have UC : uniC l a b = 2 := by (first | exact uniC_bad (.inl (by assumption)) | exact uniC_bad (.inr (.inl (by first | assumption | exact memU_not (by omega)))) | exact uniC_bad (.inr (.inr (by first | assumption | exact memU_not (by omega)))) | exact uniC_same (by assumption) (by first | assumption | exact memU_of (by omega) (by omega)) (by first | assumption | exact memU_of (by omega) (by omega)) (by omega) | exact uniC_const (by assumption) (by first | assumption | exact memU_of (by omega) (by omega)) (by first | assumption | exact memU_of (by omega) (by omega)) (by omega) (by omega) | exact uniC_done (by assumption) (by first | assumption | exact memU_of (by omega) (by omega)) (by first | assumption | exact memU_of (by omega) (by omega)) (by omega) (by omega))); first | exact tupU UC | exact uniL_keep UC (by decide)) | ((have UC : uniC l a b = 0 := by (first | exact uniC_bad (.inl (by assumption)) | exact uniC_bad (.inr (.inl (by first | assumption | exact memU_not (by omega)))) | exact uniC_bad (.inr (.inr (by first | assumption | exact memU_not (by omega)))) | exact uniC_same (by assumption) (by first | assumption | exact memU_of (by omega) (by omega)) (by first | assumption | exact memU_of (by omega) (by omega)) (by omega) | exact uniC_const (by assumption) (by first | assumption | exact memU_of (by omega) (by omega)) (by first | assumption | exact memU_of (by omega) (by omega)) (by omega) (by omega) | exact uniC_done (by assumption) (by first | assumption | exact memU_of (by omega) (by omega)) (by first | assumption | exact memU_of (by omega) (by omega)) (by omega) (by omega))); first | exact tupU UC | exact uniL_keep UC (by decide)) | ((have UC : uniC l a b = 1 := by (first | exact uniC_bad (.inl (by assumption)) | exact uniC_bad (.inr (.inl (by first | assumption | exact memU_not (by omega)))) | exact uniC_bad (.inr (.inr (by first | assumption | exact memU_not (by omega)))) | exact uniC_same (by assumption) (by first | assumption | exact memU_of (by omega) (by omega)) (by first | assumption | exact memU_of (by omega) (by omega)) (by omega) | exact uniC_const (by assumption) (by first | assumption | exact memU_of (by omega) (by omega)) (by first | assumption | exact memU_of (by omega) (by omega)) (by omega) (by omega) | exact uniC_done (by assumption) (by first | assumption | exact memU_of (by omega) (by omega)) (by first | assumption | exact memU_of (by omega) (by omega)) (by omega) (by omega))); first | exact tupU UC | exact uniL_done UC (by omega)))
    ·
      have g2' := of_decide_eq_false (bnt g2)
      refine r_guard rfl rfl rfl (nc g2) (fun _ => ?_)
      refine r_guard rfl rfl rfl (nc g2) (fun _ => ?_)
      refine r_op (o_pickT rfl rfl g2 rfl) ?_
      refine r_op (o_move rfl rfl) ?_
      refine r_guard rfl rfl rfl (nc rfl) (fun _ => ?_)
      refine r_guard rfl rfl rfl (nc rfl) (fun _ => ?_)
      refine r_skip rfl rfl rfl ?_
      refine r_skip rfl rfl rfl ?_
      refine r_skip rfl rfl rfl ?_
      refine r_skip rfl rfl rfl ?_
      refine r_skip rfl rfl rfl ?_
      refine r_guard rfl rfl rfl (nc rfl) (fun _ => ?_)
      refine r_op (o_pickT rfl rfl rfl rfl) ?_
      refine r_op (o_move rfl rfl) ?_
      refine r_guard rfl rfl rfl (nc rfl) (fun _ => ?_)
      refine r_guard rfl rfl rfl (nc rfl) (fun _ => ?_)
      refine r_skip rfl rfl rfl ?_
      refine r_skip rfl rfl rfl ?_
      refine r_skip rfl rfl rfl ?_
      refine r_skip rfl rfl rfl ?_
      refine r_skip rfl rfl rfl ?_
      refine r_guard rfl rfl rfl (nc rfl) (fun _ => ?_)
      refine r_op (o_pickT rfl rfl rfl rfl) ?_
      refine r_end ?_
      refine t_cond rfl (fun _ => ?_) (nc rfl)
      refine t_seq ?_
      refine t_region ?_
      refine r_op (o_loadAb rfl (n := 1) (by kernel_rfl) (by kernel_rfl) rfl rfl rfl) ?_
      refine r_op (o_storeb (n := 1) (by kernel_rfl) rfl rfl rfl rfl rfl rfl) ?_
      refine r_op (o_assign rfl rfl) ?_
      refine r_end ?_
      refine t_ret Try.func16 (.cells (n := 1) (by kernel_rfl) (by kernel_rfl) rfl rfl rfl (.tmp rfl .nil)) rfl fun E S w u hI hd => ?_
      refine post_mk hI hd ?_ ⟨eqR ?_, trivial⟩ rfl rfl rfl <;> clear hI hd <;> (try clear ih0)
      all_goals first | rfl | (clear ho ha hb; first | ((have UC : uniC l a b = 2 := by (first | exact uniC_bad (.inl (by assumption)) | exact uniC_bad (.inr (.inl (by first | assumption | exact memU_not (by omega)))) | exact uniC_bad (.inr (.inr (by first | assumption | exact memU_not (by omega)))) | exact uniC_same (by assumption) (by first | assumption | exact memU_of (by omega) (by omega)) (by first | assumption | exact memU_of (by omega) (by omega)) (by omega) | exact uniC_const (by assumption) (by first | assumption | exact memU_of (by omega) (by omega)) (by first | assumption | exact memU_of (by omega) (by omega)) (by omega) (by omega) | exact uniC_done (by assumption) (by first | assumption | exact memU_of (by omega) (by omega)) (by first | assumption | exact memU_of (by omega) (by omega)) (by omega) (by omega))); first | exact tupU UC | exact uniL_keep UC (by decide)) | ((have UC : uniC l a b = 0 := by (first | exact uniC_bad (.inl (by assumption)) | exact uniC_bad (.inr (.inl (by first | assumption | exact memU_not (by omega)))) | exact uniC_bad (.inr (.inr (by first | assumption | exact memU_not (by omega)))) | exact uniC_same (by assumption) (by first | assumption | exact memU_of (by omega) (by omega)) (by first | assumption | exact memU_of (by omega) (by omega)) (by omega) | exact uniC_const (by assumption) (by first | assumption | exact memU_of (by omega) (by omega)) (by first | assumption | exact memU_of (by omega) (by omega)) (by omega) (by omega) | exact uniC_done (by assumption) (by first | assumption | exact memU_of (by omega) (by omega)) (by first | assumption | exact memU_of (by omega) (by omega)) (by omega) (by omega))); first | exact tupU UC | exact uniL_keep UC (by decide)) | ((have UC : uniC l a b = 1 := by (first | exact uniC_bad (.inl (by assumption)) | exact uniC_bad (.inr (.inl (by first | assumption | exact memU_not (by omega)))) | exact uniC_bad (.inr (.inr (by first | assumption | exact memU_not (by omega)))) | exact uniC_same (by assumption) (by first | assumption | exact memU_of (by omega) (by omega)) (by first | assumption | exact memU_of (by omega) (by omega)) (by omega) | exact uniC_const (by assumption) (by first | assumption | exact memU_of (by omega) (by omega)) (by first | assumption | exact memU_of (by omega) (by omega)) (by omega) (by omega) | exact uniC_done (by assumption) (by first | assumption | exact memU_of (by omega) (by omega)) (by first | assumption | exact memU_of (by omega) (by omega)) (by omega) (by omega))); first | exact tupU UC | exact uniL_done UC (by omega)))
  ·
    have g1' := (bnt g1)
    refine r_guard rfl rfl rfl (nc g1) (fun _ => ?_)
    refine r_guard rfl rfl rfl (nc g1) (fun _ => ?_)
    refine r_op (o_pickT rfl rfl g1 rfl) ?_
    refine r_op (o_move rfl rfl) ?_
    refine r_guard rfl rfl rfl (nc rfl) (fun _ => ?_)
    refine r_guard rfl rfl rfl (nc rfl) (fun _ => ?_)
    refine r_guard rfl rfl rfl (nc rfl) (fun _ => ?_)
    refine r_op (o_pickT rfl rfl rfl rfl) ?_
    refine r_op (o_move rfl rfl) ?_
    refine r_guard rfl rfl rfl (nc rfl) (fun _ => ?_)
    refine r_guard rfl rfl rfl (nc rfl) (fun _ => ?_)
    refine r_skip rfl rfl rfl ?_
    refine r_skip rfl rfl rfl ?_
    refine r_skip rfl rfl rfl ?_
    refine r_skip rfl rfl rfl ?_
    refine r_skip rfl rfl rfl ?_
    refine r_guard rfl rfl rfl (nc rfl) (fun _ => ?_)
    refine r_op (o_pickT rfl rfl rfl rfl) ?_
    refine r_op (o_move rfl rfl) ?_
    refine r_guard rfl rfl rfl (nc rfl) (fun _ => ?_)
    refine r_guard rfl rfl rfl (nc rfl) (fun _ => ?_)
    refine r_skip rfl rfl rfl ?_
    refine r_skip rfl rfl rfl ?_
    refine r_skip rfl rfl rfl ?_
    refine r_skip rfl rfl rfl ?_
    refine r_skip rfl rfl rfl ?_
    refine r_guard rfl rfl rfl (nc rfl) (fun _ => ?_)
    refine r_op (o_pickT rfl rfl rfl rfl) ?_
    refine r_end ?_
    refine t_cond rfl (fun _ => ?_) (nc rfl)
    refine t_seq ?_
    refine t_region ?_
    refine r_op (o_loadAb rfl (n := 1) (by kernel_rfl) (by kernel_rfl) rfl rfl rfl) ?_
    refine r_op (o_storeb (n := 1) (by kernel_rfl) rfl rfl rfl rfl rfl rfl) ?_
    refine r_op (o_assign rfl rfl) ?_
    refine r_end ?_
    refine t_ret Try.func16 (.cells (n := 1) (by kernel_rfl) (by kernel_rfl) rfl rfl rfl (.tmp rfl .nil)) rfl fun E S w u hI hd => ?_
    refine post_mk hI hd ?_ ⟨eqR ?_, trivial⟩ rfl rfl rfl <;> clear hI hd <;> (try clear ih0)
    all_goals first | rfl | (clear ho ha hb; first | ((have UC : uniC l a b = 2 := by (first | exact uniC_bad (.inl (by assumption)) | exact uniC_bad (.inr (.inl (by first | assumption | exact memU_not (by omega)))) | exact uniC_bad (.inr (.inr (by first | assumption | exact memU_not (by omega)))) | exact uniC_same (by assumption) (by first | assumption | exact memU_of (by omega) (by omega)) (by first | assumption | exact memU_of (by omega) (by omega)) (by omega) | exact uniC_const (by assumption) (by first | assumption | exact memU_of (by omega) (by omega)) (by first | assumption | exact memU_of (by omega) (by omega)) (by omega) (by omega) | exact uniC_done (by assumption) (by first | assumption | exact memU_of (by omega) (by omega)) (by first | assumption | exact memU_of (by omega) (by omega)) (by omega) (by omega))); first | exact tupU UC | exact uniL_keep UC (by decide)) | ((have UC : uniC l a b = 0 := by (first | exact uniC_bad (.inl (by assumption)) | exact uniC_bad (.inr (.inl (by first | assumption | exact memU_not (by omega)))) | exact uniC_bad (.inr (.inr (by first | assumption | exact memU_not (by omega)))) | exact uniC_same (by assumption) (by first | assumption | exact memU_of (by omega) (by omega)) (by first | assumption | exact memU_of (by omega) (by omega)) (by omega) | exact uniC_const (by assumption) (by first | assumption | exact memU_of (by omega) (by omega)) (by first | assumption | exact memU_of (by omega) (by omega)) (by omega) (by omega) | exact uniC_done (by assumption) (by first | assumption | exact memU_of (by omega) (by omega)) (by first | assumption | exact memU_of (by omega) (by omega)) (by omega) (by omega))); first | exact tupU UC | exact uniL_keep UC (by decide)) | ((have UC : uniC l a b = 1 := by (first | exact uniC_bad (.inl (by assumption)) | exact uniC_bad (.inr (.inl (by first | assumption | exact memU_not (by omega)))) | exact uniC_bad (.inr (.inr (by first | assumption | exact memU_not (by omega)))) | exact uniC_same (by assumption) (by first | assumption | exact memU_of (by omega) (by omega)) (by first | assumption | exact memU_of (by omega) (by omega)) (by omega) | exact uniC_const (by assumption) (by first | assumption | exact memU_of (by omega) (by omega)) (by first | assumption | exact memU_of (by omega) (by omega)) (by omega) (by omega) | exact uniC_done (by assumption) (by first | assumption | exact memU_of (by omega) (by omega)) (by first | assumption | exact memU_of (by omega) (by omega)) (by omega) (by omega))); first | exact tupU UC | exact uniL_done UC (by omega)))
set_option maxHeartbeats 1000000 in
set_option maxRecDepth 10000 in
theorem c_spec_l1PickInt (code : List Int) (i h : Int) (l : List Int) (hc : code.length ≤ 1048576) (hi0 : 0 ≤ i) (hi1 : i ≤ code.length) (hl : 1 ≤ l.length) (hl2 : l.length ≤ 256) : MuG Try.prog 45 [.c (.ptr 0 0), .c (.t none (.sl 1 encI (l)))] [.t none (.sl 1 encU (code)), .t none (.v (.int .i64 (i))), .t none (.v (.int .i64 (h)))] (fun (⟨x, i2, h2⟩ : Int × Int × Int) => x ∈ l ∧ 0 ≤ i2 ∧ i2 ≤ code.length) (fun (⟨x, i2, h2⟩ : Int × Int × Int) => [.t none (.sl 1 encU (code)), .t none (.v (.int .i64 (i2))), .t none (.v (.int .i64 (h2)))]) (fun (⟨x, i2, h2⟩ : Int × Int × Int) => []) 1 (fun (⟨x, i2, h2⟩ : Int × Int × Int) => .c (.t none (.v (.int .i64 (x))))) := by
  refine mu_enterG Try.func45 rfl (Nat.le_of_ble_eq_true rfl) fun v0 w S M hM => ?_
  refine t_seq ?_
  refine t_region ?_
  refine r_op (o_assign rfl rfl) ?_
  refine r_end ?_
  refine t_seq ?_
  refine t_region ?_
  refine r_op (o_move rfl rfl) ?_
  refine r_op (o_move rfl rfl) ?_
  refine r_op (o_move rfl rfl) ?_
  refine r_op (o_len rfl rfl rfl) ?_
  refine r_opX (o_callGM 0 1 2 (pv := some (v0)) (Go.Proofs.enters_of Try.func42 (by kernel_rfl) rfl) (c_spec_l1Below (code) (i) (h) (((l).length : Int)) (by first | omega | assumption) (by first | omega | assumption) (by first | omega | assumption) (by first | omega | assumption) (by first | omega | assumption)) rfl rfl (.cur rfl (.cons rfl .nil)) rfl (fun ⟨_, _, _⟩ => rfl) (fun _ => rfl) (fun ⟨_, _, _⟩ => rfl) rfl rfl) ?_
  rintro ⟨⟨x1, i22, h23⟩, hq4⟩
  try dsimp only at hq4
  try dsimp only
  obtain ⟨q5, q6⟩ := hq4
  obtain ⟨z7, hz8, b9⟩ := at_get (xs := l) (n := (x1)) (by first | omega | assumption) (by first | omega | assumption)
  refine r_op (o_index rfl (by kernel_rfl) rfl rfl b9 hz8) ?_
  refine r_op (o_load1 rfl (by kernel_rfl) rfl rfl) ?_
  refine r_op (o_assign rfl rfl) ?_
  refine r_end ?_
  refine t_ret Try.func45 (.tmp rfl .nil) rfl fun E S w u hI hd => ?_
  refine post_mkG (⟨z7, (i22), (h23)⟩) ?_ hI hd ?_ ⟨rfl, trivial⟩ rfl rfl <;> clear hI hd
  · (try dsimp only) <;> (exact ⟨List.mem_of_getElem? (by assumption), by omega⟩)
  · rfl
end Go.Eng
