/- What the functions that FnDependencyListFormat reaches answer. -/
import Derived.Test.YthcggkagkihamaaGreatDoorEngZJ
import Derived.Test.YthcggkagkihamaaGreatDoorChecked
set_option linter.unusedVariables false
set_option linter.unusedSimpArgs false
namespace Go.Eng
open Go Go.RowKit Go.Proofs
set_option maxHeartbeats 1000000 in
set_option maxRecDepth 10000 in
theorem c_laws_big (code : List Int) : Pu Tryz.prog 5 [.c (.t none (.sl 1 encU (code)))] [] 0 (.c (.t none (.v (.bool (decide ((1048576 : Int) < (code.length : Int))))))) := by
 refine pu_enter Tryz.func5 rfl (Nat.le_of_ble_eq_true rfl) fun w S => ?_
 refine tsr ?_
 refine r_op oA ?_
 refine etr ?_
 refine r_op oM ?_
 refine r_op (o_len rfl rfl rfl) ?_
 refine r_op oB ?_
 refine r_op oA ?_
 refine r_end ?_
 refine t_ret Tryz.func5 (.tmp rfl .nil) rfl fun E S w u hI hd => ?_
 refine post_mk hI hd ?_ trivial rfl rfl rfl <;> clear hI hd
 all_goals (rfl)
set_option maxHeartbeats 1000000 in
set_option maxRecDepth 10000 in
theorem c_spec_l1New (code : List Int) (hc : code.length ≤ 1048600) : PuG Tryz.prog 39 [.c (.t none (.sl 1 encU (code)))] (fun (h : Int) => True) (fun (h : Int) => [(0, some (.box [.t none (.sl 1 encU (code)), .t none (.v (.int .i64 (0))), .t none (.v (.int .i64 (h)))]))]) 1 (fun (h : Int) => .c (.ptr 0 0)) := by
 refine pu_enterG Tryz.func39 rfl (Nat.le_of_ble_eq_true rfl) fun w S => ?_
 refine tsr ?_
 refine r_op oA ?_
 refine etr ?_
 refine r_op oM ?_
 refine r_op (o_len rfl rfl rfl) ?_
 refine r_op oB ?_
 refine r_op oA ?_
 refine r_end ?_
 refine t_seq ?_
 refine tsr ?_
 refine r_op oA ?_
 refine r_end ?_
 refine t_block ?_
 refine t_loopL (fun (m, h) => ⟨[(0, some (.c (.t none (.sl 1 encU (code))))), (2, some (.c (.t none (.v (.pointer none))))), (3, some (.c (.t none (.v (.int .i64 (h)))))), (4, some (.c (.t none (.v (.int .i64 ((m : Int)))))))], [], 0⟩ : Nat × Int → St) (fun (m, h) => m ≤ code.length) (fun (m, h) => code.length - m) (0, IntKind.i64.wrap (10101 + (code.length : Int))) ⟨⟨rfl, ⟨rfl, ⟨rfl, ⟨rfl, trivial⟩⟩⟩⟩, trivial, rfl⟩ (by exact Nat.zero_le _) ?_
 rintro ⟨m, h⟩ hI ih0
 try dsimp only at hI ih0
 have i1 := hI; (try dsimp only at i1)
 refine t_seq ?_
 refine tsr ?_
 refine r_op oM ?_
 refine r_op oM ?_
 refine r_op (o_len rfl rfl rfl) ?_
 refine r_op oB ?_
 refine r_op oM ?_
 refine r_guard rfl rfl rfl (fun g1 => ?_) (fun g1 => ?_)
 ·
  have g1' := of_decide_eq_true g1
  refine r_op oM ?_
  refine r_guard rfl rfl rfl (fun _ => ?_) (nc g1)
  refine r_op oB ?_
  refine r_op (o_pickT rfl rfl g1 rfl) ?_
  refine r_end ?_
  refine t_cond rfl (fun h2 => ?_) (fun h2 => ?_)
  ·
   have h2' := of_decide_eq_true h2
   refine t_skip ?_
   refine t_seq ?_
   refine t_block ?_
   refine t_region ?_
   refine r_op oM ?_
   refine r_op oB ?_
   refine r_op oM ?_
   refine r_op oM ?_
   obtain ⟨z3, hz4, b5⟩ := at_get (xs := code) (n := (m : Int)) (by omega) (by omega)
   refine r_op (o_index rfl (by kernel_rfl) rfl rfl b5 hz4) ?_
   refine r_op (o_load1 rfl (by kernel_rfl) rfl rfl) ?_
   refine r_op (o_conv rfl Tryz.underlying5 Tryz.underlying3 rfl) ?_
   refine r_op oB ?_
   refine r_op oB ?_
   refine r_op (o_binD rfl rfl rfl (and_d)) ?_
   refine r_op oA ?_
   refine r_end ?_
   refine t_endblock ?_
   refine t_region ?_
   refine r_op oM ?_
   refine r_op oB ?_
   refine r_op oA ?_
   refine r_end ?_
   refine t_le ?_ (ih0 (m + 1, andI (IntKind.i64.wrap ((IntKind.i64.wrap ((IntKind.i64.wrap (h * 131)) + (IntKind.i64.wrap z3))) + 7)) 1073741823) (by (try dsimp only); omega) (by (try dsimp only); omega))
   exact ⟨⟨rfl, ⟨rfl, ⟨rfl, ⟨(eqI (wr64 (by omega) (by omega))), trivial⟩⟩⟩⟩, trivial, rfl⟩
  ·
   have h2' := of_decide_eq_false h2
   refine t_exit rfl ?_
   refine tsr ?_
   refine r_op oM ?_
   refine r_op oM ?_
   refine r_op (o_build rfl (pl := [(0, 1), (1, 1), (2, 1)]) (zs := [.slice none 0 0, .int .i64 (0), .int .i64 (0)]) (by kernel_rfl) (by kernel_rfl) rfl rfl rfl) ?_
   refine r_op (o_box 0 rfl rfl rfl rfl) ?_
   refine r_op oA ?_
   refine r_end ?_
   refine t_ret Tryz.func39 (.tmp rfl .nil) rfl fun E S w u hI hd => ?_
   refine post_mkG (h) ?_ hI hd ?_ ⟨rfl, trivial⟩ rfl rfl <;> clear hI hd <;> (try clear ih0)
   · (try dsimp only) <;> (trivial)
   · rfl
 ·
  have g1' := of_decide_eq_false g1
  refine r_guard rfl rfl rfl (ncf g1) (fun _ => ?_)
  refine r_op (o_pickF rfl rfl g1 rfl) ?_
  refine r_end ?_
  refine t_cond rfl (ncf rfl) (fun _ => ?_)
  refine t_exit rfl ?_
  refine tsr ?_
  refine r_op oM ?_
  refine r_op oM ?_
  refine r_op (o_build rfl (pl := [(0, 1), (1, 1), (2, 1)]) (zs := [.slice none 0 0, .int .i64 (0), .int .i64 (0)]) (by kernel_rfl) (by kernel_rfl) rfl rfl rfl) ?_
  refine r_op (o_box 0 rfl rfl rfl rfl) ?_
  refine r_op oA ?_
  refine r_end ?_
  refine t_ret Tryz.func39 (.tmp rfl .nil) rfl fun E S w u hI hd => ?_
  refine post_mkG (h) ?_ hI hd ?_ ⟨rfl, trivial⟩ rfl rfl <;> clear hI hd <;> (try clear ih0)
  · (try dsimp only) <;> (trivial)
  · rfl
set_option maxHeartbeats 1000000 in
set_option maxRecDepth 10000 in
theorem c_spec_l1Byte (code : List Int) (i h : Int) (hc : code.length ≤ 1048600) (hi0 : 0 ≤ i) (hi1 : i ≤ code.length) : MuG Tryz.prog 94 [.c (.ptr 0 0)] [.t none (.sl 1 encU (code)), .t none (.v (.int .i64 (i))), .t none (.v (.int .i64 (h)))] (fun (⟨x, i2, h2⟩ : Int × Int × Int) => (0 ≤ x ∧ x ≤ 255) ∧ 0 ≤ i2 ∧ i2 ≤ code.length) (fun (⟨x, i2, h2⟩ : Int × Int × Int) => [.t none (.sl 1 encU (code)), .t none (.v (.int .i64 (i2))), .t none (.v (.int .i64 (h2)))]) (fun (⟨x, i2, h2⟩ : Int × Int × Int) => []) 1 (fun (⟨x, i2, h2⟩ : Int × Int × Int) => .c (.t none (.v (.int .i64 (x))))) := by
 refine mu_enterG Tryz.func94 rfl (Nat.le_of_ble_eq_true rfl) fun v0 w S M hM => ?_
 refine tsr ?_
 refine r_op oA ?_
 refine etr ?_
 refine r_op oM ?_
 refine r_op oM ?_
 refine r_op (o_nilp rfl rfl) ?_
 refine r_op (oF 2) ?_
 refine r_op (o_unp rfl (i := 0) rfl pL) ?_
 refine r_op oB ?_
 refine r_op oB ?_
 refine r_op (o_nilp rfl rfl) ?_
 refine r_op (oF 2) ?_
 refine r_op (o_storep (n := 1) (by kernel_rfl) rfl rfl rfl rfl rfl rfl) ?_
 refine r_end ?_
 refine t_seq ?_
 refine t_draw (fun _ => true) (by kernel_rfl) ?_
 refine dT 0 rfl pM ?_
 refine dT 1 rfl (p_nilp rfl) ?_
 refine dT 2 rfl (pF 2) ?_
 refine dT 3 rfl (p_unp (i := 0) rfl pL) ?_
 refine dT 4 rfl (p_sh rfl rfl (rfl)) ?_
 refine dT 5 rfl pM ?_
 refine dT 6 rfl (p_nilp rfl) ?_
 refine dT 7 rfl (pF 2) ?_
 refine dT 8 rfl (p_unp (i := 0) rfl pL) ?_
 refine dT 9 rfl (p_sh rfl rfl (rfl)) ?_
 refine dT 10 rfl (p_binD rfl rfl (xor_d)) ?_
 refine dT 11 rfl (p_binD rfl rfl (and_d)) ?_
 refine dT 12 rfl pA ?_
 refine d_end (by kernel_rfl) ?_
 refine t_seq ?_
 refine t_seq ?_
 refine t_draw (fun _ => true) (by kernel_rfl) ?_
 refine dT 0 rfl pM ?_
 refine dT 1 rfl (p_nilp rfl) ?_
 refine dT 2 rfl (pF 1) ?_
 refine dT 3 rfl (p_unp (i := 0) rfl pL) ?_
 refine dT 4 rfl pM ?_
 refine dT 5 rfl (p_nilp rfl) ?_
 refine dT 6 rfl (pF 0) ?_
 refine dT 7 rfl (p_unp (i := 0) rfl pL) ?_
 refine dT 8 rfl (p_len rfl rfl) ?_
 refine dT 9 rfl pB ?_
 refine d_end (by kernel_rfl) ?_
 refine t_cond rfl (fun h1 => ?_) (fun h1 => ?_)
 ·
  have h1' := of_decide_eq_true h1
  refine t_seq ?_
  refine t_draw (fun _ => true) (by kernel_rfl) ?_
  refine dT 0 rfl pM ?_
  refine dT 1 rfl pM ?_
  refine dT 2 rfl (p_nilp rfl) ?_
  refine dT 3 rfl (pF 0) ?_
  refine dT 4 rfl (p_unp (i := 0) rfl pL) ?_
  refine dT 5 rfl pM ?_
  refine dT 6 rfl (p_nilp rfl) ?_
  refine dT 7 rfl (pF 1) ?_
  refine dT 8 rfl (p_unp (i := 0) rfl pL) ?_
  obtain ⟨z2, hz3, b4⟩ := at_get (xs := code) (n := i) (by omega) (by omega)
  refine dT 9 rfl (p_index (by kernel_rfl) rfl rfl b4 hz3) ?_
  refine dT 10 rfl (p_load1 (by kernel_rfl) rfl rfl) ?_
  refine dT 11 rfl (p_conv Tryz.underlying5 Tryz.underlying3 rfl) ?_
  refine dT 12 rfl pB ?_
  refine dT 13 rfl (p_binD rfl rfl (and_d)) ?_
  refine dT 14 rfl pA ?_
  refine d_end (by kernel_rfl) ?_
  refine t_region ?_
  refine r_op oM ?_
  refine r_op oM ?_
  refine r_op (o_nilp rfl rfl) ?_
  refine r_op (oF 1) ?_
  refine r_op (o_unp rfl (i := 0) rfl pL) ?_
  refine r_op oB ?_
  refine r_op (o_nilp rfl rfl) ?_
  refine r_op (oF 1) ?_
  refine r_op (o_storep (n := 1) (by kernel_rfl) rfl rfl rfl rfl rfl rfl) ?_
  refine etr ?_
  refine r_op oM ?_
  refine r_op oA ?_
  refine r_end ?_
  refine t_ret Tryz.func94 (.tmp rfl .nil) rfl fun E S w u hI hd => ?_
  refine post_mkG (⟨andI (IntKind.i64.wrap ((andI (xorI (Int.fdiv (IntKind.i64.wrap ((IntKind.i64.wrap (h * 6364136223846793005)) + 1442695040888963407)) (2 ^ 33)) (Int.fdiv (IntKind.i64.wrap ((IntKind.i64.wrap (h * 6364136223846793005)) + 1442695040888963407)) (2 ^ 45))) 255) + (IntKind.i64.wrap z2))) 255, IntKind.i64.wrap (i + 1), IntKind.i64.wrap ((IntKind.i64.wrap (h * 6364136223846793005)) + 1442695040888963407)⟩) ?_ hI hd ?_ ⟨rfl, trivial⟩ rfl rfl <;> clear hI hd
  · (try dsimp only) <;> (exact ⟨and255 _, by (have := wr64 (x := i + 1) (by omega) (by omega); omega)⟩)
  · rfl
 ·
  have h1' := of_decide_eq_false h1
  refine t_skip ?_
  refine tsr ?_
  refine r_op oM ?_
  refine r_op oA ?_
  refine r_end ?_
  refine t_ret Tryz.func94 (.tmp rfl .nil) rfl fun E S w u hI hd => ?_
  refine post_mkG (⟨andI (xorI (Int.fdiv (IntKind.i64.wrap ((IntKind.i64.wrap (h * 6364136223846793005)) + 1442695040888963407)) (2 ^ 33)) (Int.fdiv (IntKind.i64.wrap ((IntKind.i64.wrap (h * 6364136223846793005)) + 1442695040888963407)) (2 ^ 45))) 255, i, IntKind.i64.wrap ((IntKind.i64.wrap (h * 6364136223846793005)) + 1442695040888963407)⟩) ?_ hI hd ?_ ⟨rfl, trivial⟩ rfl rfl <;> clear hI hd
  · (try dsimp only) <;> (exact ⟨and255 _, by (omega)⟩)
  · rfl
set_option maxHeartbeats 1000000 in
set_option maxRecDepth 10000 in
theorem c_spec_l1Below (code : List Int) (i h n : Int) (hc : code.length ≤ 1048600) (hi0 : 0 ≤ i) (hi1 : i ≤ code.length) (hn : 1 ≤ n) (hn2 : n ≤ 256) : MuG Tryz.prog 41 [.c (.ptr 0 0), .c (.t none (.v (.int .i64 (n))))] [.t none (.sl 1 encU (code)), .t none (.v (.int .i64 (i))), .t none (.v (.int .i64 (h)))] (fun (⟨x, i2, h2⟩ : Int × Int × Int) => (0 ≤ x ∧ x ≤ n - 1) ∧ 0 ≤ i2 ∧ i2 ≤ code.length) (fun (⟨x, i2, h2⟩ : Int × Int × Int) => [.t none (.sl 1 encU (code)), .t none (.v (.int .i64 (i2))), .t none (.v (.int .i64 (h2)))]) (fun (⟨x, i2, h2⟩ : Int × Int × Int) => []) 1 (fun (⟨x, i2, h2⟩ : Int × Int × Int) => .c (.t none (.v (.int .i64 (x))))) := by
 refine mu_enterG Tryz.func41 rfl (Nat.le_of_ble_eq_true rfl) fun v0 w S M hM => ?_
 refine tsr ?_
 refine r_op oA ?_
 refine r_end ?_
 refine t_seq ?_
 refine tsr ?_
 refine r_op oM ?_
 refine r_op oB ?_
 refine r_end ?_
 refine t_cond rfl (fun h1 => ?_) (fun h1 => ?_)
 ·
  have h1' := of_decide_eq_true h1
  exfalso; omega
 ·
  have h1' := of_decide_eq_false h1
  refine t_skip ?_
  refine t_seq ?_
  refine tsr ?_
  refine r_op oM ?_
  refine r_op oB ?_
  refine r_end ?_
  refine t_cond rfl (fun h2 => ?_) (fun h2 => ?_)
  ·
   have h2' := of_decide_eq_true h2
   refine tsr ?_
   refine r_op oM ?_
   refine r_opX (o_callGM 0 1 2 (pv := some (v0)) (Go.Proofs.enters_of Tryz.func94 (by kernel_rfl) rfl) (c_spec_l1Byte (code) (i) (h) (by omega) (by omega) (by omega)) rfl rfl (.cur rfl .nil) rfl (fun ⟨_, _, _⟩ => rfl) (fun _ => rfl) (fun ⟨_, _, _⟩ => rfl) rfl rfl) ?_
   rintro ⟨⟨x3, i24, h25⟩, hq6⟩
   try dsimp only at hq6
   try dsimp only
   obtain ⟨q7, q8⟩ := hq6
   refine r_op oM ?_
   refine r_op (o_binD rfl rfl rfl (rem_d (by omega))) ?_
   refine r_op oA ?_
   refine r_end ?_
   refine t_ret Tryz.func41 (.tmp rfl .nil) rfl fun E S w u hI hd => ?_
   refine post_mkG (⟨Int.tmod (x3) n, (i24), (h25)⟩) ?_ hI hd ?_ ⟨rfl, trivial⟩ rfl rfl <;> clear hI hd
   · (try dsimp only) <;> (exact ⟨tmod_bnd (by omega) (by omega), by omega⟩)
   · rfl
  ·
   have h2' := of_decide_eq_false h2
   exfalso; omega
set_option maxHeartbeats 1000000 in
set_option maxRecDepth 10000 in
theorem c_spec_l1Once (code : List Int) (i h n : Int) (hc : code.length ≤ 1048600) (hi0 : 0 ≤ i) (hi1 : i ≤ code.length) (hn : 1 ≤ n) (hn2 : n ≤ 256) : MuG Tryz.prog 57 [.c (.ptr 0 0), .c (.t none (.v (.int .i64 (n))))] [.t none (.sl 1 encU (code)), .t none (.v (.int .i64 (i))), .t none (.v (.int .i64 (h)))] (fun (⟨b, i2, h2⟩ : Bool × Int × Int) => 0 ≤ i2 ∧ i2 ≤ code.length) (fun (⟨b, i2, h2⟩ : Bool × Int × Int) => [.t none (.sl 1 encU (code)), .t none (.v (.int .i64 (i2))), .t none (.v (.int .i64 (h2)))]) (fun (⟨b, i2, h2⟩ : Bool × Int × Int) => []) 1 (fun (⟨b, i2, h2⟩ : Bool × Int × Int) => .c (.t none (.v (.bool (b))))) := by
 refine mu_enterG Tryz.func57 rfl (Nat.le_of_ble_eq_true rfl) fun v0 w S M hM => ?_
 refine tsr ?_
 refine r_op oA ?_
 refine etr ?_
 refine r_op oM ?_
 refine r_op oM ?_
 refine r_opX (o_callGM 0 1 2 (pv := some (v0)) (Go.Proofs.enters_of Tryz.func41 (by kernel_rfl) rfl) (c_spec_l1Below (code) (i) (h) (n) (by omega) (by omega) (by omega) (by omega) (by omega)) rfl rfl (.cur rfl (.cons rfl .nil)) rfl (fun ⟨_, _, _⟩ => rfl) (fun _ => rfl) (fun ⟨_, _, _⟩ => rfl) rfl rfl) ?_
 rintro ⟨⟨x1, i22, h23⟩, hq4⟩
 try dsimp only at hq4
 try dsimp only
 obtain ⟨q5, q6⟩ := hq4
 refine r_op oB ?_
 refine r_op oA ?_
 refine r_end ?_
 refine t_ret Tryz.func57 (.tmp rfl .nil) rfl fun E S w u hI hd => ?_
 refine post_mkG (⟨decide ((x1) = 0), (i22), (h23)⟩) ?_ hI hd ?_ ⟨rfl, trivial⟩ rfl rfl <;> clear hI hd
 · (try dsimp only) <;> (omega)
 · rfl
set_option maxHeartbeats 1000000 in
set_option maxRecDepth 10000 in
theorem c_spec_l9Known (code : List Int) (i h : Int) (hc : code.length ≤ 1048600) (hi0 : 0 ≤ i) (hi1 : i ≤ code.length) : MuG Tryz.prog 195 [.c (.ptr 0 0)] [.t none (.sl 1 encU (code)), .t none (.v (.int .i64 (i))), .t none (.v (.int .i64 (h)))] (fun (⟨b, hs, e, lv, rv, i2, h2⟩ : Atoms × Atoms × Bool × Int × Int × Int × Int) => depL (b, hs, e, lv, rv) ∧ hs.length ≤ 2 ∧ 0 ≤ i2 ∧ i2 ≤ code.length) (fun (⟨b, hs, e, lv, rv, i2, h2⟩ : Atoms × Atoms × Bool × Int × Int × Int × Int) => [.t none (.sl 1 encU (code)), .t none (.v (.int .i64 (i2))), .t none (.v (.int .i64 (h2)))]) (fun (⟨b, hs, e, lv, rv, i2, h2⟩ : Atoms × Atoms × Bool × Int × Int × Int × Int) => [(2, some (.row none 103 true 2 (enS2 encI (enSl 1 encI)) (b))), (3, some (.row none 103 true 2 (enS2 encI (enSl 1 encI)) (hs)))]) 4 (fun (⟨b, hs, e, lv, rv, i2, h2⟩ : Atoms × Atoms × Bool × Int × Int × Int × Int) => .agg [.own 2, .own 3, .t none (.v (.bool (e))), .t none (.v (.int .i64 (lv))), .t none (.v (.int .i64 (rv)))]) := by
 refine mu_enterG Tryz.func195 rfl (Nat.le_of_ble_eq_true rfl) fun v0 w S M hM => ?_
 refine tsr ?_
 refine r_op (o_alloc 1 (zs := [.slice none 0 0, .slice none 0 0, .bool (false), .int .i64 (0), .int .i64 (0)]) rfl rfl (by kernel_rfl) rfl) ?_
 refine etr ?_
 refine r_op (o_litN 2 (e := 3) (sz := 1) (zs := [.int .i64 (0)]) (enc := encI) [0, 1] rfl rfl (by kernel_rfl) rfl rfl rfl rfl rfl rfl rfl rfl (.cons .sc (.cons .sc .nil)) rfl) ?_
 refine r_op (o_build rfl (pl := [(0, 1), (1, 1)]) (zs := [.int .i64 (0), .slice none 0 0]) (by kernel_rfl) (by kernel_rfl) rfl rfl rfl) ?_
 refine r_op (o_alloc 3 (zs := [.int .i64 (0), .slice none 0 0]) rfl rfl (by kernel_rfl) rfl) ?_
 refine r_op (oS 2) ?_
 refine r_end ?_
 refine t_seq ?_
 refine tsr ?_
 refine r_op oM ?_
 refine r_opX (o_callGM 0 4 5 (pv := some (v0)) (Go.Proofs.enters_of Tryz.func41 (by kernel_rfl) rfl) (c_spec_l1Below (code) (i) (h) (9) (by omega) (by omega) (by omega) (by omega) (by omega)) rfl rfl (.cur rfl (.cons rfl .nil)) rfl (fun ⟨_, _, _⟩ => rfl) (fun _ => rfl) (fun ⟨_, _, _⟩ => rfl) rfl rfl) ?_
 rintro ⟨⟨x1, i22, h23⟩, hq4⟩
 try dsimp only at hq4
 try dsimp only
 obtain ⟨q5, q6⟩ := hq4
 refine r_end ?_
 refine t_block ?_
 refine tsr ?_
 refine r_op oB ?_
 refine r_op oA ?_
 refine r_end ?_
 refine t_cond rfl (fun h7 => ?_) (fun h7 => ?_)
 ·
  have h7' := of_decide_eq_true h7
  refine tsr ?_
  refine r_op (oC 2) ?_
  refine r_op (o_litN 5 (e := 103) (sz := 2) (zs := [.int .i64 (0), .slice none 0 0]) (enc := (enS2 encI (enSl 1 encI))) [(0, [0, 1])] rfl rfl (by kernel_rfl) rfl rfl rfl rfl rfl rfl rfl rfl (.cons .sc (.take (.own rfl) rfl .nil)) rfl) ?_
  refine r_op (o_litN 6 (e := 3) (sz := 1) (zs := [.int .i64 (0)]) (enc := encI) [0, 2] rfl rfl (by kernel_rfl) rfl rfl rfl rfl rfl rfl rfl rfl (.cons .sc (.cons .sc .nil)) rfl) ?_
  refine r_op (o_build rfl (pl := [(0, 1), (1, 1)]) (zs := [.int .i64 (0), .slice none 0 0]) (by kernel_rfl) (by kernel_rfl) rfl rfl rfl) ?_
  refine r_op (o_litN 7 (e := 3) (sz := 1) (zs := [.int .i64 (0)]) (enc := encI) [2, 1] rfl rfl (by kernel_rfl) rfl rfl rfl rfl rfl rfl rfl rfl (.cons .sc (.cons .sc .nil)) rfl) ?_
  refine r_op (o_build rfl (pl := [(0, 1), (1, 1)]) (zs := [.int .i64 (0), .slice none 0 0]) (by kernel_rfl) (by kernel_rfl) rfl rfl rfl) ?_
  refine r_op (o_litN 8 (e := 103) (sz := 2) (zs := [.int .i64 (0), .slice none 0 0]) (enc := (enS2 encI (enSl 1 encI))) [(2, [0, 2]), (3, [2, 1])] rfl rfl (by kernel_rfl) rfl rfl rfl rfl rfl rfl rfl rfl (.cons .sc (.take (.own rfl) rfl (.cons .sc (.take (.own rfl) rfl .nil)))) rfl) ?_
  refine r_op (o_build rfl (pl := [(0, 1), (1, 1), (2, 1), (3, 1), (4, 1)]) (zs := [.slice none 0 0, .slice none 0 0, .bool (false), .int .i64 (0), .int .i64 (0)]) (by kernel_rfl) (by kernel_rfl) rfl rfl rfl) ?_
  refine r_op (oS 5) ?_
  refine r_end ?_
  refine gt_mv 2 5 rfl rfl rfl ?_
  refine gt_mv 3 8 rfl rfl rfl ?_
  refine t_ret Tryz.func195 (.cells (n := 5) (by kernel_rfl) (by kernel_rfl) rfl rfl rfl .nil) rfl fun E S w u hI hd => ?_
  refine post_mkG (⟨[(0, [0, 1])], [(2, [0, 2]), (3, [2, 1])], false, 0, 0, (i22), (h23)⟩) ?_ hI hd ?_ ⟨rfl, ⟨rfl, ⟨rfl, trivial⟩⟩⟩ rfl rfl <;> clear hI hd
  · (try dsimp only) <;> (exact ⟨by simp [depL, atomL], by simp, by omega⟩)
  · rfl
 ·
  have h7' := of_decide_eq_false h7
  refine tsr ?_
  refine r_op oB ?_
  refine r_op oA ?_
  refine r_end ?_
  refine t_cond rfl (fun h8 => ?_) (fun h8 => ?_)
  ·
   have h8' := of_decide_eq_true h8
   refine tsr ?_
   refine r_op (oC 2) ?_
   refine r_op (o_litN 5 (e := 103) (sz := 2) (zs := [.int .i64 (0), .slice none 0 0]) (enc := (enS2 encI (enSl 1 encI))) [(0, [0, 1])] rfl rfl (by kernel_rfl) rfl rfl rfl rfl rfl rfl rfl rfl (.cons .sc (.take (.own rfl) rfl .nil)) rfl) ?_
   refine r_op (o_litN 6 (e := 3) (sz := 1) (zs := [.int .i64 (0)]) (enc := encI) [0, 1] rfl rfl (by kernel_rfl) rfl rfl rfl rfl rfl rfl rfl rfl (.cons .sc (.cons .sc .nil)) rfl) ?_
   refine r_op (o_build rfl (pl := [(0, 1), (1, 1)]) (zs := [.int .i64 (0), .slice none 0 0]) (by kernel_rfl) (by kernel_rfl) rfl rfl rfl) ?_
   refine r_op (o_litN 7 (e := 103) (sz := 2) (zs := [.int .i64 (0), .slice none 0 0]) (enc := (enS2 encI (enSl 1 encI))) [(2, [0, 1])] rfl rfl (by kernel_rfl) rfl rfl rfl rfl rfl rfl rfl rfl (.cons .sc (.take (.own rfl) rfl .nil)) rfl) ?_
   refine r_op (o_build rfl (pl := [(0, 1), (1, 1), (2, 1), (3, 1), (4, 1)]) (zs := [.slice none 0 0, .slice none 0 0, .bool (false), .int .i64 (0), .int .i64 (0)]) (by kernel_rfl) (by kernel_rfl) rfl rfl rfl) ?_
   refine r_op (oS 5) ?_
   refine r_end ?_
   refine gt_mv 2 5 rfl rfl rfl ?_
   refine gt_mv 3 7 rfl rfl rfl ?_
   refine t_ret Tryz.func195 (.cells (n := 5) (by kernel_rfl) (by kernel_rfl) rfl rfl rfl .nil) rfl fun E S w u hI hd => ?_
   refine post_mkG (⟨[(0, [0, 1])], [(2, [0, 1])], false, 0, 0, (i22), (h23)⟩) ?_ hI hd ?_ ⟨rfl, ⟨rfl, ⟨rfl, trivial⟩⟩⟩ rfl rfl <;> clear hI hd
   · (try dsimp only) <;> (exact ⟨by simp [depL, atomL], by simp, by omega⟩)
   · rfl
  ·
   have h8' := of_decide_eq_false h8
   refine tsr ?_
   refine r_op oB ?_
   refine r_op oA ?_
   refine r_end ?_
   refine t_cond rfl (fun h9 => ?_) (fun h9 => ?_)
   ·
    have h9' := of_decide_eq_true h9
    refine tsr ?_
    refine r_op (o_lit1 5 (e := 3) (sz := 1) (zs := [.int .i64 (0)]) (enc := encI) (0) rfl rfl (by kernel_rfl) rfl rfl rfl rfl rfl rfl (.cons .sc .nil)) ?_
    refine r_op (o_build rfl (pl := [(0, 1), (1, 1)]) (zs := [.int .i64 (0), .slice none 0 0]) (by kernel_rfl) (by kernel_rfl) rfl rfl rfl) ?_
    refine r_op (o_litN 6 (e := 103) (sz := 2) (zs := [.int .i64 (0), .slice none 0 0]) (enc := (enS2 encI (enSl 1 encI))) [(1, [0])] rfl rfl (by kernel_rfl) rfl rfl rfl rfl rfl rfl rfl rfl (.cons .sc (.take (.own rfl) rfl .nil)) rfl) ?_
    refine r_op (o_litN 7 (e := 3) (sz := 1) (zs := [.int .i64 (0)]) (enc := encI) [0, 1] rfl rfl (by kernel_rfl) rfl rfl rfl rfl rfl rfl rfl rfl (.cons .sc (.cons .sc .nil)) rfl) ?_
    refine r_op (o_build rfl (pl := [(0, 1), (1, 1)]) (zs := [.int .i64 (0), .slice none 0 0]) (by kernel_rfl) (by kernel_rfl) rfl rfl rfl) ?_
    refine r_op (o_litN 8 (e := 103) (sz := 2) (zs := [.int .i64 (0), .slice none 0 0]) (enc := (enS2 encI (enSl 1 encI))) [(2, [0, 1])] rfl rfl (by kernel_rfl) rfl rfl rfl rfl rfl rfl rfl rfl (.cons .sc (.take (.own rfl) rfl .nil)) rfl) ?_
    refine r_op (o_build rfl (pl := [(0, 1), (1, 1), (2, 1), (3, 1), (4, 1)]) (zs := [.slice none 0 0, .slice none 0 0, .bool (false), .int .i64 (0), .int .i64 (0)]) (by kernel_rfl) (by kernel_rfl) rfl rfl rfl) ?_
    refine r_op (oS 5) ?_
    refine r_end ?_
    refine gt_mv 2 6 rfl rfl rfl ?_
    refine gt_mv 3 8 rfl rfl rfl ?_
    refine t_ret Tryz.func195 (.cells (n := 5) (by kernel_rfl) (by kernel_rfl) rfl rfl rfl .nil) rfl fun E S w u hI hd => ?_
    refine post_mkG (⟨[(1, [0])], [(2, [0, 1])], false, 0, 0, (i22), (h23)⟩) ?_ hI hd ?_ ⟨rfl, ⟨rfl, ⟨rfl, trivial⟩⟩⟩ rfl rfl <;> clear hI hd
    · (try dsimp only) <;> (exact ⟨by simp [depL, atomL], by simp, by omega⟩)
    · rfl
   ·
    have h9' := of_decide_eq_false h9
    refine tsr ?_
    refine r_op oB ?_
    refine r_op oA ?_
    refine r_end ?_
    refine t_cond rfl (fun h10 => ?_) (fun h10 => ?_)
    ·
     have h10' := of_decide_eq_true h10
     refine tsr ?_
     refine r_op (o_litN 5 (e := 3) (sz := 1) (zs := [.int .i64 (0)]) (enc := encI) [0, 1] rfl rfl (by kernel_rfl) rfl rfl rfl rfl rfl rfl rfl rfl (.cons .sc (.cons .sc .nil)) rfl) ?_
     refine r_op (o_build rfl (pl := [(0, 1), (1, 1)]) (zs := [.int .i64 (0), .slice none 0 0]) (by kernel_rfl) (by kernel_rfl) rfl rfl rfl) ?_
     refine r_op (o_litN 6 (e := 3) (sz := 1) (zs := [.int .i64 (0)]) (enc := encI) [0, 2] rfl rfl (by kernel_rfl) rfl rfl rfl rfl rfl rfl rfl rfl (.cons .sc (.cons .sc .nil)) rfl) ?_
     refine r_op (o_build rfl (pl := [(0, 1), (1, 1)]) (zs := [.int .i64 (0), .slice none 0 0]) (by kernel_rfl) (by kernel_rfl) rfl rfl rfl) ?_
     refine r_op (o_litN 7 (e := 103) (sz := 2) (zs := [.int .i64 (0), .slice none 0 0]) (enc := (enS2 encI (enSl 1 encI))) [(2, [0, 1]), (2, [0, 2])] rfl rfl (by kernel_rfl) rfl rfl rfl rfl rfl rfl rfl rfl (.cons .sc (.take (.own rfl) rfl (.cons .sc (.take (.own rfl) rfl .nil)))) rfl) ?_
     refine r_op (o_build rfl (pl := [(0, 1), (1, 1), (2, 1), (3, 1), (4, 1)]) (zs := [.slice none 0 0, .slice none 0 0, .bool (false), .int .i64 (0), .int .i64 (0)]) (by kernel_rfl) (by kernel_rfl) rfl rfl rfl) ?_
     refine r_op (oS 5) ?_
     refine r_end ?_
     refine gt_nilb 8 (b := 1) (o := 1) (et := 103) (sz := 2) true (enS2 encI (enSl 1 encI)) rfl rfl rfl ?_
     refine gt_mv 2 7 rfl rfl rfl ?_
     refine gt_mv 3 8 rfl rfl rfl ?_
     refine t_ret Tryz.func195 (.cells (n := 5) (by kernel_rfl) (by kernel_rfl) rfl rfl rfl .nil) rfl fun E S w u hI hd => ?_
     refine post_mkG (⟨[(2, [0, 1]), (2, [0, 2])], [], true, 1, 2, (i22), (h23)⟩) ?_ hI hd ?_ ⟨rfl, ⟨rfl, ⟨rfl, trivial⟩⟩⟩ rfl rfl <;> clear hI hd
     · (try dsimp only) <;> (exact ⟨by simp [depL, atomL], by simp, by omega⟩)
     · rfl
    ·
     have h10' := of_decide_eq_false h10
     refine tsr ?_
     refine r_op oB ?_
     refine r_op oA ?_
     refine r_end ?_
     refine t_cond rfl (fun h11 => ?_) (fun h11 => ?_)
     ·
      have h11' := of_decide_eq_true h11
      refine tsr ?_
      refine r_op (o_litN 5 (e := 3) (sz := 1) (zs := [.int .i64 (0)]) (enc := encI) [0, 1] rfl rfl (by kernel_rfl) rfl rfl rfl rfl rfl rfl rfl rfl (.cons .sc (.cons .sc .nil)) rfl) ?_
      refine r_op (o_build rfl (pl := [(0, 1), (1, 1)]) (zs := [.int .i64 (0), .slice none 0 0]) (by kernel_rfl) (by kernel_rfl) rfl rfl rfl) ?_
      refine r_op (o_litN 6 (e := 3) (sz := 1) (zs := [.int .i64 (0)]) (enc := encI) [1, 2] rfl rfl (by kernel_rfl) rfl rfl rfl rfl rfl rfl rfl rfl (.cons .sc (.cons .sc .nil)) rfl) ?_
      refine r_op (o_build rfl (pl := [(0, 1), (1, 1)]) (zs := [.int .i64 (0), .slice none 0 0]) (by kernel_rfl) (by kernel_rfl) rfl rfl rfl) ?_
      refine r_op (o_litN 7 (e := 103) (sz := 2) (zs := [.int .i64 (0), .slice none 0 0]) (enc := (enS2 encI (enSl 1 encI))) [(2, [0, 1]), (3, [1, 2])] rfl rfl (by kernel_rfl) rfl rfl rfl rfl rfl rfl rfl rfl (.cons .sc (.take (.own rfl) rfl (.cons .sc (.take (.own rfl) rfl .nil)))) rfl) ?_
      refine r_op (o_lit1 8 (e := 3) (sz := 1) (zs := [.int .i64 (0)]) (enc := encI) (0) rfl rfl (by kernel_rfl) rfl rfl rfl rfl rfl rfl (.cons .sc .nil)) ?_
      refine r_op (o_build rfl (pl := [(0, 1), (1, 1)]) (zs := [.int .i64 (0), .slice none 0 0]) (by kernel_rfl) (by kernel_rfl) rfl rfl rfl) ?_
      refine r_op (o_litN 9 (e := 103) (sz := 2) (zs := [.int .i64 (0), .slice none 0 0]) (enc := (enS2 encI (enSl 1 encI))) [(4, [0])] rfl rfl (by kernel_rfl) rfl rfl rfl rfl rfl rfl rfl rfl (.cons .sc (.take (.own rfl) rfl .nil)) rfl) ?_
      refine r_op (o_build rfl (pl := [(0, 1), (1, 1), (2, 1), (3, 1), (4, 1)]) (zs := [.slice none 0 0, .slice none 0 0, .bool (false), .int .i64 (0), .int .i64 (0)]) (by kernel_rfl) (by kernel_rfl) rfl rfl rfl) ?_
      refine r_op (oS 5) ?_
      refine r_end ?_
      refine gt_mv 2 7 rfl rfl rfl ?_
      refine gt_mv 3 9 rfl rfl rfl ?_
      refine t_ret Tryz.func195 (.cells (n := 5) (by kernel_rfl) (by kernel_rfl) rfl rfl rfl .nil) rfl fun E S w u hI hd => ?_
      refine post_mkG (⟨[(2, [0, 1]), (3, [1, 2])], [(4, [0])], false, 0, 0, (i22), (h23)⟩) ?_ hI hd ?_ ⟨rfl, ⟨rfl, ⟨rfl, trivial⟩⟩⟩ rfl rfl <;> clear hI hd
      · (try dsimp only) <;> (exact ⟨by simp [depL, atomL], by simp, by omega⟩)
      · rfl
     ·
      have h11' := of_decide_eq_false h11
      refine tsr ?_
      refine r_op oB ?_
      refine r_op oA ?_
      refine r_end ?_
      refine t_cond rfl (fun h12 => ?_) (fun h12 => ?_)
      ·
       have h12' := of_decide_eq_true h12
       refine tsr ?_
       refine r_op (o_lit1 5 (e := 3) (sz := 1) (zs := [.int .i64 (0)]) (enc := encI) (0) rfl rfl (by kernel_rfl) rfl rfl rfl rfl rfl rfl (.cons .sc .nil)) ?_
       refine r_op (o_build rfl (pl := [(0, 1), (1, 1)]) (zs := [.int .i64 (0), .slice none 0 0]) (by kernel_rfl) (by kernel_rfl) rfl rfl rfl) ?_
       refine r_op (o_litN 6 (e := 103) (sz := 2) (zs := [.int .i64 (0), .slice none 0 0]) (enc := (enS2 encI (enSl 1 encI))) [(4, [0])] rfl rfl (by kernel_rfl) rfl rfl rfl rfl rfl rfl rfl rfl (.cons .sc (.take (.own rfl) rfl .nil)) rfl) ?_
       refine r_op (o_litN 7 (e := 3) (sz := 1) (zs := [.int .i64 (0)]) (enc := encI) [0, 1] rfl rfl (by kernel_rfl) rfl rfl rfl rfl rfl rfl rfl rfl (.cons .sc (.cons .sc .nil)) rfl) ?_
       refine r_op (o_build rfl (pl := [(0, 1), (1, 1)]) (zs := [.int .i64 (0), .slice none 0 0]) (by kernel_rfl) (by kernel_rfl) rfl rfl rfl) ?_
       refine r_op (o_litN 8 (e := 103) (sz := 2) (zs := [.int .i64 (0), .slice none 0 0]) (enc := (enS2 encI (enSl 1 encI))) [(3, [0, 1])] rfl rfl (by kernel_rfl) rfl rfl rfl rfl rfl rfl rfl rfl (.cons .sc (.take (.own rfl) rfl .nil)) rfl) ?_
       refine r_op (o_build rfl (pl := [(0, 1), (1, 1), (2, 1), (3, 1), (4, 1)]) (zs := [.slice none 0 0, .slice none 0 0, .bool (false), .int .i64 (0), .int .i64 (0)]) (by kernel_rfl) (by kernel_rfl) rfl rfl rfl) ?_
       refine r_op (oS 5) ?_
       refine r_end ?_
       refine gt_mv 2 6 rfl rfl rfl ?_
       refine gt_mv 3 8 rfl rfl rfl ?_
       refine t_ret Tryz.func195 (.cells (n := 5) (by kernel_rfl) (by kernel_rfl) rfl rfl rfl .nil) rfl fun E S w u hI hd => ?_
       refine post_mkG (⟨[(4, [0])], [(3, [0, 1])], false, 0, 0, (i22), (h23)⟩) ?_ hI hd ?_ ⟨rfl, ⟨rfl, ⟨rfl, trivial⟩⟩⟩ rfl rfl <;> clear hI hd
       · (try dsimp only) <;> (exact ⟨by simp [depL, atomL], by simp, by omega⟩)
       · rfl
      ·
       have h12' := of_decide_eq_false h12
       refine tsr ?_
       refine r_op oB ?_
       refine r_op oA ?_
       refine r_end ?_
       refine t_cond rfl (fun h13 => ?_) (fun h13 => ?_)
       ·
        have h13' := of_decide_eq_true h13
        refine tsr ?_
        refine r_op (o_litN 5 (e := 3) (sz := 1) (zs := [.int .i64 (0)]) (enc := encI) [0, 1] rfl rfl (by kernel_rfl) rfl rfl rfl rfl rfl rfl rfl rfl (.cons .sc (.cons .sc .nil)) rfl) ?_
        refine r_op (o_build rfl (pl := [(0, 1), (1, 1)]) (zs := [.int .i64 (0), .slice none 0 0]) (by kernel_rfl) (by kernel_rfl) rfl rfl rfl) ?_
        refine r_op (o_litN 6 (e := 103) (sz := 2) (zs := [.int .i64 (0), .slice none 0 0]) (enc := (enS2 encI (enSl 1 encI))) [(2, [0, 1])] rfl rfl (by kernel_rfl) rfl rfl rfl rfl rfl rfl rfl rfl (.cons .sc (.take (.own rfl) rfl .nil)) rfl) ?_
        refine r_op (o_lit1 7 (e := 3) (sz := 1) (zs := [.int .i64 (0)]) (enc := encI) (1) rfl rfl (by kernel_rfl) rfl rfl rfl rfl rfl rfl (.cons .sc .nil)) ?_
        refine r_op (o_build rfl (pl := [(0, 1), (1, 1)]) (zs := [.int .i64 (0), .slice none 0 0]) (by kernel_rfl) (by kernel_rfl) rfl rfl rfl) ?_
        refine r_op (o_litN 8 (e := 103) (sz := 2) (zs := [.int .i64 (0), .slice none 0 0]) (enc := (enS2 encI (enSl 1 encI))) [(4, [1])] rfl rfl (by kernel_rfl) rfl rfl rfl rfl rfl rfl rfl rfl (.cons .sc (.take (.own rfl) rfl .nil)) rfl) ?_
        refine r_op (o_build rfl (pl := [(0, 1), (1, 1), (2, 1), (3, 1), (4, 1)]) (zs := [.slice none 0 0, .slice none 0 0, .bool (false), .int .i64 (0), .int .i64 (0)]) (by kernel_rfl) (by kernel_rfl) rfl rfl rfl) ?_
        refine r_op (oS 5) ?_
        refine r_end ?_
        refine gt_mv 2 6 rfl rfl rfl ?_
        refine gt_mv 3 8 rfl rfl rfl ?_
        refine t_ret Tryz.func195 (.cells (n := 5) (by kernel_rfl) (by kernel_rfl) rfl rfl rfl .nil) rfl fun E S w u hI hd => ?_
        refine post_mkG (⟨[(2, [0, 1])], [(4, [1])], false, 0, 0, (i22), (h23)⟩) ?_ hI hd ?_ ⟨rfl, ⟨rfl, ⟨rfl, trivial⟩⟩⟩ rfl rfl <;> clear hI hd
        · (try dsimp only) <;> (exact ⟨by simp [depL, atomL], by simp, by omega⟩)
        · rfl
       ·
        have h13' := of_decide_eq_false h13
        refine tsr ?_
        refine r_op oB ?_
        refine r_op oA ?_
        refine r_end ?_
        refine t_cond rfl (fun h14 => ?_) (fun h14 => ?_)
        ·
         have h14' := of_decide_eq_true h14
         refine tsr ?_
         refine r_op (o_litN 5 (e := 3) (sz := 1) (zs := [.int .i64 (0)]) (enc := encI) [0, 1] rfl rfl (by kernel_rfl) rfl rfl rfl rfl rfl rfl rfl rfl (.cons .sc (.cons .sc .nil)) rfl) ?_
         refine r_op (o_build rfl (pl := [(0, 1), (1, 1)]) (zs := [.int .i64 (0), .slice none 0 0]) (by kernel_rfl) (by kernel_rfl) rfl rfl rfl) ?_
         refine r_op (o_litN 6 (e := 103) (sz := 2) (zs := [.int .i64 (0), .slice none 0 0]) (enc := (enS2 encI (enSl 1 encI))) [(2, [0, 1])] rfl rfl (by kernel_rfl) rfl rfl rfl rfl rfl rfl rfl rfl (.cons .sc (.take (.own rfl) rfl .nil)) rfl) ?_
         refine r_op (o_litN 7 (e := 3) (sz := 1) (zs := [.int .i64 (0)]) (enc := encI) [1, 2] rfl rfl (by kernel_rfl) rfl rfl rfl rfl rfl rfl rfl rfl (.cons .sc (.cons .sc .nil)) rfl) ?_
         refine r_op (o_build rfl (pl := [(0, 1), (1, 1)]) (zs := [.int .i64 (0), .slice none 0 0]) (by kernel_rfl) (by kernel_rfl) rfl rfl rfl) ?_
         refine r_op (o_litN 8 (e := 103) (sz := 2) (zs := [.int .i64 (0), .slice none 0 0]) (enc := (enS2 encI (enSl 1 encI))) [(2, [1, 2])] rfl rfl (by kernel_rfl) rfl rfl rfl rfl rfl rfl rfl rfl (.cons .sc (.take (.own rfl) rfl .nil)) rfl) ?_
         refine r_op (o_build rfl (pl := [(0, 1), (1, 1), (2, 1), (3, 1), (4, 1)]) (zs := [.slice none 0 0, .slice none 0 0, .bool (false), .int .i64 (0), .int .i64 (0)]) (by kernel_rfl) (by kernel_rfl) rfl rfl rfl) ?_
         refine r_op (oS 5) ?_
         refine r_end ?_
         refine gt_mv 2 6 rfl rfl rfl ?_
         refine gt_mv 3 8 rfl rfl rfl ?_
         refine t_ret Tryz.func195 (.cells (n := 5) (by kernel_rfl) (by kernel_rfl) rfl rfl rfl .nil) rfl fun E S w u hI hd => ?_
         refine post_mkG (⟨[(2, [0, 1])], [(2, [1, 2])], false, 0, 0, (i22), (h23)⟩) ?_ hI hd ?_ ⟨rfl, ⟨rfl, ⟨rfl, trivial⟩⟩⟩ rfl rfl <;> clear hI hd
         · (try dsimp only) <;> (exact ⟨by simp [depL, atomL], by simp, by omega⟩)
         · rfl
        ·
         have h14' := of_decide_eq_false h14
         refine t_skip ?_
         refine t_endblock ?_
         refine tsr ?_
         refine r_op (o_litN 5 (e := 3) (sz := 1) (zs := [.int .i64 (0)]) (enc := encI) [0, 1] rfl rfl (by kernel_rfl) rfl rfl rfl rfl rfl rfl rfl rfl (.cons .sc (.cons .sc .nil)) rfl) ?_
         refine r_op (o_build rfl (pl := [(0, 1), (1, 1)]) (zs := [.int .i64 (0), .slice none 0 0]) (by kernel_rfl) (by kernel_rfl) rfl rfl rfl) ?_
         refine r_op (o_litN 6 (e := 3) (sz := 1) (zs := [.int .i64 (0)]) (enc := encI) [1, 0] rfl rfl (by kernel_rfl) rfl rfl rfl rfl rfl rfl rfl rfl (.cons .sc (.cons .sc .nil)) rfl) ?_
         refine r_op (o_build rfl (pl := [(0, 1), (1, 1)]) (zs := [.int .i64 (0), .slice none 0 0]) (by kernel_rfl) (by kernel_rfl) rfl rfl rfl) ?_
         refine r_op (o_litN 7 (e := 103) (sz := 2) (zs := [.int .i64 (0), .slice none 0 0]) (enc := (enS2 encI (enSl 1 encI))) [(3, [0, 1]), (3, [1, 0])] rfl rfl (by kernel_rfl) rfl rfl rfl rfl rfl rfl rfl rfl (.cons .sc (.take (.own rfl) rfl (.cons .sc (.take (.own rfl) rfl .nil)))) rfl) ?_
         refine r_op (o_build rfl (pl := [(0, 1), (1, 1), (2, 1), (3, 1), (4, 1)]) (zs := [.slice none 0 0, .slice none 0 0, .bool (false), .int .i64 (0), .int .i64 (0)]) (by kernel_rfl) (by kernel_rfl) rfl rfl rfl) ?_
         refine r_op (oS 5) ?_
         refine r_end ?_
         refine gt_nilb 8 (b := 1) (o := 1) (et := 103) (sz := 2) true (enS2 encI (enSl 1 encI)) rfl rfl rfl ?_
         refine gt_mv 2 7 rfl rfl rfl ?_
         refine gt_mv 3 8 rfl rfl rfl ?_
         refine t_ret Tryz.func195 (.cells (n := 5) (by kernel_rfl) (by kernel_rfl) rfl rfl rfl .nil) rfl fun E S w u hI hd => ?_
         refine post_mkG (⟨[(3, [0, 1]), (3, [1, 0])], [], true, 0, 1, (i22), (h23)⟩) ?_ hI hd ?_ ⟨rfl, ⟨rfl, ⟨rfl, trivial⟩⟩⟩ rfl rfl <;> clear hI hd
         · (try dsimp only) <;> (exact ⟨by simp [depL, atomL], by simp, by omega⟩)
         · rfl
set_option maxHeartbeats 1000000 in
set_option maxRecDepth 10000 in
theorem c_spec_l3Sigs  : Pu Tryz.prog 109 [] [(0, some (.row none 95 true 3 (enS3 encS encI encB) (sigs5)))] 1 (.c (.own 0)) := by
 refine pu_enter Tryz.func109 rfl (Nat.le_of_ble_eq_true rfl) fun w S => ?_
 refine tsr ?_
 refine r_op oA ?_
 refine etr ?_
 refine r_op (o_build rfl (pl := [(0, 1), (1, 1), (2, 1)]) (zs := [.string (mkS ([])), .int .i64 (0), .bool (false)]) (by kernel_rfl) (by kernel_rfl) rfl rfl rfl) ?_
 refine r_op (o_build rfl (pl := [(0, 1), (1, 1), (2, 1)]) (zs := [.string (mkS ([])), .int .i64 (0), .bool (false)]) (by kernel_rfl) (by kernel_rfl) rfl rfl rfl) ?_
 refine r_op (o_build rfl (pl := [(0, 1), (1, 1), (2, 1)]) (zs := [.string (mkS ([])), .int .i64 (0), .bool (false)]) (by kernel_rfl) (by kernel_rfl) rfl rfl rfl) ?_
 refine r_op (o_build rfl (pl := [(0, 1), (1, 1), (2, 1)]) (zs := [.string (mkS ([])), .int .i64 (0), .bool (false)]) (by kernel_rfl) (by kernel_rfl) rfl rfl rfl) ?_
 refine r_op (o_build rfl (pl := [(0, 1), (1, 1), (2, 1)]) (zs := [.string (mkS ([])), .int .i64 (0), .bool (false)]) (by kernel_rfl) (by kernel_rfl) rfl rfl rfl) ?_
 refine r_op (o_litN 0 (e := 95) (sz := 3) (zs := [.string (mkS ([])), .int .i64 (0), .bool (false)]) (enc := (enS3 encS encI encB)) [(([97] : List UInt8), 2, true), (([98] : List UInt8), 1, true), (([112] : List UInt8), 2, false), (([113] : List UInt8), 2, false), (([114] : List UInt8), 1, false)] rfl rfl (by kernel_rfl) rfl rfl rfl rfl rfl rfl rfl rfl (.cons .sc (.cons .sc (.cons .sc (.cons .sc (.cons .sc (.cons .sc (.cons .sc (.cons .sc (.cons .sc (.cons .sc (.cons .sc (.cons .sc (.cons .sc (.cons .sc (.cons .sc .nil))))))))))))))) rfl) ?_
 refine r_op oA ?_
 refine r_end ?_
 refine t_ret Tryz.func109 (.tmp rfl .nil) rfl fun E S w u hI hd => ?_
 refine post_mk hI hd ?_ ⟨eqR ?_, trivial⟩ rfl rfl rfl <;> clear hI hd
 all_goals (rfl)
set_option maxHeartbeats 1000000 in
set_option maxRecDepth 10000 in
theorem c_spec_l9Atom (code : List Int) (i h r vars : Int) (hc : code.length ≤ 1048600) (hi0 : 0 ≤ i) (hi1 : i ≤ code.length) (hr : 0 ≤ r ∧ r ≤ 4) (hv : 1 ≤ vars ∧ vars ≤ 5) : MuG Tryz.prog 163 [.c (.ptr 0 0), .c (.t none (.v (.int .i64 (r)))), .c (.t none (.v (.int .i64 (vars))))] [.t none (.sl 1 encU (code)), .t none (.v (.int .i64 (i))), .t none (.v (.int .i64 (h)))] (fun (⟨ts, i2, h2⟩ : (List Int) × Int × Int) => (1 ≤ ts.length ∧ ts.length ≤ 2) ∧ (∀ x ∈ ts, -3 ≤ x ∧ x ≤ 4) ∧ 0 ≤ i2 ∧ i2 ≤ code.length) (fun (⟨ts, i2, h2⟩ : (List Int) × Int × Int) => [.t none (.sl 1 encU (code)), .t none (.v (.int .i64 (i2))), .t none (.v (.int .i64 (h2)))]) (fun (⟨ts, i2, h2⟩ : (List Int) × Int × Int) => [(4, some (.row none 3 true 1 encI (ts)))]) 5 (fun (⟨ts, i2, h2⟩ : (List Int) × Int × Int) => .agg [.t none (.v (.int .i64 (r))), .own 4]) := by
 refine mu_enterG Tryz.func163 rfl (Nat.le_of_ble_eq_true rfl) fun v0 w S M hM => ?_
 have ar := arS_le hr
 refine tsr ?_
 refine r_op (o_alloc 1 (zs := [.int .i64 (0), .slice none 0 0]) rfl rfl (by kernel_rfl) rfl) ?_
 refine etr ?_
 refine r_op (o_call 2 3 false (Go.Proofs.enters_of Tryz.func109 (by kernel_rfl) rfl) (c_spec_l3Sigs ) rfl .nil rfl rfl rfl) ?_
 refine r_op oA ?_
 refine etr ?_
 refine r_op oM ?_
 refine r_op (o_build rfl (pl := [(0, 1), (1, 1)]) (zs := [.int .i64 (0), .slice none 0 0]) (by kernel_rfl) (by kernel_rfl) rfl rfl rfl) ?_
 refine r_op (o_alloc 3 (zs := [.int .i64 (0), .slice none 0 0]) rfl rfl (by kernel_rfl) rfl) ?_
 refine r_op (oS 2) ?_
 refine r_end ?_
 refine t_seq ?_
 refine t_block ?_
 refine gt_nilb 4 (b := 3) (o := 1) (et := 3) (sz := 1) true encI rfl rfl rfl ?_
 refine t_loopL (fun (ts, i3, h3) => ⟨[(0, some (.c (.ptr 0 0))), (1, some (.c (.t none (.v (.int .i64 (r)))))), (2, some (.c (.t none (.v (.int .i64 (vars)))))), (6, some (.c (.ptr 1 0))), (7, some (.c (.own 2))), (8, some (.c (.ptr 3 0)))], [(0, some (.pbox (v0) [.t none (.sl 1 encU (code)), .t none (.v (.int .i64 (i3))), .t none (.v (.int .i64 (h3)))])), (1, some (.box [.t none (.v (.int .i64 (0))), .t none (.v (.slice none 0 0))])), (2, some (.row none 95 true 3 (enS3 encS encI encB) (sigs5))), (3, some (.box [.t none (.v (.int .i64 (r))), .own 4])), (4, some (.row none 3 true 1 encI (ts)))], 5⟩ : List Int × Int × Int → St) (fun (ts, i3, h3) => ((ts.length : Int) ≤ arS r) ∧ (∀ x ∈ ts, -3 ≤ x ∧ x ≤ 4) ∧ (0 ≤ i3 ∧ i3 ≤ code.length)) (fun (ts, i3, h3) => 2 - ts.length) ([], i, h) ⟨⟨rfl, ⟨rfl, ⟨rfl, ⟨rfl, ⟨rfl, ⟨rfl, trivial⟩⟩⟩⟩⟩⟩, ⟨rfl, ⟨rfl, ⟨rfl, ⟨rfl, ⟨rfl, trivial⟩⟩⟩⟩⟩, rfl⟩ (by exact ⟨by simp; omega, fun x hx => by simp at hx, by omega⟩) ?_
 rintro ⟨ts, i3, h3⟩ hI ih0
 try dsimp only at hI ih0
 obtain ⟨j1, j2, j3⟩ := hI
 refine t_seq ?_
 refine t_seq ?_
 refine t_draw (fun _ => true) (by kernel_rfl) ?_
 refine dT 0 rfl (pF 1) ?_
 refine dT 1 rfl pL ?_
 refine dT 2 rfl (p_leno rfl rfl rfl) ?_
 refine dT 3 rfl pM ?_
 refine dT 4 rfl pM ?_
 obtain ⟨z1, hz2, b3⟩ := at_get (xs := sigs5) (n := r) (by omega) (by (rw [sigs5_len]; omega))
 refine dT 5 rfl (p_indexo (by kernel_rfl) rfl rfl rfl b3 (at_lt b3 hz2)) ?_
 refine dT 6 rfl (p_fieldo (off := 1) (by kernel_rfl) rfl) ?_
 refine dT 7 rfl (p_load1o (by kernel_rfl) rfl rfl rfl hz2) ?_
 refine dT 8 rfl pB ?_
 refine d_end (by kernel_rfl) ?_
 refine t_cond rfl (fun h4 => ?_) (fun h4 => ?_)
 ·
  have h4' := of_decide_eq_true h4
  refine t_skip ?_
  refine t_block ?_
  refine tsr ?_
  refine r_op oM ?_
  refine r_opX (o_callGM 0 5 6 (pv := some (v0)) (Go.Proofs.enters_of Tryz.func57 (by kernel_rfl) rfl) (c_spec_l1Once (code) (i3) (h3) (14) (by omega) (by omega) (by omega) (by omega) (by omega)) rfl rfl (.cur rfl (.cons rfl .nil)) rfl (fun ⟨_, _, _⟩ => rfl) (fun _ => rfl) (fun ⟨_, _, _⟩ => rfl) rfl rfl) ?_
  rintro ⟨⟨b5, i26, h27⟩, hq8⟩
  try dsimp only at hq8
  try dsimp only
  refine r_end ?_
  refine t_cond rfl (fun h10 => ?_) (fun h10 => ?_)
  ·
   have h10' := h10
   refine t_draw (fun i => !(Nat.beq i 3 || Nat.beq i 6 || Nat.beq i 8)) (by kernel_rfl) ?_
   refine d_takeP 0 rfl rfl (by kernel_rfl) (by kernel_rfl) (by kernel_rfl) (pw_fieldb (off := 1) (by kernel_rfl) rfl) ?_
   refine dT 2 rfl pM ?_
   refine d_twoX 1 3 rfl rfl (by kernel_rfl) rfl rfl (osX oL) (o_callGM 0 6 7 (pv := some (v0)) (Go.Proofs.enters_of Tryz.func41 (by kernel_rfl) rfl) (c_spec_l1Below ((code)) ((i26)) ((h27)) (3) (by omega) (by omega) (by omega) (by omega) (by omega)) rfl rfl (.cur rfl (.cons rfl .nil)) rfl (fun ⟨_, _, _⟩ => rfl) (fun _ => rfl) (fun ⟨_, _, _⟩ => rfl) rfl rfl) ?_ ?_
   ·
    rintro ⟨⟩
    refine dOX 3 rfl (o_callGM 0 6 7 (pv := some (v0)) (Go.Proofs.enters_of Tryz.func41 (by kernel_rfl) rfl) (c_spec_l1Below ((code)) ((i26)) ((h27)) (3) (by omega) (by omega) (by omega) (by omega) (by omega)) rfl rfl (.cur rfl (.cons rfl .nil)) rfl (fun ⟨_, _, _⟩ => rfl) (fun _ => rfl) (fun ⟨_, _, _⟩ => rfl) rfl rfl) ?_
    rintro ⟨⟨x17, i218, h219⟩, hq20⟩
    try dsimp only at hq20
    try dsimp only
    obtain ⟨q21, q22⟩ := hq20
    refine dT 4 rfl pB ?_
    refine dO 5 rfl (o_litS 7 (e := 3) (sz := 1) (zs := [.int .i64 (0)]) rfl rfl (by kernel_rfl) rfl rfl rfl rfl rfl) ?_
    refine dO 6 rfl (o_append 4 (e := 3) (sz := 1) (by' := 8) (IntKind.i64.wrap ((-1) - (x17))) rfl (by kernel_rfl) rfl rfl rfl rfl rfl rfl (.cons .sc .nil) rfl (by omega) (by omega)) ?_
    refine dT 7 rfl (pF 1) ?_
    refine dO 8 rfl (oS 1) ?_
    refine d_end (by kernel_rfl) ?_
    refine t_endblock ?_
    have sg := sig_at hz2
    refine t_le ?_ (ih0 (ts ++ [IntKind.i64.wrap ((-1) - (x17))], (i218), (h219)) (by (try dsimp only); (simp; omega)) (by (try dsimp only); exact ⟨by (simp only [List.length_append, List.length_singleton]; omega), mem_snoc j2 (by (try simp only [IntKind.wrap_i64]); omega), by omega⟩))
    exact ⟨⟨rfl, ⟨rfl, ⟨rfl, ⟨rfl, ⟨rfl, ⟨rfl, trivial⟩⟩⟩⟩⟩⟩, ⟨rfl, ⟨rfl, ⟨rfl, ⟨rfl, ⟨rfl, trivial⟩⟩⟩⟩⟩, rfl⟩
   ·
    rintro ⟨⟨x11, i212, h213⟩, hq14⟩
    try dsimp only at hq14
    try dsimp only
    obtain ⟨q15, q16⟩ := hq14
    refine dT 1 rfl pL ?_
    refine dT 4 rfl pB ?_
    refine dO 5 rfl (o_litS 7 (e := 3) (sz := 1) (zs := [.int .i64 (0)]) rfl rfl (by kernel_rfl) rfl rfl rfl rfl rfl) ?_
    refine dO 6 rfl (o_append 4 (e := 3) (sz := 1) (by' := 8) (IntKind.i64.wrap ((-1) - (x11))) rfl (by kernel_rfl) rfl rfl rfl rfl rfl rfl (.cons .sc .nil) rfl (by omega) (by omega)) ?_
    refine dT 7 rfl (pF 1) ?_
    refine dO 8 rfl (oS 1) ?_
    refine d_end (by kernel_rfl) ?_
    refine t_endblock ?_
    have sg := sig_at hz2
    refine t_le ?_ (ih0 (ts ++ [IntKind.i64.wrap ((-1) - (x11))], (i212), (h213)) (by (try dsimp only); (simp; omega)) (by (try dsimp only); exact ⟨by (simp only [List.length_append, List.length_singleton]; omega), mem_snoc j2 (by (try simp only [IntKind.wrap_i64]); omega), by omega⟩))
    exact ⟨⟨rfl, ⟨rfl, ⟨rfl, ⟨rfl, ⟨rfl, ⟨rfl, trivial⟩⟩⟩⟩⟩⟩, ⟨rfl, ⟨rfl, ⟨rfl, ⟨rfl, ⟨rfl, trivial⟩⟩⟩⟩⟩, rfl⟩
  ·
   have h10' := h10
   refine t_draw (fun i => !(Nat.beq i 4 || Nat.beq i 6 || Nat.beq i 8)) (by kernel_rfl) ?_
   refine d_takeP 0 rfl rfl (by kernel_rfl) (by kernel_rfl) (by kernel_rfl) (pw_fieldb (off := 1) (by kernel_rfl) rfl) ?_
   refine dT 2 rfl pM ?_
   refine dT 3 rfl pM ?_
   refine d_twoX 1 4 rfl rfl (by kernel_rfl) rfl rfl (osX oL) (o_callGM 0 6 7 (pv := some (v0)) (Go.Proofs.enters_of Tryz.func41 (by kernel_rfl) rfl) (c_spec_l1Below ((code)) ((i26)) ((h27)) (vars) (by omega) (by omega) (by omega) (by omega) (by omega)) rfl rfl (.cur rfl (.cons rfl .nil)) rfl (fun ⟨_, _, _⟩ => rfl) (fun _ => rfl) (fun ⟨_, _, _⟩ => rfl) rfl rfl) ?_ ?_
   ·
    rintro ⟨⟩
    refine dOX 4 rfl (o_callGM 0 6 7 (pv := some (v0)) (Go.Proofs.enters_of Tryz.func41 (by kernel_rfl) rfl) (c_spec_l1Below ((code)) ((i26)) ((h27)) (vars) (by omega) (by omega) (by omega) (by omega) (by omega)) rfl rfl (.cur rfl (.cons rfl .nil)) rfl (fun ⟨_, _, _⟩ => rfl) (fun _ => rfl) (fun ⟨_, _, _⟩ => rfl) rfl rfl) ?_
    rintro ⟨⟨x29, i230, h231⟩, hq32⟩
    try dsimp only at hq32
    try dsimp only
    obtain ⟨q33, q34⟩ := hq32
    refine dO 5 rfl (o_litS 7 (e := 3) (sz := 1) (zs := [.int .i64 (0)]) rfl rfl (by kernel_rfl) rfl rfl rfl rfl rfl) ?_
    refine dO 6 rfl (o_append 4 (e := 3) (sz := 1) (by' := 8) ((x29)) rfl (by kernel_rfl) rfl rfl rfl rfl rfl rfl (.cons .sc .nil) rfl (by omega) (by omega)) ?_
    refine dT 7 rfl (pF 1) ?_
    refine dO 8 rfl (oS 1) ?_
    refine d_end (by kernel_rfl) ?_
    refine t_endblock ?_
    have sg := sig_at hz2
    refine t_le ?_ (ih0 (ts ++ [(x29)], (i230), (h231)) (by (try dsimp only); (simp; omega)) (by (try dsimp only); exact ⟨by (simp only [List.length_append, List.length_singleton]; omega), mem_snoc j2 (by (try simp only [IntKind.wrap_i64]); omega), by omega⟩))
    exact ⟨⟨rfl, ⟨rfl, ⟨rfl, ⟨rfl, ⟨rfl, ⟨rfl, trivial⟩⟩⟩⟩⟩⟩, ⟨rfl, ⟨rfl, ⟨rfl, ⟨rfl, ⟨rfl, trivial⟩⟩⟩⟩⟩, rfl⟩
   ·
    rintro ⟨⟨x23, i224, h225⟩, hq26⟩
    try dsimp only at hq26
    try dsimp only
    obtain ⟨q27, q28⟩ := hq26
    refine dT 1 rfl pL ?_
    refine dO 5 rfl (o_litS 7 (e := 3) (sz := 1) (zs := [.int .i64 (0)]) rfl rfl (by kernel_rfl) rfl rfl rfl rfl rfl) ?_
    refine dO 6 rfl (o_append 4 (e := 3) (sz := 1) (by' := 8) ((x23)) rfl (by kernel_rfl) rfl rfl rfl rfl rfl rfl (.cons .sc .nil) rfl (by omega) (by omega)) ?_
    refine dT 7 rfl (pF 1) ?_
    refine dO 8 rfl (oS 1) ?_
    refine d_end (by kernel_rfl) ?_
    refine t_endblock ?_
    have sg := sig_at hz2
    refine t_le ?_ (ih0 (ts ++ [(x23)], (i224), (h225)) (by (try dsimp only); (simp; omega)) (by (try dsimp only); exact ⟨by (simp only [List.length_append, List.length_singleton]; omega), mem_snoc j2 (by (try simp only [IntKind.wrap_i64]); omega), by omega⟩))
    exact ⟨⟨rfl, ⟨rfl, ⟨rfl, ⟨rfl, ⟨rfl, ⟨rfl, trivial⟩⟩⟩⟩⟩⟩, ⟨rfl, ⟨rfl, ⟨rfl, ⟨rfl, ⟨rfl, trivial⟩⟩⟩⟩⟩, rfl⟩
 ·
  have h4' := of_decide_eq_false h4
  refine t_exit rfl ?_
  refine tsr ?_
  refine r_op (oC 2) ?_
  refine r_op (oS 2) ?_
  refine r_end ?_
  refine t_ret Tryz.func163 (.cells (n := 2) (by kernel_rfl) (by kernel_rfl) rfl rfl rfl .nil) rfl fun E S w u hI hd => ?_
  refine post_mkG (⟨ts, i3, h3⟩) ?_ hI hd ?_ ⟨rfl, ⟨rfl, trivial⟩⟩ rfl rfl <;> clear hI hd <;> (try clear ih0)
  · (try dsimp only) <;> ((have sg := sig_at hz2); exact ⟨by omega, j2, by omega⟩)
  · rfl
set_option maxHeartbeats 1000000 in
set_option maxRecDepth 10000 in
theorem c_spec_l4Put (U : Nat → Value) (l : List Int) (x : Int) (hl : l.length ≤ 1099511627776) : Mu Tryz.prog 106 [.c (.own 0), .c (.t none (.v (.int .i64 (x))))] [(0, some (.row (some (U 0)) 3 true 1 encI (l)))] 1 [(0, some (.row none 3 true 1 encI (putI l x)))] 1 (.c (.own 0)) := by
 refine mu_enter Tryz.func106 rfl (Nat.le_of_ble_eq_true rfl) fun w S M => ?_
 refine tsr ?_
 refine r_op oA ?_
 refine etr ?_
 refine r_op oA ?_
 refine r_end ?_
 refine t_seq ?_
 refine t_block ?_
 refine t_loopL (fun m => ⟨[(0, some (.c (.own 0))), (1, some (.c (.t none (.v (.int .i64 (x)))))), (4, some (.c (.t none (.v (.slice none 0 0))))), (5, some (.c (.t none (.v (.int .i64 ((m : Int)))))))], [(0, some (.row (some (U 0)) 3 true 1 encI (l)))], 1⟩ : Nat → St) (fun m => m ≤ l.length ∧ ∀ j y, j < m → l[j]? = some y → y < x) (fun m => l.length - m) 0 ⟨⟨rfl, ⟨rfl, ⟨rfl, ⟨rfl, trivial⟩⟩⟩⟩, ⟨rfl, trivial⟩, rfl⟩ (by exact ⟨Nat.zero_le _, fun j z h => by omega⟩) ?_
 rintro m hI ih0
 try dsimp only at hI ih0
 obtain ⟨i1, i2⟩ := hI
 refine t_seq ?_
 refine tsr ?_
 refine r_op oM ?_
 refine r_op oM ?_
 refine r_op (o_leno rfl rfl rfl rfl) ?_
 refine r_op oB ?_
 refine r_op oM ?_
 refine r_guard rfl rfl rfl (fun g1 => ?_) (fun g1 => ?_)
 ·
  have g1' := of_decide_eq_true g1
  refine r_op oM ?_
  refine r_guard rfl rfl rfl (fun _ => ?_) (nc g1)
  refine r_op oM ?_
  refine r_guard rfl rfl rfl (fun _ => ?_) (nc g1)
  obtain ⟨z2, hz3, b4⟩ := at_get (xs := l) (n := (m : Int)) (by omega) (by omega)
  refine r_op (o_indexo rfl (by kernel_rfl) rfl rfl rfl b4 (at_lt b4 hz3)) ?_
  refine r_guard rfl rfl rfl (fun _ => ?_) (nc g1)
  refine r_op (o_load1o rfl (by kernel_rfl) rfl rfl rfl hz3) ?_
  refine r_guard rfl rfl rfl (fun _ => ?_) (nc g1)
  refine r_op oM ?_
  refine r_guard rfl rfl rfl (fun _ => ?_) (nc g1)
  refine r_op oB ?_
  refine r_op (o_pickT rfl rfl g1 rfl) ?_
  refine r_end ?_
  refine t_cond rfl (fun h5 => ?_) (fun h5 => ?_)
  ·
   have h5' := of_decide_eq_true h5
   refine t_skip ?_
   refine t_block ?_
   refine t_region ?_
   refine r_op oM ?_
   refine r_op oB ?_
   refine r_op oA ?_
   refine r_end ?_
   refine t_endblock ?_
   refine t_le ?_ (ih0 (m + 1) (by (try dsimp only); omega) (by (try dsimp only); exact ⟨by omega, lt_step i2 (by assumption) rfl (by omega)⟩))
   exact ⟨⟨rfl, ⟨rfl, ⟨rfl, ⟨(eqI (wr64 (by omega) (by omega))), trivial⟩⟩⟩⟩, ⟨rfl, trivial⟩, rfl⟩
  ·
   have h5' := of_decide_eq_false h5
   refine t_exit rfl ?_
   refine t_seq ?_
   refine tsr ?_
   refine r_op oM ?_
   refine r_op oM ?_
   refine r_op (o_leno rfl rfl rfl rfl) ?_
   refine r_op oB ?_
   refine r_op oM ?_
   refine r_guard rfl rfl rfl (fun g6 => ?_) (fun g6 => ?_)
   ·
    have g6' := of_decide_eq_true g6
    refine r_op oM ?_
    refine r_guard rfl rfl rfl (fun _ => ?_) (nc g6)
    refine r_op oM ?_
    refine r_guard rfl rfl rfl (fun _ => ?_) (nc g6)
    refine r_op (o_indexo rfl (by kernel_rfl) rfl rfl rfl b4 (at_lt b4 hz3)) ?_
    refine r_guard rfl rfl rfl (fun _ => ?_) (nc g6)
    refine r_op (o_load1o rfl (by kernel_rfl) rfl rfl rfl hz3) ?_
    refine r_guard rfl rfl rfl (fun _ => ?_) (nc g6)
    refine r_op oM ?_
    refine r_guard rfl rfl rfl (fun _ => ?_) (nc g6)
    refine r_op oB ?_
    refine r_op (o_pickT rfl rfl g6 rfl) ?_
    refine r_end ?_
    refine t_cond rfl (fun h7 => ?_) (fun h7 => ?_)
    ·
     have h7' := of_decide_eq_true h7
     refine tsr ?_
     refine r_op oM ?_
     refine r_op oA ?_
     refine r_end ?_
     refine gt_unpin 0 rfl ?_
     refine t_ret Tryz.func106 (.tmp rfl .nil) rfl fun E S w u hI hd => ?_
     refine postM_mk hI hd ?_ ⟨eqR ?_, trivial⟩ rfl rfl <;> clear hI hd <;> (try clear ih0)
     all_goals first | rfl | ((rw [putI_there i2 (by assumption) (by omega)]; done))
    ·
     have h7' := of_decide_eq_false h7
     refine t_skip ?_
     refine tsr ?_
     refine r_op oM ?_
     refine r_op (o_lit1 1 (e := 3) (sz := 1) (zs := [.int .i64 (0)]) (enc := encI) (x) rfl rfl (by kernel_rfl) rfl rfl rfl rfl rfl rfl (.cons .sc .nil)) ?_
     refine r_op oM ?_
     refine r_op oM ?_
     refine r_op (o_subo rfl (by kernel_rfl) rfl rfl (.l rfl (by omega) (by omega))) ?_
     refine r_op (o_appendS 1 (e := 3) (sz := 1) (by' := 8) rfl (by kernel_rfl) rfl rfl rfl rfl (fun _ _ => ⟨_, rfl⟩) (by (simp only [List.length_append, List.length_take, List.length_drop, List.length_cons, List.length_nil]; omega)) (by (simp only [List.length_append, List.length_take, List.length_drop, List.length_cons, List.length_nil]; omega))) ?_
     refine r_op oA ?_
     refine etr ?_
     refine r_op (o_lit0 2 (e := 3) (sz := 1) (zs := [.int .i64 (0)]) encI rfl rfl (by kernel_rfl) rfl) ?_
     refine r_op oM ?_
     refine r_op oM ?_
     refine r_op (o_subo rfl (by kernel_rfl) rfl rfl (.h rfl (by omega) (by omega))) ?_
     refine r_op (o_appendS 2 (e := 3) (sz := 1) (by' := 8) rfl (by kernel_rfl) rfl rfl rfl rfl (fun _ _ => ⟨_, rfl⟩) (by (simp only [List.length_append, List.length_take, List.length_drop, List.length_cons, List.length_nil]; omega)) (by (simp only [List.length_append, List.length_take, List.length_drop, List.length_cons, List.length_nil]; omega))) ?_
     refine r_op oM ?_
     refine r_op (o_appendO 2 (e := 3) (sz := 1) (by' := 8) rfl (by kernel_rfl) rfl rfl rfl rfl rfl (by decide) (fun _ _ => ⟨_, rfl⟩) (by (simp only [List.length_append, List.length_take, List.length_drop, List.length_cons, List.length_nil]; omega)) (by (simp only [List.length_append, List.length_take, List.length_drop, List.length_cons, List.length_nil]; omega))) ?_
     refine r_op oA ?_
     refine r_end ?_
     refine gt_as0 4 2 rfl rfl ?_
     refine t_ret Tryz.func106 (.tmp rfl .nil) rfl fun E S w u hI hd => ?_
     refine postM_mk hI hd ?_ ⟨eqR ?_, trivial⟩ rfl rfl <;> clear hI hd <;> (try clear ih0)
     all_goals first | rfl | ((rw [putI_new i2 i1 (fun y hy => by (have e7 := Option.some.inj (hy.symm.trans hz3); omega))]; simp))
   ·
    have g6' := of_decide_eq_false g6
    refine r_guard rfl rfl rfl (ncf g6) (fun _ => ?_)
    refine r_guard rfl rfl rfl (ncf g6) (fun _ => ?_)
    refine r_guard rfl rfl rfl (ncf g6) (fun _ => ?_)
    refine r_guard rfl rfl rfl (ncf g6) (fun _ => ?_)
    refine r_guard rfl rfl rfl (ncf g6) (fun _ => ?_)
    refine r_op (o_pickF rfl rfl g6 rfl) ?_
    refine r_end ?_
    refine t_cond rfl (ncf rfl) (fun _ => ?_)
    refine t_skip ?_
    refine tsr ?_
    refine r_op oM ?_
    refine r_op (o_lit1 1 (e := 3) (sz := 1) (zs := [.int .i64 (0)]) (enc := encI) (x) rfl rfl (by kernel_rfl) rfl rfl rfl rfl rfl rfl (.cons .sc .nil)) ?_
    refine r_op oM ?_
    refine r_op oM ?_
    refine r_op (o_subo rfl (by kernel_rfl) rfl rfl (.l rfl (by omega) (by omega))) ?_
    refine r_op (o_appendS 1 (e := 3) (sz := 1) (by' := 8) rfl (by kernel_rfl) rfl rfl rfl rfl (fun _ _ => ⟨_, rfl⟩) (by omega) (by omega)) ?_
    refine r_op oA ?_
    refine etr ?_
    refine r_op (o_lit0 2 (e := 3) (sz := 1) (zs := [.int .i64 (0)]) encI rfl rfl (by kernel_rfl) rfl) ?_
    refine r_op oM ?_
    refine r_op oM ?_
    refine r_op (o_subo rfl (by kernel_rfl) rfl rfl (.h rfl (by omega) (by omega))) ?_
    refine r_op (o_appendS 2 (e := 3) (sz := 1) (by' := 8) rfl (by kernel_rfl) rfl rfl rfl rfl (fun _ _ => ⟨_, rfl⟩) (by omega) (by omega)) ?_
    refine r_op oM ?_
    refine r_op (o_appendO 2 (e := 3) (sz := 1) (by' := 8) rfl (by kernel_rfl) rfl rfl rfl rfl rfl (by decide) (fun _ _ => ⟨_, rfl⟩) (by omega) (by omega)) ?_
    refine r_op oA ?_
    refine r_end ?_
    refine gt_as0 4 2 rfl rfl ?_
    refine t_ret Tryz.func106 (.tmp rfl .nil) rfl fun E S w u hI hd => ?_
    refine postM_mk hI hd ?_ ⟨eqR ?_, trivial⟩ rfl rfl <;> clear hI hd <;> (try clear ih0)
    all_goals first | rfl | ((rw [putI_new i2 i1 (fun y hy => by (have e7 := Option.some.inj (hy.symm.trans hz3); omega))]; simp))
 ·
  have g1' := of_decide_eq_false g1
  refine r_guard rfl rfl rfl (ncf g1) (fun _ => ?_)
  refine r_guard rfl rfl rfl (ncf g1) (fun _ => ?_)
  refine r_guard rfl rfl rfl (ncf g1) (fun _ => ?_)
  refine r_guard rfl rfl rfl (ncf g1) (fun _ => ?_)
  refine r_guard rfl rfl rfl (ncf g1) (fun _ => ?_)
  refine r_op (o_pickF rfl rfl g1 rfl) ?_
  refine r_end ?_
  refine t_cond rfl (ncf rfl) (fun _ => ?_)
  refine t_exit rfl ?_
  refine t_seq ?_
  refine tsr ?_
  refine r_op oM ?_
  refine r_op oM ?_
  refine r_op (o_leno rfl rfl rfl rfl) ?_
  refine r_op oB ?_
  refine r_op oM ?_
  refine r_guard rfl rfl rfl (fun g8 => ?_) (fun g8 => ?_)
  ·
   have g8' := of_decide_eq_true g8
   refine r_op oM ?_
   refine r_guard rfl rfl rfl (fun _ => ?_) (nc g8)
   refine r_op oM ?_
   refine r_guard rfl rfl rfl (fun _ => ?_) (nc g8)
   obtain ⟨z9, hz10, b11⟩ := at_get (xs := l) (n := (m : Int)) (by omega) (by omega)
   refine r_op (o_indexo rfl (by kernel_rfl) rfl rfl rfl b11 (at_lt b11 hz10)) ?_
   refine r_guard rfl rfl rfl (fun _ => ?_) (nc g8)
   refine r_op (o_load1o rfl (by kernel_rfl) rfl rfl rfl hz10) ?_
   refine r_guard rfl rfl rfl (fun _ => ?_) (nc g8)
   refine r_op oM ?_
   refine r_guard rfl rfl rfl (fun _ => ?_) (nc g8)
   refine r_op oB ?_
   refine r_op (o_pickT rfl rfl g8 rfl) ?_
   refine r_end ?_
   refine t_cond rfl (fun h12 => ?_) (fun h12 => ?_)
   ·
    have h12' := of_decide_eq_true h12
    refine tsr ?_
    refine r_op oM ?_
    refine r_op oA ?_
    refine r_end ?_
    refine gt_unpin 0 rfl ?_
    refine t_ret Tryz.func106 (.tmp rfl .nil) rfl fun E S w u hI hd => ?_
    refine postM_mk hI hd ?_ ⟨eqR ?_, trivial⟩ rfl rfl <;> clear hI hd <;> (try clear ih0)
    all_goals first | rfl | ((rw [putI_there i2 (by assumption) (by omega)]; done))
   ·
    have h12' := of_decide_eq_false h12
    refine t_skip ?_
    refine tsr ?_
    refine r_op oM ?_
    refine r_op (o_lit1 1 (e := 3) (sz := 1) (zs := [.int .i64 (0)]) (enc := encI) (x) rfl rfl (by kernel_rfl) rfl rfl rfl rfl rfl rfl (.cons .sc .nil)) ?_
    refine r_op oM ?_
    refine r_op oM ?_
    refine r_op (o_subo rfl (by kernel_rfl) rfl rfl (.l rfl (by omega) (by omega))) ?_
    refine r_op (o_appendS 1 (e := 3) (sz := 1) (by' := 8) rfl (by kernel_rfl) rfl rfl rfl rfl (fun _ _ => ⟨_, rfl⟩) (by omega) (by omega)) ?_
    refine r_op oA ?_
    refine etr ?_
    refine r_op (o_lit0 2 (e := 3) (sz := 1) (zs := [.int .i64 (0)]) encI rfl rfl (by kernel_rfl) rfl) ?_
    refine r_op oM ?_
    refine r_op oM ?_
    refine r_op (o_subo rfl (by kernel_rfl) rfl rfl (.h rfl (by omega) (by omega))) ?_
    refine r_op (o_appendS 2 (e := 3) (sz := 1) (by' := 8) rfl (by kernel_rfl) rfl rfl rfl rfl (fun _ _ => ⟨_, rfl⟩) (by omega) (by omega)) ?_
    refine r_op oM ?_
    refine r_op (o_appendO 2 (e := 3) (sz := 1) (by' := 8) rfl (by kernel_rfl) rfl rfl rfl rfl rfl (by decide) (fun _ _ => ⟨_, rfl⟩) (by omega) (by omega)) ?_
    refine r_op oA ?_
    refine r_end ?_
    refine gt_as0 4 2 rfl rfl ?_
    refine t_ret Tryz.func106 (.tmp rfl .nil) rfl fun E S w u hI hd => ?_
    refine postM_mk hI hd ?_ ⟨eqR ?_, trivial⟩ rfl rfl <;> clear hI hd <;> (try clear ih0)
    all_goals first | rfl | ((rw [putI_new i2 i1 (fun y hy => by (have e7 := Option.some.inj (hy.symm.trans hz10); omega))]; simp))
  ·
   have g8' := of_decide_eq_false g8
   refine r_guard rfl rfl rfl (ncf g8) (fun _ => ?_)
   refine r_guard rfl rfl rfl (ncf g8) (fun _ => ?_)
   refine r_guard rfl rfl rfl (ncf g8) (fun _ => ?_)
   refine r_guard rfl rfl rfl (ncf g8) (fun _ => ?_)
   refine r_guard rfl rfl rfl (ncf g8) (fun _ => ?_)
   refine r_op (o_pickF rfl rfl g8 rfl) ?_
   refine r_end ?_
   refine t_cond rfl (ncf rfl) (fun _ => ?_)
   refine t_skip ?_
   refine tsr ?_
   refine r_op oM ?_
   refine r_op (o_lit1 1 (e := 3) (sz := 1) (zs := [.int .i64 (0)]) (enc := encI) (x) rfl rfl (by kernel_rfl) rfl rfl rfl rfl rfl rfl (.cons .sc .nil)) ?_
   refine r_op oM ?_
   refine r_op oM ?_
   refine r_op (o_subo rfl (by kernel_rfl) rfl rfl (.l rfl (by omega) (by omega))) ?_
   refine r_op (o_appendS 1 (e := 3) (sz := 1) (by' := 8) rfl (by kernel_rfl) rfl rfl rfl rfl (fun _ _ => ⟨_, rfl⟩) (by (simp only [List.length_append, List.length_take, List.length_drop, List.length_cons, List.length_nil]; omega)) (by (simp only [List.length_append, List.length_take, List.length_drop, List.length_cons, List.length_nil]; omega))) ?_
   refine r_op oA ?_
   refine etr ?_
   refine r_op (o_lit0 2 (e := 3) (sz := 1) (zs := [.int .i64 (0)]) encI rfl rfl (by kernel_rfl) rfl) ?_
   refine r_op oM ?_
   refine r_op oM ?_
   refine r_op (o_subo rfl (by kernel_rfl) rfl rfl (.h rfl (by omega) (by omega))) ?_
   refine r_op (o_appendS 2 (e := 3) (sz := 1) (by' := 8) rfl (by kernel_rfl) rfl rfl rfl rfl (fun _ _ => ⟨_, rfl⟩) (by (simp only [List.length_append, List.length_take, List.length_drop, List.length_cons, List.length_nil]; omega)) (by (simp only [List.length_append, List.length_take, List.length_drop, List.length_cons, List.length_nil]; omega))) ?_
   refine r_op oM ?_
   refine r_op (o_appendO 2 (e := 3) (sz := 1) (by' := 8) rfl (by kernel_rfl) rfl rfl rfl rfl rfl (by decide) (fun _ _ => ⟨_, rfl⟩) (by (simp only [List.length_append, List.length_take, List.length_drop, List.length_cons, List.length_nil]; omega)) (by (simp only [List.length_append, List.length_take, List.length_drop, List.length_cons, List.length_nil]; omega))) ?_
   refine r_op oA ?_
   refine r_end ?_
   refine gt_as0 4 2 rfl rfl ?_
   refine t_ret Tryz.func106 (.tmp rfl .nil) rfl fun E S w u hI hd => ?_
   refine postM_mk hI hd ?_ ⟨eqR ?_, trivial⟩ rfl rfl <;> clear hI hd <;> (try clear ih0)
   all_goals first | rfl | ((rw [putI_new i2 i1 (fun y hy => by (have e7 := (List.getElem?_eq_some_iff.1 hy).1; omega))]; simp))
set_option maxHeartbeats 1000000 in
set_option maxRecDepth 10000 in
theorem c_spec_Variables (l : List (Int × List Int)) (hl : szS (fun (x : Int × (List (Int))) => (x.2).length) l ≤ 1048600) : Pu Tryz.prog 128 [.c (.t none (.sl 2 (enS2 encI (enSl 1 encI)) (l)))] [(0, some (.row none 3 true 1 encI (setI (varsL l))))] 1 (.c (.own 0)) := by
 refine pu_enter Tryz.func128 rfl (Nat.le_of_ble_eq_true rfl) fun w S => ?_
 have gl := sz_len (f := (fun (x : Int × (List (Int))) => (x.2).length)) (l := l); have gv := varsL_size l
 refine tsr ?_
 refine r_op oA ?_
 refine etr ?_
 refine r_op (o_lit0 0 (e := 3) (sz := 1) (zs := [.int .i64 (0)]) encI rfl rfl (by kernel_rfl) rfl) ?_
 refine r_op oA ?_
 refine r_end ?_
 refine t_seq ?_
 refine tsr ?_
 refine r_op oA ?_
 refine r_end ?_
 refine t_block ?_
 refine t_loopL (fun m => ⟨[(0, some (.c (.t none (.sl 2 (enS2 encI (enSl 1 encI)) (l))))), (2, some (.c (.t none (.v (.slice none 0 0))))), (3, some (.c (.own 0))), (4, some (.c (.t none (.v (.int .i64 ((m : Int)))))))], [(0, some (.row none 3 true 1 encI (setI (varsL (l.take m)))))], 1⟩ : Nat → St) (fun m => m ≤ l.length) (fun m => l.length - m) 0 ⟨⟨rfl, ⟨rfl, ⟨rfl, ⟨rfl, trivial⟩⟩⟩⟩, ⟨rfl, trivial⟩, rfl⟩ (by exact Nat.zero_le _) ?_
 rintro m hI ih0
 try dsimp only at hI ih0
 have i1 := hI
 refine t_seq ?_
 refine tsr ?_
 refine r_op oM ?_
 refine r_op oM ?_
 refine r_op (o_len rfl rfl rfl) ?_
 refine r_op oB ?_
 refine r_end ?_
 refine t_cond rfl (fun h1 => ?_) (fun h1 => ?_)
 ·
  have h1' := of_decide_eq_true h1
  refine t_skip ?_
  refine t_seq ?_
  refine t_block ?_
  refine tsr ?_
  refine r_op oA ?_
  refine r_end ?_
  refine t_block ?_
  refine t_loopL (fun n => ⟨[(0, some (.c (.t none (.sl 2 (enS2 encI (enSl 1 encI)) (l))))), (2, some (.c (.t none (.v (.slice none 0 0))))), (3, some (.c (.own 0))), (4, some (.c (.t none (.v (.int .i64 ((m : Int))))))), (5, some (.c (.t none (.v (.int .i64 ((n : Int)))))))], [(0, some (.row none 3 true 1 encI (setI (varsL (l.take m) ++ nonneg ((l.getD m (0, [])).2.take n)))))], 1⟩ : Nat → St) (fun n => n ≤ (l.getD m (0, [])).2.length) (fun n => (l.getD m (0, [])).2.length - n) 0 ⟨⟨rfl, ⟨rfl, ⟨rfl, ⟨rfl, ⟨rfl, trivial⟩⟩⟩⟩⟩, ⟨(eqR (by rw [nonneg_zero, List.append_nil])), trivial⟩, rfl⟩ (by exact Nat.zero_le _) ?_
  rintro n hI ih1
  try dsimp only at hI ih1
  have j1 := hI; have hzv := getA_get (l := l) (m := m) (by omega); have vp := varsL_part (n := n) hzv; (have e1 := sz_at (f := (fun (x : Int × (List (Int))) => (x.2).length)) (l := l) (m := m) hzv; (try dsimp only at e1)); have sl := setI_len (varsL (l.take m) ++ nonneg ((l.getD m (0, [])).2.take n)); rw [List.length_append] at sl
  refine t_seq ?_
  refine tsr ?_
  refine r_op oM ?_
  refine r_op oM ?_
  refine r_op oM ?_
  obtain ⟨z2, hz3, b4⟩ := at_get (xs := l) (n := (m : Int)) (by omega) (by omega)
  refine r_op (o_index rfl (by kernel_rfl) rfl rfl b4 hz3) ?_
  refine r_op (o_field rfl (off := 1) (by kernel_rfl) rfl) ?_
  refine r_op (o_load1 rfl (by kernel_rfl) rfl rfl) ?_
  refine r_op (o_len rfl rfl rfl) ?_
  refine r_op oB ?_
  refine r_end ?_
  refine t_cond rfl (fun h5 => ?_) (fun h5 => ?_)
  ·
   have h5' := of_decide_eq_true h5
   refine t_skip ?_
   refine t_seq ?_
   refine t_block ?_
   refine tsr ?_
   refine r_op oM ?_
   refine r_op oM ?_
   refine r_op (o_index rfl (by kernel_rfl) rfl rfl b4 hz3) ?_
   refine r_op (o_field rfl (off := 1) (by kernel_rfl) rfl) ?_
   refine r_op (o_load1 rfl (by kernel_rfl) rfl rfl) ?_
   refine r_op oM ?_
   obtain ⟨z6, hz7, b8⟩ := at_get (xs := z2.2) (n := (n : Int)) (by omega) (by omega)
   refine r_op (o_index rfl (by kernel_rfl) rfl rfl b8 hz7) ?_
   refine r_op (o_load1 rfl (by kernel_rfl) rfl rfl) ?_
   refine r_op oB ?_
   refine r_end ?_
   refine t_cond rfl (fun h9 => ?_) (fun h9 => ?_)
   ·
    have h9' := of_decide_eq_true h9
    refine t_region ?_
    refine r_op oM ?_
    refine r_op oM ?_
    refine r_op oM ?_
    refine r_op (o_index rfl (by kernel_rfl) rfl rfl b4 hz3) ?_
    refine r_op (o_field rfl (off := 1) (by kernel_rfl) rfl) ?_
    refine r_op (o_load1 rfl (by kernel_rfl) rfl rfl) ?_
    refine r_op oM ?_
    refine r_op (o_index rfl (by kernel_rfl) rfl rfl b8 hz7) ?_
    refine r_op (o_load1 rfl (by kernel_rfl) rfl rfl) ?_
    refine r_op (o_callC 0 (l' := putI (setI (varsL (l.take m) ++ nonneg ((l.getD m (0, [])).2.take n))) (z6)) (Go.Proofs.enters_of Tryz.func106 (by kernel_rfl) rfl) (fun U => c_spec_l4Put U  (setI (varsL (l.take m) ++ nonneg ((l.getD m (0, [])).2.take n))) (z6) (by omega)) rfl rfl (.cons rfl (.own rfl) (.cons rfl .t0 .nil))) ?_
    refine r_op oA ?_
    refine r_end ?_
    refine t_endblock ?_
    refine t_region ?_
    refine r_op oM ?_
    refine r_op oB ?_
    refine r_op oA ?_
    refine r_end ?_
    have gd3 := Option.some.inj (hzv.symm.trans hz3); have gd4 := congrArg (fun q => q.2.length) gd3; (try dsimp only at gd4); have hx9 : (l.getD m (0, [])).2[n]? = some z6 := by rw [gd3]; exact hz7
    refine t_le ?_ (ih1 (n + 1) (by (try dsimp only); omega) (by (try dsimp only); omega))
    exact ⟨⟨rfl, ⟨rfl, ⟨rfl, ⟨rfl, ⟨(eqI (wr64 (by omega) (by omega))), trivial⟩⟩⟩⟩⟩, ⟨(eqR (by (rw [nonneg_more hx9 (by omega), ← List.append_assoc, setI_snoc]; done))), trivial⟩, rfl⟩
   ·
    have h9' := of_decide_eq_false h9
    refine t_skip ?_
    refine t_endblock ?_
    refine t_region ?_
    refine r_op oM ?_
    refine r_op oB ?_
    refine r_op oA ?_
    refine r_end ?_
    have gd3 := Option.some.inj (hzv.symm.trans hz3); have gd4 := congrArg (fun q => q.2.length) gd3; (try dsimp only at gd4); have hx9 : (l.getD m (0, [])).2[n]? = some z6 := by rw [gd3]; exact hz7
    refine t_le ?_ (ih1 (n + 1) (by (try dsimp only); omega) (by (try dsimp only); omega))
    exact ⟨⟨rfl, ⟨rfl, ⟨rfl, ⟨rfl, ⟨(eqI (wr64 (by omega) (by omega))), trivial⟩⟩⟩⟩⟩, ⟨(eqR (by (rw [nonneg_same hx9 (by omega)]; done))), trivial⟩, rfl⟩
  ·
   have h5' := of_decide_eq_false h5
   refine t_exit rfl ?_
   refine t_endblock ?_
   refine t_region ?_
   refine r_op oM ?_
   refine r_op oB ?_
   refine r_op oA ?_
   refine r_end ?_
   have gd3 := Option.some.inj (hzv.symm.trans hz3)
   refine t_le ?_ (ih0 (m + 1) (by (try dsimp only); omega) (by (try dsimp only); omega))
   exact ⟨⟨rfl, ⟨rfl, ⟨rfl, ⟨(eqI (wr64 (by omega) (by omega))), trivial⟩⟩⟩⟩, ⟨(eqR (by rw [varsL_step hzv, gd3]; congr 3; exact List.take_of_length_le (by rw [gd3] at j1; omega))), trivial⟩, rfl⟩
 ·
  have h1' := of_decide_eq_false h1
  refine t_exit rfl ?_
  refine tsr ?_
  refine r_op oM ?_
  refine r_op oA ?_
  refine r_end ?_
  refine t_ret Tryz.func128 (.tmp rfl .nil) rfl fun E S w u hI hd => ?_
  refine post_mk hI hd ?_ ⟨eqR ?_, trivial⟩ rfl rfl rfl <;> clear hI hd <;> (try clear ih0) <;> (try clear ih1)
  all_goals first | rfl | ((rw [varsL_end (by omega)]))
set_option maxHeartbeats 1000000 in
set_option maxRecDepth 10000 in
theorem c_spec_l9Rule (code : List Int) (i h : Int) (hc : code.length ≤ 1048600) (hi0 : 0 ≤ i) (hi1 : i ≤ code.length) : MuG Tryz.prog 154 [.c (.ptr 0 0)] [.t none (.sl 1 encU (code)), .t none (.v (.int .i64 (i))), .t none (.v (.int .i64 (h)))] (fun (⟨b, hs, e, lv, rv, i2, h2⟩ : Atoms × Atoms × Bool × Int × Int × Int × Int) => depL (b, hs, e, lv, rv) ∧ hs.length ≤ 2 ∧ 0 ≤ i2 ∧ i2 ≤ code.length) (fun (⟨b, hs, e, lv, rv, i2, h2⟩ : Atoms × Atoms × Bool × Int × Int × Int × Int) => [.t none (.sl 1 encU (code)), .t none (.v (.int .i64 (i2))), .t none (.v (.int .i64 (h2)))]) (fun (⟨b, hs, e, lv, rv, i2, h2⟩ : Atoms × Atoms × Bool × Int × Int × Int × Int) => [(5, some (.row none 103 true 2 (enS2 encI (enSl 1 encI)) (b))), (6, some (.row none 103 true 2 (enS2 encI (enSl 1 encI)) (hs)))]) 7 (fun (⟨b, hs, e, lv, rv, i2, h2⟩ : Atoms × Atoms × Bool × Int × Int × Int × Int) => .agg [.own 5, .own 6, .t none (.v (.bool (e))), .t none (.v (.int .i64 (lv))), .t none (.v (.int .i64 (rv)))]) := by
 refine mu_enterG Tryz.func154 rfl (Nat.le_of_ble_eq_true rfl) fun v0 w S M hM => ?_
 refine tsr ?_
 refine r_op (o_alloc 1 (zs := [.slice none 0 0, .slice none 0 0, .bool (false), .int .i64 (0), .int .i64 (0)]) rfl rfl (by kernel_rfl) rfl) ?_
 refine r_end ?_
 refine t_seq ?_
 refine tsr ?_
 refine r_op oM ?_
 refine r_opX (o_callGM 0 2 3 (pv := some (v0)) (Go.Proofs.enters_of Tryz.func57 (by kernel_rfl) rfl) (c_spec_l1Once (code) (i) (h) (3) (by omega) (by omega) (by omega) (by omega) (by omega)) rfl rfl (.cur rfl (.cons rfl .nil)) rfl (fun ⟨_, _, _⟩ => rfl) (fun _ => rfl) (fun ⟨_, _, _⟩ => rfl) rfl rfl) ?_
 rintro ⟨⟨b1, i22, h23⟩, hq4⟩
 try dsimp only at hq4
 try dsimp only
 refine r_op (o_not rfl rfl) ?_
 refine r_end ?_
 refine t_cond rfl (fun h6 => ?_) (fun h6 => ?_)
 ·
  have h6' := (bnt h6)
  refine tsr ?_
  refine r_op oM ?_
  refine r_opX (o_callGM 0 3 7 (pv := some (v0)) (Go.Proofs.enters_of Tryz.func195 (by kernel_rfl) rfl) (c_spec_l9Known ((code)) ((i22)) ((h23)) (by omega) (by omega) (by omega)) rfl rfl (.cur rfl .nil) rfl (fun ⟨_, _, _, _, _, _, _⟩ => rfl) (fun _ => rfl) (fun ⟨_, _, _, _, _, _, _⟩ => rfl) rfl rfl) ?_
  rintro ⟨⟨b7, hs8, e9, lv10, rv11, i212, h213⟩, hq14⟩
  try dsimp only at hq14
  try dsimp only
  obtain ⟨q15, q16, q17⟩ := hq14
  refine r_op (oS 5) ?_
  refine r_end ?_
  refine t_ret Tryz.func154 (.cells (n := 5) (by kernel_rfl) (by kernel_rfl) rfl rfl rfl .nil) rfl fun E S w u hI hd => ?_
  refine post_mkG (⟨(b7), (hs8), (e9), (lv10), (rv11), (i212), (h213)⟩) ?_ hI hd ?_ ⟨rfl, ⟨rfl, ⟨rfl, trivial⟩⟩⟩ rfl rfl <;> clear hI hd <;> (try clear ih0) <;> (try clear ih1)
  · (try dsimp only) <;> ((exact ⟨by assumption, by assumption, by omega⟩))
  · rfl
 ·
  have h6' := (bnf h6)
  refine t_skip ?_
  refine tsr ?_
  refine r_op (o_build rfl (pl := [(0, 1), (1, 1), (2, 1), (3, 1), (4, 1)]) (zs := [.slice none 0 0, .slice none 0 0, .bool (false), .int .i64 (0), .int .i64 (0)]) (by kernel_rfl) (by kernel_rfl) rfl rfl rfl) ?_
  refine r_op (o_alloc 3 (zs := [.slice none 0 0, .slice none 0 0, .bool (false), .int .i64 (0), .int .i64 (0)]) rfl rfl (by kernel_rfl) rfl) ?_
  refine r_op (oS 5) ?_
  refine r_end ?_
  refine t_seq ?_
  refine tsr ?_
  refine r_op oM ?_
  refine r_opX (o_callGM 0 4 5 (pv := some (v0)) (Go.Proofs.enters_of Tryz.func41 (by kernel_rfl) rfl) (c_spec_l1Below ((code)) ((i22)) ((h23)) (2) (by omega) (by omega) (by omega) (by omega) (by omega)) rfl rfl (.cur rfl (.cons rfl .nil)) rfl (fun ⟨_, _, _⟩ => rfl) (fun _ => rfl) (fun ⟨_, _, _⟩ => rfl) rfl rfl) ?_
  rintro ⟨⟨x18, i219, h220⟩, hq21⟩
  try dsimp only at hq21
  try dsimp only
  obtain ⟨q22, q23⟩ := hq21
  refine r_op oB ?_
  refine r_op oA ?_
  refine r_end ?_
  refine t_block ?_
  refine gt_nilb 5 (b := 3) (o := 0) (et := 103) (sz := 2) true (enS2 encI (enSl 1 encI)) rfl rfl rfl ?_
  refine gt_nilb 6 (b := 3) (o := 1) (et := 103) (sz := 2) true (enS2 encI (enSl 1 encI)) rfl rfl rfl ?_
  refine t_loopL (fun (kk, bs, i3, h3) => ⟨[(0, some (.c (.ptr 0 0))), (2, some (.c (.ptr 1 0))), (3, some (.c (.ptr 3 0))), (4, some (.c (.t none (.v (.int .i64 (kk))))))], [(0, some (.pbox (v0) [.t none (.sl 1 encU (code)), .t none (.v (.int .i64 (i3))), .t none (.v (.int .i64 (h3)))])), (1, some (.box [.t none (.v (.slice none 0 0)), .t none (.v (.slice none 0 0)), .t none (.v (.bool (false))), .t none (.v (.int .i64 (0))), .t none (.v (.int .i64 (0)))])), (3, some (.box [.own 5, .own 6, .t none (.v (.bool (false))), .t none (.v (.int .i64 (0))), .t none (.v (.int .i64 (0)))])), (5, some (.row none 103 true 2 (enS2 encI (enSl 1 encI)) (bs))), (6, some (.row none 103 true 2 (enS2 encI (enSl 1 encI)) ([])))], 7⟩ : Int × Atoms × Int × Int → St) (fun (kk, bs, i3, h3) => (0 ≤ kk ∧ kk ≤ 2) ∧ (1 ≤ IntKind.i64.wrap (1 + (x18)) ∧ IntKind.i64.wrap (1 + (x18)) ≤ 2) ∧ ((bs.length : Int) + kk = IntKind.i64.wrap (1 + (x18))) ∧ (∀ a ∈ bs, atomL a) ∧ (0 ≤ i3 ∧ i3 ≤ code.length)) (fun (kk, bs, i3, h3) => kk.toNat) (IntKind.i64.wrap (1 + (x18)), [], (i219), (h220)) ⟨⟨rfl, ⟨rfl, ⟨rfl, ⟨rfl, trivial⟩⟩⟩⟩, ⟨rfl, ⟨rfl, ⟨rfl, ⟨rfl, ⟨rfl, trivial⟩⟩⟩⟩⟩, rfl⟩ (by exact ⟨(by (try dsimp only); ((try simp only [IntKind.wrap_i64] at *); omega)), (by (try dsimp only); ((try simp only [IntKind.wrap_i64] at *); omega)), (by (try dsimp only); simp), (fun a ha => by simp at ha), (by (try dsimp only); omega)⟩) ?_
  rintro ⟨kk, bs, i3, h3⟩ hI ih0
  try dsimp only at hI ih0
  obtain ⟨b1, b2, b3, b4, b5⟩ := hI
  refine t_seq ?_
  refine tsr ?_
  refine r_op oM ?_
  refine r_op oB ?_
  refine r_end ?_
  refine t_cond rfl (fun h24 => ?_) (fun h24 => ?_)
  ·
   have h24' := of_decide_eq_true h24
   refine t_skip ?_
   refine t_seq ?_
   refine t_block ?_
   refine t_draw (fun i => !(Nat.beq i 4 || Nat.beq i 5 || Nat.beq i 7 || Nat.beq i 9)) (by kernel_rfl) ?_
   refine d_takeP 0 rfl rfl (by kernel_rfl) (by kernel_rfl) (by kernel_rfl) (pw_fieldb (off := 0) (by kernel_rfl) rfl) ?_
   refine d_takeP 2 rfl rfl (by kernel_rfl) (by kernel_rfl) (by kernel_rfl) (pw_move rfl) ?_
   refine dT 3 rfl pM ?_
   refine d_twoX 1 4 rfl rfl (by kernel_rfl) rfl rfl (osX oL) (o_callGM 0 7 8 (pv := some (v0)) (Go.Proofs.enters_of Tryz.func41 (by kernel_rfl) rfl) (c_spec_l1Below (code) (i3) (h3) (5) (by omega) (by omega) (by omega) (by omega) (by omega)) rfl rfl (.cur rfl (.cons rfl .nil)) rfl (fun ⟨_, _, _⟩ => rfl) (fun _ => rfl) (fun ⟨_, _, _⟩ => rfl) rfl rfl) ?_ ?_
   ·
    rintro ⟨⟩
    refine dOX 4 rfl (o_callGM 0 7 8 (pv := some (v0)) (Go.Proofs.enters_of Tryz.func41 (by kernel_rfl) rfl) (c_spec_l1Below (code) (i3) (h3) (5) (by omega) (by omega) (by omega) (by omega) (by omega)) rfl rfl (.cur rfl (.cons rfl .nil)) rfl (fun ⟨_, _, _⟩ => rfl) (fun _ => rfl) (fun ⟨_, _, _⟩ => rfl) rfl rfl) ?_
    rintro ⟨⟨x31, i232, h233⟩, hq34⟩
    try dsimp only at hq34
    try dsimp only
    obtain ⟨q35, q36⟩ := hq34
    refine dOX 5 rfl (o_callGM 0 8 13 (pv := some (v0)) (Go.Proofs.enters_of Tryz.func163 (by kernel_rfl) rfl) (c_spec_l9Atom ((code)) ((i232)) ((h233)) ((x31)) (3) (by omega) (by omega) (by omega) (by omega) (by omega)) rfl rfl (.cur rfl (.cons rfl (.cons rfl .nil))) rfl (fun ⟨_, _, _⟩ => rfl) (fun _ => rfl) (fun ⟨_, _, _⟩ => rfl) rfl rfl) ?_
    rintro ⟨⟨ts37, i238, h239⟩, hq40⟩
    try dsimp only at hq40
    try dsimp only
    obtain ⟨q41, q42, q43⟩ := hq40
    have hy9 : ∀ x ∈ ts37, -3 ≤ x ∧ x ≤ 4 := (by assumption)
    refine dO 6 rfl (o_litS 13 (e := 103) (sz := 2) (zs := [.int .i64 (0), .slice none 0 0]) rfl rfl (by kernel_rfl) rfl rfl rfl rfl rfl) ?_
    refine dO 7 rfl (o_append 5 (e := 103) (sz := 2) (by' := 32) ((((x31)), (ts37))) rfl (by kernel_rfl) rfl rfl rfl rfl rfl rfl (.cons .sc (.take (.own rfl) rfl .nil)) rfl (by omega) (by omega)) ?_
    refine dT 8 rfl (pF 0) ?_
    refine dO 9 rfl (oS 1) ?_
    refine d_end (by kernel_rfl) ?_
    refine t_endblock ?_
    refine t_region ?_
    refine r_op oM ?_
    refine r_op oB ?_
    refine r_op oA ?_
    refine r_end ?_
    refine t_le ?_ (ih0 (IntKind.i64.wrap (kk - 1), bs ++ [(((x31)), (ts37))], (i238), (h239)) (by (try dsimp only); ((try simp only [IntKind.wrap_i64] at *); omega)) (by (try dsimp only); exact ⟨(by ((try simp only [IntKind.wrap_i64] at *); omega)), b2, (by (simp only [List.length_append, List.length_singleton]); ((try simp only [IntKind.wrap_i64] at *); omega)), mem_snoc b4 ⟨(by ((try simp only [IntKind.wrap_i64] at *); omega)), (by (try dsimp only); omega), (fun x hx => by have e9 := hy9 x hx; omega)⟩, by omega⟩))
    exact ⟨⟨rfl, ⟨rfl, ⟨rfl, ⟨rfl, trivial⟩⟩⟩⟩, ⟨rfl, ⟨rfl, ⟨rfl, ⟨rfl, ⟨rfl, trivial⟩⟩⟩⟩⟩, rfl⟩
   ·
    rintro ⟨⟨x25, i226, h227⟩, hq28⟩
    try dsimp only at hq28
    try dsimp only
    obtain ⟨q29, q30⟩ := hq28
    refine d_twoX 1 5 rfl rfl (by kernel_rfl) rfl rfl (osX oL) (o_callGM 0 8 13 (pv := some (v0)) (Go.Proofs.enters_of Tryz.func163 (by kernel_rfl) rfl) (c_spec_l9Atom ((code)) ((i226)) ((h227)) ((x25)) (3) (by omega) (by omega) (by omega) (by omega) (by omega)) rfl rfl (.cur rfl (.cons rfl (.cons rfl .nil))) rfl (fun ⟨_, _, _⟩ => rfl) (fun _ => rfl) (fun ⟨_, _, _⟩ => rfl) rfl rfl) ?_ ?_
    ·
     rintro ⟨⟩
     refine dOX 5 rfl (o_callGM 0 8 13 (pv := some (v0)) (Go.Proofs.enters_of Tryz.func163 (by kernel_rfl) rfl) (c_spec_l9Atom ((code)) ((i226)) ((h227)) ((x25)) (3) (by omega) (by omega) (by omega) (by omega) (by omega)) rfl rfl (.cur rfl (.cons rfl (.cons rfl .nil))) rfl (fun ⟨_, _, _⟩ => rfl) (fun _ => rfl) (fun ⟨_, _, _⟩ => rfl) rfl rfl) ?_
     rintro ⟨⟨ts51, i252, h253⟩, hq54⟩
     try dsimp only at hq54
     try dsimp only
     obtain ⟨q55, q56, q57⟩ := hq54
     have hy9 : ∀ x ∈ ts51, -3 ≤ x ∧ x ≤ 4 := (by assumption)
     refine dO 6 rfl (o_litS 13 (e := 103) (sz := 2) (zs := [.int .i64 (0), .slice none 0 0]) rfl rfl (by kernel_rfl) rfl rfl rfl rfl rfl) ?_
     refine dO 7 rfl (o_append 5 (e := 103) (sz := 2) (by' := 32) ((((x25)), (ts51))) rfl (by kernel_rfl) rfl rfl rfl rfl rfl rfl (.cons .sc (.take (.own rfl) rfl .nil)) rfl (by omega) (by omega)) ?_
     refine dT 8 rfl (pF 0) ?_
     refine dO 9 rfl (oS 1) ?_
     refine d_end (by kernel_rfl) ?_
     refine t_endblock ?_
     refine t_region ?_
     refine r_op oM ?_
     refine r_op oB ?_
     refine r_op oA ?_
     refine r_end ?_
     refine t_le ?_ (ih0 (IntKind.i64.wrap (kk - 1), bs ++ [(((x25)), (ts51))], (i252), (h253)) (by (try dsimp only); ((try simp only [IntKind.wrap_i64] at *); omega)) (by (try dsimp only); exact ⟨(by ((try simp only [IntKind.wrap_i64] at *); omega)), b2, (by (simp only [List.length_append, List.length_singleton]); ((try simp only [IntKind.wrap_i64] at *); omega)), mem_snoc b4 ⟨(by ((try simp only [IntKind.wrap_i64] at *); omega)), (by (try dsimp only); omega), (fun x hx => by have e9 := hy9 x hx; omega)⟩, by omega⟩))
     exact ⟨⟨rfl, ⟨rfl, ⟨rfl, ⟨rfl, trivial⟩⟩⟩⟩, ⟨rfl, ⟨rfl, ⟨rfl, ⟨rfl, ⟨rfl, trivial⟩⟩⟩⟩⟩, rfl⟩
    ·
     rintro ⟨⟨ts44, i245, h246⟩, hq47⟩
     try dsimp only at hq47
     try dsimp only
     obtain ⟨q48, q49, q50⟩ := hq47
     have hy9 : ∀ x ∈ ts44, -3 ≤ x ∧ x ≤ 4 := (by assumption)
     refine dT 1 rfl pL ?_
     refine dO 6 rfl (o_litS 13 (e := 103) (sz := 2) (zs := [.int .i64 (0), .slice none 0 0]) rfl rfl (by kernel_rfl) rfl rfl rfl rfl rfl) ?_
     refine dO 7 rfl (o_append 5 (e := 103) (sz := 2) (by' := 32) ((((x25)), (ts44))) rfl (by kernel_rfl) rfl rfl rfl rfl rfl rfl (.cons .sc (.take (.own rfl) rfl .nil)) rfl (by omega) (by omega)) ?_
     refine dT 8 rfl (pF 0) ?_
     refine dO 9 rfl (oS 1) ?_
     refine d_end (by kernel_rfl) ?_
     refine t_endblock ?_
     refine t_region ?_
     refine r_op oM ?_
     refine r_op oB ?_
     refine r_op oA ?_
     refine r_end ?_
     refine t_le ?_ (ih0 (IntKind.i64.wrap (kk - 1), bs ++ [(((x25)), (ts44))], (i245), (h246)) (by (try dsimp only); ((try simp only [IntKind.wrap_i64] at *); omega)) (by (try dsimp only); exact ⟨(by ((try simp only [IntKind.wrap_i64] at *); omega)), b2, (by (simp only [List.length_append, List.length_singleton]); ((try simp only [IntKind.wrap_i64] at *); omega)), mem_snoc b4 ⟨(by ((try simp only [IntKind.wrap_i64] at *); omega)), (by (try dsimp only); omega), (fun x hx => by have e9 := hy9 x hx; omega)⟩, by omega⟩))
     exact ⟨⟨rfl, ⟨rfl, ⟨rfl, ⟨rfl, trivial⟩⟩⟩⟩, ⟨rfl, ⟨rfl, ⟨rfl, ⟨rfl, ⟨rfl, trivial⟩⟩⟩⟩⟩, rfl⟩
  ·
   have h24' := of_decide_eq_false h24
   refine t_exit rfl ?_
   refine tsr ?_
   refine r_op (oF 0) ?_
   refine r_op oL ?_
   refine r_op (o_call 7 8 false (Go.Proofs.enters_of Tryz.func128 (by kernel_rfl) rfl) (c_spec_Variables (bs) (by (have e7 := szA_L b4; omega))) rfl (.cons rfl (.c (.own rfl)) .nil) rfl rfl rfl) ?_
   refine r_op oA ?_
   refine r_end ?_
   refine t_seq ?_
   refine tsr ?_
   refine r_op oM ?_
   refine r_op (o_leno rfl rfl rfl rfl) ?_
   refine r_op oB ?_
   refine r_op oM ?_
   refine r_guard rfl rfl rfl (fun g58 => ?_) (fun g58 => ?_)
   ·
    have g58' := of_decide_eq_true g58
    refine r_op oM ?_
    refine r_guard rfl rfl rfl (fun _ => ?_) (nc g58)
    refine r_opX (o_callGM 0 8 9 (pv := some (v0)) (Go.Proofs.enters_of Tryz.func57 (by kernel_rfl) rfl) (c_spec_l1Once (code) (i3) (h3) (3) (by omega) (by omega) (by omega) (by omega) (by omega)) rfl rfl (.cur rfl (.cons rfl .nil)) rfl (fun ⟨_, _, _⟩ => rfl) (fun _ => rfl) (fun ⟨_, _, _⟩ => rfl) rfl rfl) ?_
    rintro ⟨⟨b59, i260, h261⟩, hq62⟩
    try dsimp only at hq62
    try dsimp only
    refine r_op (o_pickT rfl rfl g58 rfl) ?_
    refine r_end ?_
    refine t_cond rfl (fun h64 => ?_) (fun h64 => ?_)
    ·
     have h64' := h64
     refine tsr ?_
     refine r_op (oF 2) ?_
     refine r_op (oS 1) ?_
     refine etr ?_
     refine r_op oM ?_
     obtain ⟨z65, hz66, b67⟩ := at_get (xs := setI (varsL (bs))) (n := 0) (by omega) (by omega)
     refine r_op (o_indexo rfl (by kernel_rfl) rfl rfl rfl b67 (at_lt b67 hz66)) ?_
     refine r_op (o_load1o rfl (by kernel_rfl) rfl rfl rfl hz66) ?_
     refine r_op (oF 3) ?_
     refine r_op (oS 1) ?_
     refine etr ?_
     refine r_op oM ?_
     obtain ⟨z68, hz69, b70⟩ := at_get (xs := setI (varsL (bs))) (n := 1) (by omega) (by omega)
     refine r_op (o_indexo rfl (by kernel_rfl) rfl rfl rfl b70 (at_lt b70 hz69)) ?_
     refine r_op (o_load1o rfl (by kernel_rfl) rfl rfl rfl hz69) ?_
     refine r_op (oF 4) ?_
     refine r_op (oS 1) ?_
     refine etr ?_
     refine r_op (oC 5) ?_
     refine r_op (oS 5) ?_
     refine r_end ?_
     refine t_ret Tryz.func154 (.cells (n := 5) (by kernel_rfl) (by kernel_rfl) rfl rfl rfl .nil) rfl fun E S w u hI hd => ?_
     refine post_mkG (⟨bs, [], true, z65, z68, (i260), (h261)⟩) ?_ hI hd ?_ ⟨rfl, ⟨rfl, ⟨rfl, trivial⟩⟩⟩ rfl rfl <;> clear hI hd <;> (try clear ih0) <;> (try clear ih1)
     · (try dsimp only) <;> ((refine ⟨⟨by (try dsimp only); omega, by (try dsimp only); (simp; done), b4, (by (intro a ha; simp at ha)), ?_, ?_⟩, by (simp; done), by omega⟩ <;> (try dsimp only) <;> (have e1 := vars_in b4 _ ((setI_mem _ _).1 (List.mem_of_getElem? hz66)); have e2 := vars_in b4 _ ((setI_mem _ _).1 (List.mem_of_getElem? hz69)); omega)))
     · rfl
    ·
     have h64' := h64
     refine t_skip ?_
     refine t_seq ?_
     refine tsr ?_
     refine r_op oM ?_
     refine r_opX (o_callGM 0 9 10 (pv := some (v0)) (Go.Proofs.enters_of Tryz.func41 (by kernel_rfl) rfl) (c_spec_l1Below ((code)) ((i260)) ((h261)) (2) (by omega) (by omega) (by omega) (by omega) (by omega)) rfl rfl (.cur rfl (.cons rfl .nil)) rfl (fun ⟨_, _, _⟩ => rfl) (fun _ => rfl) (fun ⟨_, _, _⟩ => rfl) rfl rfl) ?_
     rintro ⟨⟨x71, i272, h273⟩, hq74⟩
     try dsimp only at hq74
     try dsimp only
     obtain ⟨q75, q76⟩ := hq74
     refine r_op oB ?_
     refine r_op oA ?_
     refine r_end ?_
     refine t_block ?_
     refine t_loopL (fun (kk, gs, i3, h3) => ⟨[(0, some (.c (.ptr 0 0))), (2, some (.c (.ptr 1 0))), (3, some (.c (.ptr 3 0))), (6, some (.c (.t none (.v (.int .i64 (kk))))))], [(0, some (.pbox (v0) [.t none (.sl 1 encU (code)), .t none (.v (.int .i64 (i3))), .t none (.v (.int .i64 (h3)))])), (1, some (.box [.t none (.v (.slice none 0 0)), .t none (.v (.slice none 0 0)), .t none (.v (.bool (false))), .t none (.v (.int .i64 (0))), .t none (.v (.int .i64 (0)))])), (3, some (.box [.own 5, .own 6, .t none (.v (.bool (false))), .t none (.v (.int .i64 (0))), .t none (.v (.int .i64 (0)))])), (5, some (.row none 103 true 2 (enS2 encI (enSl 1 encI)) (bs))), (6, some (.row none 103 true 2 (enS2 encI (enSl 1 encI)) (gs))), (7, some (.row none 3 true 1 encI (setI (varsL (bs)))))], 10⟩ : Int × Atoms × Int × Int → St) (fun (kk, gs, i3, h3) => (0 ≤ kk ∧ kk ≤ 2) ∧ (1 ≤ IntKind.i64.wrap (1 + (x71)) ∧ IntKind.i64.wrap (1 + (x71)) ≤ 2) ∧ ((gs.length : Int) + kk = IntKind.i64.wrap (1 + (x71))) ∧ (∀ a ∈ gs, atomL a) ∧ (0 ≤ i3 ∧ i3 ≤ code.length)) (fun (kk, gs, i3, h3) => kk.toNat) (IntKind.i64.wrap (1 + (x71)), [], (i272), (h273)) ⟨⟨rfl, ⟨rfl, ⟨rfl, ⟨rfl, trivial⟩⟩⟩⟩, ⟨rfl, ⟨rfl, ⟨rfl, ⟨rfl, ⟨rfl, ⟨rfl, trivial⟩⟩⟩⟩⟩⟩, rfl⟩ (by exact ⟨(by (try dsimp only); ((try simp only [IntKind.wrap_i64] at *); omega)), (by (try dsimp only); ((try simp only [IntKind.wrap_i64] at *); omega)), (by (try dsimp only); simp), (fun a ha => by simp at ha), (by (try dsimp only); omega)⟩) ?_
     rintro ⟨kk, gs, i3, h3⟩ hI ih1
     try dsimp only at hI ih1
     obtain ⟨g1, g2, g3, g4, g5⟩ := hI
     refine t_seq ?_
     refine tsr ?_
     refine r_op oM ?_
     refine r_op oB ?_
     refine r_end ?_
     refine t_cond rfl (fun h77 => ?_) (fun h77 => ?_)
     ·
      have h77' := of_decide_eq_true h77
      refine t_skip ?_
      refine t_seq ?_
      refine t_block ?_
      refine t_draw (fun i => !(Nat.beq i 4 || Nat.beq i 6 || Nat.beq i 8 || Nat.beq i 10)) (by kernel_rfl) ?_
      refine d_takeP 0 rfl rfl (by kernel_rfl) (by kernel_rfl) (by kernel_rfl) (pw_fieldb (off := 1) (by kernel_rfl) rfl) ?_
      refine d_takeP 2 rfl rfl (by kernel_rfl) (by kernel_rfl) (by kernel_rfl) (pw_move rfl) ?_
      refine dT 3 rfl pM ?_
      refine d_twoX 1 4 rfl rfl (by kernel_rfl) rfl rfl (osX oL) (o_callGM 0 10 11 (pv := some (v0)) (Go.Proofs.enters_of Tryz.func41 (by kernel_rfl) rfl) (c_spec_l1Below (code) (i3) (h3) (3) (by omega) (by omega) (by omega) (by omega) (by omega)) rfl rfl (.cur rfl (.cons rfl .nil)) rfl (fun ⟨_, _, _⟩ => rfl) (fun _ => rfl) (fun ⟨_, _, _⟩ => rfl) rfl rfl) ?_ ?_
      ·
       rintro ⟨⟩
       refine dOX 4 rfl (o_callGM 0 10 11 (pv := some (v0)) (Go.Proofs.enters_of Tryz.func41 (by kernel_rfl) rfl) (c_spec_l1Below (code) (i3) (h3) (3) (by omega) (by omega) (by omega) (by omega) (by omega)) rfl rfl (.cur rfl (.cons rfl .nil)) rfl (fun ⟨_, _, _⟩ => rfl) (fun _ => rfl) (fun ⟨_, _, _⟩ => rfl) rfl rfl) ?_
       rintro ⟨⟨x84, i285, h286⟩, hq87⟩
       try dsimp only at hq87
       try dsimp only
       obtain ⟨q88, q89⟩ := hq87
       refine dT 5 rfl pB ?_
       refine dOX 6 rfl (o_callGM 0 11 16 (pv := some (v0)) (Go.Proofs.enters_of Tryz.func163 (by kernel_rfl) rfl) (c_spec_l9Atom ((code)) ((i285)) ((h286)) (IntKind.i64.wrap (2 + (x84))) (4) (by omega) (by omega) (by omega) (by (simp only [IntKind.wrap_i64] at *; omega)) (by omega)) rfl rfl (.cur rfl (.cons rfl (.cons rfl .nil))) rfl (fun ⟨_, _, _⟩ => rfl) (fun _ => rfl) (fun ⟨_, _, _⟩ => rfl) rfl rfl) ?_
       rintro ⟨⟨ts90, i291, h292⟩, hq93⟩
       try dsimp only at hq93
       try dsimp only
       obtain ⟨q94, q95, q96⟩ := hq93
       have hy9 : ∀ x ∈ ts90, -3 ≤ x ∧ x ≤ 4 := (by assumption)
       refine dO 7 rfl (o_litS 16 (e := 103) (sz := 2) (zs := [.int .i64 (0), .slice none 0 0]) rfl rfl (by kernel_rfl) rfl rfl rfl rfl rfl) ?_
       refine dO 8 rfl (o_append 6 (e := 103) (sz := 2) (by' := 32) (((IntKind.i64.wrap (2 + (x84))), (ts90))) rfl (by kernel_rfl) rfl rfl rfl rfl rfl rfl (.cons .sc (.take (.own rfl) rfl .nil)) rfl (by omega) (by omega)) ?_
       refine dT 9 rfl (pF 1) ?_
       refine dO 10 rfl (oS 1) ?_
       refine d_end (by kernel_rfl) ?_
       refine t_endblock ?_
       refine t_region ?_
       refine r_op oM ?_
       refine r_op oB ?_
       refine r_op oA ?_
       refine r_end ?_
       refine t_le ?_ (ih1 (IntKind.i64.wrap (kk - 1), gs ++ [((IntKind.i64.wrap (2 + (x84))), (ts90))], (i291), (h292)) (by (try dsimp only); ((try simp only [IntKind.wrap_i64] at *); omega)) (by (try dsimp only); exact ⟨(by ((try simp only [IntKind.wrap_i64] at *); omega)), g2, (by (simp only [List.length_append, List.length_singleton]); ((try simp only [IntKind.wrap_i64] at *); omega)), mem_snoc g4 ⟨(by ((try simp only [IntKind.wrap_i64] at *); omega)), (by (try dsimp only); omega), (fun x hx => by have e9 := hy9 x hx; omega)⟩, by omega⟩))
       exact ⟨⟨rfl, ⟨rfl, ⟨rfl, ⟨rfl, trivial⟩⟩⟩⟩, ⟨rfl, ⟨rfl, ⟨rfl, ⟨rfl, ⟨rfl, ⟨rfl, trivial⟩⟩⟩⟩⟩⟩, rfl⟩
      ·
       rintro ⟨⟨x78, i279, h280⟩, hq81⟩
       try dsimp only at hq81
       try dsimp only
       obtain ⟨q82, q83⟩ := hq81
       refine dT 5 rfl pB ?_
       refine d_twoX 1 6 rfl rfl (by kernel_rfl) rfl rfl (osX oL) (o_callGM 0 11 16 (pv := some (v0)) (Go.Proofs.enters_of Tryz.func163 (by kernel_rfl) rfl) (c_spec_l9Atom ((code)) ((i279)) ((h280)) (IntKind.i64.wrap (2 + (x78))) (4) (by omega) (by omega) (by omega) (by (simp only [IntKind.wrap_i64] at *; omega)) (by omega)) rfl rfl (.cur rfl (.cons rfl (.cons rfl .nil))) rfl (fun ⟨_, _, _⟩ => rfl) (fun _ => rfl) (fun ⟨_, _, _⟩ => rfl) rfl rfl) ?_ ?_
       ·
        rintro ⟨⟩
        refine dOX 6 rfl (o_callGM 0 11 16 (pv := some (v0)) (Go.Proofs.enters_of Tryz.func163 (by kernel_rfl) rfl) (c_spec_l9Atom ((code)) ((i279)) ((h280)) (IntKind.i64.wrap (2 + (x78))) (4) (by omega) (by omega) (by omega) (by (simp only [IntKind.wrap_i64] at *; omega)) (by omega)) rfl rfl (.cur rfl (.cons rfl (.cons rfl .nil))) rfl (fun ⟨_, _, _⟩ => rfl) (fun _ => rfl) (fun ⟨_, _, _⟩ => rfl) rfl rfl) ?_
        rintro ⟨⟨ts104, i2105, h2106⟩, hq107⟩
        try dsimp only at hq107
        try dsimp only
        obtain ⟨q108, q109, q110⟩ := hq107
        have hy9 : ∀ x ∈ ts104, -3 ≤ x ∧ x ≤ 4 := (by assumption)
        refine dO 7 rfl (o_litS 16 (e := 103) (sz := 2) (zs := [.int .i64 (0), .slice none 0 0]) rfl rfl (by kernel_rfl) rfl rfl rfl rfl rfl) ?_
        refine dO 8 rfl (o_append 6 (e := 103) (sz := 2) (by' := 32) (((IntKind.i64.wrap (2 + (x78))), (ts104))) rfl (by kernel_rfl) rfl rfl rfl rfl rfl rfl (.cons .sc (.take (.own rfl) rfl .nil)) rfl (by omega) (by omega)) ?_
        refine dT 9 rfl (pF 1) ?_
        refine dO 10 rfl (oS 1) ?_
        refine d_end (by kernel_rfl) ?_
        refine t_endblock ?_
        refine t_region ?_
        refine r_op oM ?_
        refine r_op oB ?_
        refine r_op oA ?_
        refine r_end ?_
        refine t_le ?_ (ih1 (IntKind.i64.wrap (kk - 1), gs ++ [((IntKind.i64.wrap (2 + (x78))), (ts104))], (i2105), (h2106)) (by (try dsimp only); ((try simp only [IntKind.wrap_i64] at *); omega)) (by (try dsimp only); exact ⟨(by ((try simp only [IntKind.wrap_i64] at *); omega)), g2, (by (simp only [List.length_append, List.length_singleton]); ((try simp only [IntKind.wrap_i64] at *); omega)), mem_snoc g4 ⟨(by ((try simp only [IntKind.wrap_i64] at *); omega)), (by (try dsimp only); omega), (fun x hx => by have e9 := hy9 x hx; omega)⟩, by omega⟩))
        exact ⟨⟨rfl, ⟨rfl, ⟨rfl, ⟨rfl, trivial⟩⟩⟩⟩, ⟨rfl, ⟨rfl, ⟨rfl, ⟨rfl, ⟨rfl, ⟨rfl, trivial⟩⟩⟩⟩⟩⟩, rfl⟩
       ·
        rintro ⟨⟨ts97, i298, h299⟩, hq100⟩
        try dsimp only at hq100
        try dsimp only
        obtain ⟨q101, q102, q103⟩ := hq100
        have hy9 : ∀ x ∈ ts97, -3 ≤ x ∧ x ≤ 4 := (by assumption)
        refine dT 1 rfl pL ?_
        refine dO 7 rfl (o_litS 16 (e := 103) (sz := 2) (zs := [.int .i64 (0), .slice none 0 0]) rfl rfl (by kernel_rfl) rfl rfl rfl rfl rfl) ?_
        refine dO 8 rfl (o_append 6 (e := 103) (sz := 2) (by' := 32) (((IntKind.i64.wrap (2 + (x78))), (ts97))) rfl (by kernel_rfl) rfl rfl rfl rfl rfl rfl (.cons .sc (.take (.own rfl) rfl .nil)) rfl (by omega) (by omega)) ?_
        refine dT 9 rfl (pF 1) ?_
        refine dO 10 rfl (oS 1) ?_
        refine d_end (by kernel_rfl) ?_
        refine t_endblock ?_
        refine t_region ?_
        refine r_op oM ?_
        refine r_op oB ?_
        refine r_op oA ?_
        refine r_end ?_
        refine t_le ?_ (ih1 (IntKind.i64.wrap (kk - 1), gs ++ [((IntKind.i64.wrap (2 + (x78))), (ts97))], (i298), (h299)) (by (try dsimp only); ((try simp only [IntKind.wrap_i64] at *); omega)) (by (try dsimp only); exact ⟨(by ((try simp only [IntKind.wrap_i64] at *); omega)), g2, (by (simp only [List.length_append, List.length_singleton]); ((try simp only [IntKind.wrap_i64] at *); omega)), mem_snoc g4 ⟨(by ((try simp only [IntKind.wrap_i64] at *); omega)), (by (try dsimp only); omega), (fun x hx => by have e9 := hy9 x hx; omega)⟩, by omega⟩))
        exact ⟨⟨rfl, ⟨rfl, ⟨rfl, ⟨rfl, trivial⟩⟩⟩⟩, ⟨rfl, ⟨rfl, ⟨rfl, ⟨rfl, ⟨rfl, ⟨rfl, trivial⟩⟩⟩⟩⟩⟩, rfl⟩
     ·
      have h77' := of_decide_eq_false h77
      refine t_exit rfl ?_
      refine tsr ?_
      refine r_op (oC 5) ?_
      refine r_op (oS 5) ?_
      refine r_end ?_
      refine t_ret Tryz.func154 (.cells (n := 5) (by kernel_rfl) (by kernel_rfl) rfl rfl rfl .nil) rfl fun E S w u hI hd => ?_
      refine post_mkG (⟨bs, gs, false, 0, 0, i3, h3⟩) ?_ hI hd ?_ ⟨rfl, ⟨rfl, ⟨rfl, trivial⟩⟩⟩ rfl rfl <;> clear hI hd <;> (try clear ih0) <;> (try clear ih1)
      · (try dsimp only) <;> ((refine ⟨⟨by (try dsimp only); omega, by (try dsimp only); (omega), b4, (by exact g4), ?_, ?_⟩, by (omega), by omega⟩ <;> (try dsimp only) <;> (omega)))
      · rfl
   ·
    have g58' := of_decide_eq_false g58
    refine r_guard rfl rfl rfl (ncf g58) (fun _ => ?_)
    refine r_op (o_pickF rfl rfl g58 rfl) ?_
    refine r_end ?_
    refine t_cond rfl (ncf rfl) (fun _ => ?_)
    refine t_skip ?_
    refine t_seq ?_
    refine tsr ?_
    refine r_op oM ?_
    refine r_opX (o_callGM 0 8 9 (pv := some (v0)) (Go.Proofs.enters_of Tryz.func41 (by kernel_rfl) rfl) (c_spec_l1Below (code) (i3) (h3) (2) (by omega) (by omega) (by omega) (by omega) (by omega)) rfl rfl (.cur rfl (.cons rfl .nil)) rfl (fun ⟨_, _, _⟩ => rfl) (fun _ => rfl) (fun ⟨_, _, _⟩ => rfl) rfl rfl) ?_
    rintro ⟨⟨x111, i2112, h2113⟩, hq114⟩
    try dsimp only at hq114
    try dsimp only
    obtain ⟨q115, q116⟩ := hq114
    refine r_op oB ?_
    refine r_op oA ?_
    refine r_end ?_
    refine t_block ?_
    refine t_loopL (fun (kk, gs, i3, h3) => ⟨[(0, some (.c (.ptr 0 0))), (2, some (.c (.ptr 1 0))), (3, some (.c (.ptr 3 0))), (6, some (.c (.t none (.v (.int .i64 (kk))))))], [(0, some (.pbox (v0) [.t none (.sl 1 encU (code)), .t none (.v (.int .i64 (i3))), .t none (.v (.int .i64 (h3)))])), (1, some (.box [.t none (.v (.slice none 0 0)), .t none (.v (.slice none 0 0)), .t none (.v (.bool (false))), .t none (.v (.int .i64 (0))), .t none (.v (.int .i64 (0)))])), (3, some (.box [.own 5, .own 6, .t none (.v (.bool (false))), .t none (.v (.int .i64 (0))), .t none (.v (.int .i64 (0)))])), (5, some (.row none 103 true 2 (enS2 encI (enSl 1 encI)) (bs))), (6, some (.row none 103 true 2 (enS2 encI (enSl 1 encI)) (gs))), (7, some (.row none 3 true 1 encI (setI (varsL (bs)))))], 9⟩ : Int × Atoms × Int × Int → St) (fun (kk, gs, i3, h3) => (0 ≤ kk ∧ kk ≤ 2) ∧ (1 ≤ IntKind.i64.wrap (1 + (x111)) ∧ IntKind.i64.wrap (1 + (x111)) ≤ 2) ∧ ((gs.length : Int) + kk = IntKind.i64.wrap (1 + (x111))) ∧ (∀ a ∈ gs, atomL a) ∧ (0 ≤ i3 ∧ i3 ≤ code.length)) (fun (kk, gs, i3, h3) => kk.toNat) (IntKind.i64.wrap (1 + (x111)), [], (i2112), (h2113)) ⟨⟨rfl, ⟨rfl, ⟨rfl, ⟨rfl, trivial⟩⟩⟩⟩, ⟨rfl, ⟨rfl, ⟨rfl, ⟨rfl, ⟨rfl, ⟨rfl, trivial⟩⟩⟩⟩⟩⟩, rfl⟩ (by exact ⟨(by (try dsimp only); ((try simp only [IntKind.wrap_i64] at *); omega)), (by (try dsimp only); ((try simp only [IntKind.wrap_i64] at *); omega)), (by (try dsimp only); simp), (fun a ha => by simp at ha), (by (try dsimp only); omega)⟩) ?_
    rintro ⟨kk, gs, i3, h3⟩ hI ih1
    try dsimp only at hI ih1
    obtain ⟨g1, g2, g3, g4, g5⟩ := hI
    refine t_seq ?_
    refine tsr ?_
    refine r_op oM ?_
    refine r_op oB ?_
    refine r_end ?_
    refine t_cond rfl (fun h117 => ?_) (fun h117 => ?_)
    ·
     have h117' := of_decide_eq_true h117
     refine t_skip ?_
     refine t_seq ?_
     refine t_block ?_
     refine t_draw (fun i => !(Nat.beq i 4 || Nat.beq i 6 || Nat.beq i 8 || Nat.beq i 10)) (by kernel_rfl) ?_
     refine d_takeP 0 rfl rfl (by kernel_rfl) (by kernel_rfl) (by kernel_rfl) (pw_fieldb (off := 1) (by kernel_rfl) rfl) ?_
     refine d_takeP 2 rfl rfl (by kernel_rfl) (by kernel_rfl) (by kernel_rfl) (pw_move rfl) ?_
     refine dT 3 rfl pM ?_
     refine d_twoX 1 4 rfl rfl (by kernel_rfl) rfl rfl (osX oL) (o_callGM 0 9 10 (pv := some (v0)) (Go.Proofs.enters_of Tryz.func41 (by kernel_rfl) rfl) (c_spec_l1Below (code) (i3) (h3) (3) (by omega) (by omega) (by omega) (by omega) (by omega)) rfl rfl (.cur rfl (.cons rfl .nil)) rfl (fun ⟨_, _, _⟩ => rfl) (fun _ => rfl) (fun ⟨_, _, _⟩ => rfl) rfl rfl) ?_ ?_
     ·
      rintro ⟨⟩
      refine dOX 4 rfl (o_callGM 0 9 10 (pv := some (v0)) (Go.Proofs.enters_of Tryz.func41 (by kernel_rfl) rfl) (c_spec_l1Below (code) (i3) (h3) (3) (by omega) (by omega) (by omega) (by omega) (by omega)) rfl rfl (.cur rfl (.cons rfl .nil)) rfl (fun ⟨_, _, _⟩ => rfl) (fun _ => rfl) (fun ⟨_, _, _⟩ => rfl) rfl rfl) ?_
      rintro ⟨⟨x124, i2125, h2126⟩, hq127⟩
      try dsimp only at hq127
      try dsimp only
      obtain ⟨q128, q129⟩ := hq127
      refine dT 5 rfl pB ?_
      refine dOX 6 rfl (o_callGM 0 10 15 (pv := some (v0)) (Go.Proofs.enters_of Tryz.func163 (by kernel_rfl) rfl) (c_spec_l9Atom ((code)) ((i2125)) ((h2126)) (IntKind.i64.wrap (2 + (x124))) (4) (by omega) (by omega) (by omega) (by (simp only [IntKind.wrap_i64] at *; omega)) (by omega)) rfl rfl (.cur rfl (.cons rfl (.cons rfl .nil))) rfl (fun ⟨_, _, _⟩ => rfl) (fun _ => rfl) (fun ⟨_, _, _⟩ => rfl) rfl rfl) ?_
      rintro ⟨⟨ts130, i2131, h2132⟩, hq133⟩
      try dsimp only at hq133
      try dsimp only
      obtain ⟨q134, q135, q136⟩ := hq133
      have hy9 : ∀ x ∈ ts130, -3 ≤ x ∧ x ≤ 4 := (by assumption)
      refine dO 7 rfl (o_litS 15 (e := 103) (sz := 2) (zs := [.int .i64 (0), .slice none 0 0]) rfl rfl (by kernel_rfl) rfl rfl rfl rfl rfl) ?_
      refine dO 8 rfl (o_append 6 (e := 103) (sz := 2) (by' := 32) (((IntKind.i64.wrap (2 + (x124))), (ts130))) rfl (by kernel_rfl) rfl rfl rfl rfl rfl rfl (.cons .sc (.take (.own rfl) rfl .nil)) rfl (by omega) (by omega)) ?_
      refine dT 9 rfl (pF 1) ?_
      refine dO 10 rfl (oS 1) ?_
      refine d_end (by kernel_rfl) ?_
      refine t_endblock ?_
      refine t_region ?_
      refine r_op oM ?_
      refine r_op oB ?_
      refine r_op oA ?_
      refine r_end ?_
      refine t_le ?_ (ih1 (IntKind.i64.wrap (kk - 1), gs ++ [((IntKind.i64.wrap (2 + (x124))), (ts130))], (i2131), (h2132)) (by (try dsimp only); ((try simp only [IntKind.wrap_i64] at *); omega)) (by (try dsimp only); exact ⟨(by ((try simp only [IntKind.wrap_i64] at *); omega)), g2, (by (simp only [List.length_append, List.length_singleton]); ((try simp only [IntKind.wrap_i64] at *); omega)), mem_snoc g4 ⟨(by ((try simp only [IntKind.wrap_i64] at *); omega)), (by (try dsimp only); omega), (fun x hx => by have e9 := hy9 x hx; omega)⟩, by omega⟩))
      exact ⟨⟨rfl, ⟨rfl, ⟨rfl, ⟨rfl, trivial⟩⟩⟩⟩, ⟨rfl, ⟨rfl, ⟨rfl, ⟨rfl, ⟨rfl, ⟨rfl, trivial⟩⟩⟩⟩⟩⟩, rfl⟩
     ·
      rintro ⟨⟨x118, i2119, h2120⟩, hq121⟩
      try dsimp only at hq121
      try dsimp only
      obtain ⟨q122, q123⟩ := hq121
      refine dT 5 rfl pB ?_
      refine d_twoX 1 6 rfl rfl (by kernel_rfl) rfl rfl (osX oL) (o_callGM 0 10 15 (pv := some (v0)) (Go.Proofs.enters_of Tryz.func163 (by kernel_rfl) rfl) (c_spec_l9Atom ((code)) ((i2119)) ((h2120)) (IntKind.i64.wrap (2 + (x118))) (4) (by omega) (by omega) (by omega) (by (simp only [IntKind.wrap_i64] at *; omega)) (by omega)) rfl rfl (.cur rfl (.cons rfl (.cons rfl .nil))) rfl (fun ⟨_, _, _⟩ => rfl) (fun _ => rfl) (fun ⟨_, _, _⟩ => rfl) rfl rfl) ?_ ?_
      ·
       rintro ⟨⟩
       refine dOX 6 rfl (o_callGM 0 10 15 (pv := some (v0)) (Go.Proofs.enters_of Tryz.func163 (by kernel_rfl) rfl) (c_spec_l9Atom ((code)) ((i2119)) ((h2120)) (IntKind.i64.wrap (2 + (x118))) (4) (by omega) (by omega) (by omega) (by (simp only [IntKind.wrap_i64] at *; omega)) (by omega)) rfl rfl (.cur rfl (.cons rfl (.cons rfl .nil))) rfl (fun ⟨_, _, _⟩ => rfl) (fun _ => rfl) (fun ⟨_, _, _⟩ => rfl) rfl rfl) ?_
       rintro ⟨⟨ts144, i2145, h2146⟩, hq147⟩
       try dsimp only at hq147
       try dsimp only
       obtain ⟨q148, q149, q150⟩ := hq147
       have hy9 : ∀ x ∈ ts144, -3 ≤ x ∧ x ≤ 4 := (by assumption)
       refine dO 7 rfl (o_litS 15 (e := 103) (sz := 2) (zs := [.int .i64 (0), .slice none 0 0]) rfl rfl (by kernel_rfl) rfl rfl rfl rfl rfl) ?_
       refine dO 8 rfl (o_append 6 (e := 103) (sz := 2) (by' := 32) (((IntKind.i64.wrap (2 + (x118))), (ts144))) rfl (by kernel_rfl) rfl rfl rfl rfl rfl rfl (.cons .sc (.take (.own rfl) rfl .nil)) rfl (by omega) (by omega)) ?_
       refine dT 9 rfl (pF 1) ?_
       refine dO 10 rfl (oS 1) ?_
       refine d_end (by kernel_rfl) ?_
       refine t_endblock ?_
       refine t_region ?_
       refine r_op oM ?_
       refine r_op oB ?_
       refine r_op oA ?_
       refine r_end ?_
       refine t_le ?_ (ih1 (IntKind.i64.wrap (kk - 1), gs ++ [((IntKind.i64.wrap (2 + (x118))), (ts144))], (i2145), (h2146)) (by (try dsimp only); ((try simp only [IntKind.wrap_i64] at *); omega)) (by (try dsimp only); exact ⟨(by ((try simp only [IntKind.wrap_i64] at *); omega)), g2, (by (simp only [List.length_append, List.length_singleton]); ((try simp only [IntKind.wrap_i64] at *); omega)), mem_snoc g4 ⟨(by ((try simp only [IntKind.wrap_i64] at *); omega)), (by (try dsimp only); omega), (fun x hx => by have e9 := hy9 x hx; omega)⟩, by omega⟩))
       exact ⟨⟨rfl, ⟨rfl, ⟨rfl, ⟨rfl, trivial⟩⟩⟩⟩, ⟨rfl, ⟨rfl, ⟨rfl, ⟨rfl, ⟨rfl, ⟨rfl, trivial⟩⟩⟩⟩⟩⟩, rfl⟩
      ·
       rintro ⟨⟨ts137, i2138, h2139⟩, hq140⟩
       try dsimp only at hq140
       try dsimp only
       obtain ⟨q141, q142, q143⟩ := hq140
       have hy9 : ∀ x ∈ ts137, -3 ≤ x ∧ x ≤ 4 := (by assumption)
       refine dT 1 rfl pL ?_
       refine dO 7 rfl (o_litS 15 (e := 103) (sz := 2) (zs := [.int .i64 (0), .slice none 0 0]) rfl rfl (by kernel_rfl) rfl rfl rfl rfl rfl) ?_
       refine dO 8 rfl (o_append 6 (e := 103) (sz := 2) (by' := 32) (((IntKind.i64.wrap (2 + (x118))), (ts137))) rfl (by kernel_rfl) rfl rfl rfl rfl rfl rfl (.cons .sc (.take (.own rfl) rfl .nil)) rfl (by omega) (by omega)) ?_
       refine dT 9 rfl (pF 1) ?_
       refine dO 10 rfl (oS 1) ?_
       refine d_end (by kernel_rfl) ?_
       refine t_endblock ?_
       refine t_region ?_
       refine r_op oM ?_
       refine r_op oB ?_
       refine r_op oA ?_
       refine r_end ?_
       refine t_le ?_ (ih1 (IntKind.i64.wrap (kk - 1), gs ++ [((IntKind.i64.wrap (2 + (x118))), (ts137))], (i2138), (h2139)) (by (try dsimp only); ((try simp only [IntKind.wrap_i64] at *); omega)) (by (try dsimp only); exact ⟨(by ((try simp only [IntKind.wrap_i64] at *); omega)), g2, (by (simp only [List.length_append, List.length_singleton]); ((try simp only [IntKind.wrap_i64] at *); omega)), mem_snoc g4 ⟨(by ((try simp only [IntKind.wrap_i64] at *); omega)), (by (try dsimp only); omega), (fun x hx => by have e9 := hy9 x hx; omega)⟩, by omega⟩))
       exact ⟨⟨rfl, ⟨rfl, ⟨rfl, ⟨rfl, trivial⟩⟩⟩⟩, ⟨rfl, ⟨rfl, ⟨rfl, ⟨rfl, ⟨rfl, ⟨rfl, trivial⟩⟩⟩⟩⟩⟩, rfl⟩
    ·
     have h117' := of_decide_eq_false h117
     refine t_exit rfl ?_
     refine tsr ?_
     refine r_op (oC 5) ?_
     refine r_op (oS 5) ?_
     refine r_end ?_
     refine t_ret Tryz.func154 (.cells (n := 5) (by kernel_rfl) (by kernel_rfl) rfl rfl rfl .nil) rfl fun E S w u hI hd => ?_
     refine post_mkG (⟨bs, gs, false, 0, 0, i3, h3⟩) ?_ hI hd ?_ ⟨rfl, ⟨rfl, ⟨rfl, trivial⟩⟩⟩ rfl rfl <;> clear hI hd <;> (try clear ih0) <;> (try clear ih1)
     · (try dsimp only) <;> ((refine ⟨⟨by (try dsimp only); omega, by (try dsimp only); (omega), b4, (by exact g4), ?_, ?_⟩, by (omega), by omega⟩ <;> (try dsimp only) <;> (omega)))
     · rfl
set_option maxHeartbeats 1000000 in
set_option maxRecDepth 10000 in
theorem c_spec_l9Rules (code : List Int) (i h : Int) (hc : code.length ≤ 1048600) (hi0 : 0 ≤ i) (hi1 : i ≤ code.length) : MuG Tryz.prog 107 [.c (.ptr 0 0)] [.t none (.sl 1 encU (code)), .t none (.v (.int .i64 (i))), .t none (.v (.int .i64 (h)))] (fun (⟨ds, i2, h2⟩ : (List Dep) × Int × Int) => (1 ≤ ds.length ∧ ds.length ≤ 4) ∧ (∀ d ∈ ds, depL d) ∧ 0 ≤ i2 ∧ i2 ≤ code.length) (fun (⟨ds, i2, h2⟩ : (List Dep) × Int × Int) => [.t none (.sl 1 encU (code)), .t none (.v (.int .i64 (i2))), .t none (.v (.int .i64 (h2)))]) (fun (⟨ds, i2, h2⟩ : (List Dep) × Int × Int) => [(1, some (.row none 57 true 5 (enS5 (enSl 2 (enS2 encI (enSl 1 encI))) (enSl 2 (enS2 encI (enSl 1 encI))) encB encI encI) (ds)))]) 2 (fun (⟨ds, i2, h2⟩ : (List Dep) × Int × Int) => .c (.own 1)) := by
 refine mu_enterG Tryz.func107 rfl (Nat.le_of_ble_eq_true rfl) fun v0 w S M hM => ?_
 refine tsr ?_
 refine r_op oA ?_
 refine etr ?_
 refine r_op (o_lit0 1 (e := 57) (sz := 5) (zs := [.slice none 0 0, .slice none 0 0, .bool (false), .int .i64 (0), .int .i64 (0)]) (enS5 (enSl 2 (enS2 encI (enSl 1 encI))) (enSl 2 (enS2 encI (enSl 1 encI))) encB encI encI) rfl rfl (by kernel_rfl) rfl) ?_
 refine r_op oA ?_
 refine r_end ?_
 refine t_seq ?_
 refine tsr ?_
 refine r_op oM ?_
 refine r_opX (o_callGM 0 2 3 (pv := some (v0)) (Go.Proofs.enters_of Tryz.func41 (by kernel_rfl) rfl) (c_spec_l1Below (code) (i) (h) (4) (by omega) (by omega) (by omega) (by omega) (by omega)) rfl rfl (.cur rfl (.cons rfl .nil)) rfl (fun ⟨_, _, _⟩ => rfl) (fun _ => rfl) (fun ⟨_, _, _⟩ => rfl) rfl rfl) ?_
 rintro ⟨⟨x1, i22, h23⟩, hq4⟩
 try dsimp only at hq4
 try dsimp only
 obtain ⟨q5, q6⟩ := hq4
 refine r_op oB ?_
 refine r_op oA ?_
 refine r_end ?_
 refine t_block ?_
 refine t_loopL (fun (kk, ds, i3, h3) => ⟨[(0, some (.c (.ptr 0 0))), (2, some (.c (.t none (.v (.slice none 0 0))))), (3, some (.c (.own 1))), (4, some (.c (.t none (.v (.int .i64 (kk))))))], [(0, some (.pbox (v0) [.t none (.sl 1 encU (code)), .t none (.v (.int .i64 (i3))), .t none (.v (.int .i64 (h3)))])), (1, some (.row none 57 true 5 (enS5 (enSl 2 (enS2 encI (enSl 1 encI))) (enSl 2 (enS2 encI (enSl 1 encI))) encB encI encI) (ds)))], 3⟩ : Int × List Dep × Int × Int → St) (fun (kk, ds, i3, h3) => (0 ≤ kk ∧ kk ≤ 4) ∧ (1 ≤ IntKind.i64.wrap (1 + (x1)) ∧ IntKind.i64.wrap (1 + (x1)) ≤ 4) ∧ ((ds.length : Int) + kk = IntKind.i64.wrap (1 + (x1))) ∧ (∀ d ∈ ds, depL d) ∧ (0 ≤ i3 ∧ i3 ≤ code.length)) (fun (kk, ds, i3, h3) => kk.toNat) (IntKind.i64.wrap (1 + (x1)), [], (i22), (h23)) ⟨⟨rfl, ⟨rfl, ⟨rfl, ⟨rfl, trivial⟩⟩⟩⟩, ⟨rfl, ⟨rfl, trivial⟩⟩, rfl⟩ (by exact ⟨(by (try dsimp only); ((try simp only [IntKind.wrap_i64] at *); omega)), (by (try dsimp only); ((try simp only [IntKind.wrap_i64] at *); omega)), (by (try dsimp only); simp), (fun a ha => by simp at ha), (by (try dsimp only); omega)⟩) ?_
 rintro ⟨kk, ds, i3, h3⟩ hI ih0
 try dsimp only at hI ih0
 obtain ⟨b1, b2, b3, b4, b5⟩ := hI
 refine t_seq ?_
 refine tsr ?_
 refine r_op oM ?_
 refine r_op oB ?_
 refine r_end ?_
 refine t_cond rfl (fun h7 => ?_) (fun h7 => ?_)
 ·
  have h7' := of_decide_eq_true h7
  refine t_skip ?_
  refine t_seq ?_
  refine t_block ?_
  refine t_region ?_
  refine r_op oM ?_
  refine r_op oM ?_
  refine r_opX (o_callGM 0 3 10 (pv := some (v0)) (Go.Proofs.enters_of Tryz.func154 (by kernel_rfl) rfl) (c_spec_l9Rule (code) (i3) (h3) (by omega) (by omega) (by omega)) rfl rfl (.cur rfl .nil) rfl (fun ⟨_, _, _, _, _, _, _⟩ => rfl) (fun _ => rfl) (fun ⟨_, _, _, _, _, _, _⟩ => rfl) rfl rfl) ?_
  rintro ⟨⟨b8, hs9, e10, lv11, rv12, i213, h214⟩, hq15⟩
  try dsimp only at hq15
  try dsimp only
  obtain ⟨q16, q17, q18⟩ := hq15
  refine r_op (o_litS 10 (e := 57) (sz := 5) (zs := [.slice none 0 0, .slice none 0 0, .bool (false), .int .i64 (0), .int .i64 (0)]) rfl rfl (by kernel_rfl) rfl rfl rfl rfl rfl) ?_
  refine r_op (o_append 1 (e := 57) (sz := 5) (by' := 72) (((b8), (hs9), (e10), (lv11), (rv12))) rfl (by kernel_rfl) rfl rfl rfl rfl rfl rfl (.take (.own rfl) rfl (.take (.own rfl) rfl (.cons .sc (.cons .sc (.cons .sc .nil))))) rfl (by omega) (by omega)) ?_
  refine r_op oA ?_
  refine r_end ?_
  refine t_endblock ?_
  refine t_region ?_
  refine r_op oM ?_
  refine r_op oB ?_
  refine r_op oA ?_
  refine r_end ?_
  refine t_le ?_ (ih0 (IntKind.i64.wrap (kk - 1), ds ++ [((b8), (hs9), (e10), (lv11), (rv12))], (i213), (h214)) (by (try dsimp only); ((try simp only [IntKind.wrap_i64] at *); omega)) (by (try dsimp only); exact ⟨(by ((try simp only [IntKind.wrap_i64] at *); omega)), b2, (by (simp only [List.length_append, List.length_singleton]); ((try simp only [IntKind.wrap_i64] at *); omega)), mem_snoc b4 (by assumption), by omega⟩))
  exact ⟨⟨rfl, ⟨rfl, ⟨rfl, ⟨rfl, trivial⟩⟩⟩⟩, ⟨rfl, ⟨rfl, trivial⟩⟩, rfl⟩
 ·
  have h7' := of_decide_eq_false h7
  refine t_exit rfl ?_
  refine tsr ?_
  refine r_op oM ?_
  refine r_op oA ?_
  refine r_end ?_
  refine t_ret Tryz.func107 (.tmp rfl .nil) rfl fun E S w u hI hd => ?_
  refine post_mkG (⟨ds, i3, h3⟩) ?_ hI hd ?_ ⟨rfl, ⟨rfl, trivial⟩⟩ rfl rfl <;> clear hI hd <;> (try clear ih0)
  · (try dsimp only) <;> (exact ⟨by omega, b4, by omega⟩)
  · rfl
set_option maxHeartbeats 1000000 in
set_option maxRecDepth 10000 in
theorem c_spec_l1PickInt (code : List Int) (i h : Int) (l : List Int) (hc : code.length ≤ 1048600) (hi0 : 0 ≤ i) (hi1 : i ≤ code.length) (hl : 1 ≤ l.length) (hl2 : l.length ≤ 256) : MuG Tryz.prog 155 [.c (.ptr 0 0), .c (.t none (.sl 1 encI (l)))] [.t none (.sl 1 encU (code)), .t none (.v (.int .i64 (i))), .t none (.v (.int .i64 (h)))] (fun (⟨x, i2, h2⟩ : Int × Int × Int) => x ∈ l ∧ 0 ≤ i2 ∧ i2 ≤ code.length) (fun (⟨x, i2, h2⟩ : Int × Int × Int) => [.t none (.sl 1 encU (code)), .t none (.v (.int .i64 (i2))), .t none (.v (.int .i64 (h2)))]) (fun (⟨x, i2, h2⟩ : Int × Int × Int) => []) 1 (fun (⟨x, i2, h2⟩ : Int × Int × Int) => .c (.t none (.v (.int .i64 (x))))) := by
 refine mu_enterG Tryz.func155 rfl (Nat.le_of_ble_eq_true rfl) fun v0 w S M hM => ?_
 refine tsr ?_
 refine r_op oA ?_
 refine etr ?_
 refine r_op oM ?_
 refine r_op oM ?_
 refine r_op oM ?_
 refine r_op (o_len rfl rfl rfl) ?_
 refine r_opX (o_callGM 0 1 2 (pv := some (v0)) (Go.Proofs.enters_of Tryz.func41 (by kernel_rfl) rfl) (c_spec_l1Below (code) (i) (h) (((l).length : Int)) (by omega) (by omega) (by omega) (by omega) (by omega)) rfl rfl (.cur rfl (.cons rfl .nil)) rfl (fun ⟨_, _, _⟩ => rfl) (fun _ => rfl) (fun ⟨_, _, _⟩ => rfl) rfl rfl) ?_
 rintro ⟨⟨x1, i22, h23⟩, hq4⟩
 try dsimp only at hq4
 try dsimp only
 obtain ⟨q5, q6⟩ := hq4
 obtain ⟨z7, hz8, b9⟩ := at_get (xs := l) (n := (x1)) (by omega) (by omega)
 refine r_op (o_index rfl (by kernel_rfl) rfl rfl b9 hz8) ?_
 refine r_op (o_load1 rfl (by kernel_rfl) rfl rfl) ?_
 refine r_op oA ?_
 refine r_end ?_
 refine t_ret Tryz.func155 (.tmp rfl .nil) rfl fun E S w u hI hd => ?_
 refine post_mkG (⟨z7, (i22), (h23)⟩) ?_ hI hd ?_ ⟨rfl, trivial⟩ rfl rfl <;> clear hI hd
 · (try dsimp only) <;> (exact ⟨List.mem_of_getElem? (by assumption), by omega⟩)
 · rfl
set_option maxHeartbeats 1000000 in
set_option maxRecDepth 10000 in
theorem c_spec_l9Any (code : List Int) (i h : Int) (hc : code.length ≤ 1048600) (hi0 : 0 ≤ i) (hi1 : i ≤ code.length) : MuG Tryz.prog 108 [.c (.ptr 0 0)] [.t none (.sl 1 encU (code)), .t none (.v (.int .i64 (i))), .t none (.v (.int .i64 (h)))] (fun (⟨b, hs, e, lv, rv, i2, h2⟩ : Atoms × Atoms × Bool × Int × Int × Int × Int) => depL (b, hs, e, lv, rv) ∧ 0 ≤ i2 ∧ i2 ≤ code.length) (fun (⟨b, hs, e, lv, rv, i2, h2⟩ : Atoms × Atoms × Bool × Int × Int × Int × Int) => [.t none (.sl 1 encU (code)), .t none (.v (.int .i64 (i2))), .t none (.v (.int .i64 (h2)))]) (fun (⟨b, hs, e, lv, rv, i2, h2⟩ : Atoms × Atoms × Bool × Int × Int × Int × Int) => [(7, some (.row none 103 true 2 (enS2 encI (enSl 1 encI)) (b))), (8, some (.row none 103 true 2 (enS2 encI (enSl 1 encI)) (hs)))]) 9 (fun (⟨b, hs, e, lv, rv, i2, h2⟩ : Atoms × Atoms × Bool × Int × Int × Int × Int) => .agg [.own 7, .own 8, .t none (.v (.bool (e))), .t none (.v (.int .i64 (lv))), .t none (.v (.int .i64 (rv)))]) := by
 refine mu_enterG Tryz.func108 rfl (Nat.le_of_ble_eq_true rfl) fun v0 w S M hM => ?_
 refine tsr ?_
 refine r_op (o_alloc 1 (zs := [.slice none 0 0, .slice none 0 0, .bool (false), .int .i64 (0), .int .i64 (0)]) rfl rfl (by kernel_rfl) rfl) ?_
 refine etr ?_
 refine r_op oM ?_
 refine r_opX (o_callGM 0 2 9 (pv := some (v0)) (Go.Proofs.enters_of Tryz.func154 (by kernel_rfl) rfl) (c_spec_l9Rule (code) (i) (h) (by omega) (by omega) (by omega)) rfl rfl (.cur rfl .nil) rfl (fun ⟨_, _, _, _, _, _, _⟩ => rfl) (fun _ => rfl) (fun ⟨_, _, _, _, _, _, _⟩ => rfl) rfl rfl) ?_
 rintro ⟨⟨b1, hs2, e3, lv4, rv5, i26, h27⟩, hq8⟩
 try dsimp only at hq8
 try dsimp only
 obtain ⟨q9, q10, q11⟩ := hq8
 have kd : depL (b1, hs2, e3, lv4, rv5) := (by assumption); obtain ⟨k1, k2, k3, k4, k5, k6⟩ := kd; (try dsimp only at k1 k2 k3 k4 k5 k6); have sa := szA_L k3; have sb := szA_L k4; have k7 : ∀ z, b1[(0 : Int).toNat]? = some z → 1 ≤ z.2.length := fun z hz => (k3 z (List.mem_of_getElem? hz)).2.1.1; have k8 : hs2.length ≤ 2 := (by assumption)
 refine r_op (o_alloc 9 (zs := [.slice none 0 0, .slice none 0 0, .bool (false), .int .i64 (0), .int .i64 (0)]) rfl rfl (by kernel_rfl) rfl) ?_
 refine r_op (oS 5) ?_
 refine r_end ?_
 refine t_seq ?_
 refine tsr ?_
 refine r_op oM ?_
 refine r_opX (o_callGM 0 10 11 (pv := some (v0)) (Go.Proofs.enters_of Tryz.func41 (by kernel_rfl) rfl) (c_spec_l1Below ((code)) ((i26)) ((h27)) (12) (by omega) (by omega) (by omega) (by omega) (by omega)) rfl rfl (.cur rfl (.cons rfl .nil)) rfl (fun ⟨_, _, _⟩ => rfl) (fun _ => rfl) (fun ⟨_, _, _⟩ => rfl) rfl rfl) ?_
 rintro ⟨⟨x12, i213, h214⟩, hq15⟩
 try dsimp only at hq15
 try dsimp only
 obtain ⟨q16, q17⟩ := hq15
 refine r_end ?_
 refine t_block ?_
 refine tsr ?_
 refine r_op oB ?_
 refine r_op oA ?_
 refine r_end ?_
 refine t_cond rfl (fun h18 => ?_) (fun h18 => ?_)
 ·
  have h18' := of_decide_eq_true h18
  refine t_draw (fun i => !(Nat.beq i 3 || Nat.beq i 7)) (by kernel_rfl) ?_
  refine d_takeP 0 rfl rfl (by kernel_rfl) (by kernel_rfl) (by kernel_rfl) (pw_fieldb (off := 0) (by kernel_rfl) rfl) ?_
  refine dT 2 rfl pM ?_
  refine d_twoX 1 3 rfl rfl (by kernel_rfl) rfl rfl (osX oL) (o_callGM 0 11 12 (pv := some (v0)) (Go.Proofs.enters_of Tryz.func41 (by kernel_rfl) rfl) (c_spec_l1Below (((code))) ((i213)) ((h214)) (7) (by omega) (by omega) (by omega) (by omega) (by omega)) rfl rfl (.cur rfl (.cons rfl .nil)) rfl (fun ⟨_, _, _⟩ => rfl) (fun _ => rfl) (fun ⟨_, _, _⟩ => rfl) rfl rfl) ?_ ?_
  ·
   rintro ⟨⟩
   refine dOX 3 rfl (o_callGM 0 11 12 (pv := some (v0)) (Go.Proofs.enters_of Tryz.func41 (by kernel_rfl) rfl) (c_spec_l1Below (((code))) ((i213)) ((h214)) (7) (by omega) (by omega) (by omega) (by omega) (by omega)) rfl rfl (.cur rfl (.cons rfl .nil)) rfl (fun ⟨_, _, _⟩ => rfl) (fun _ => rfl) (fun ⟨_, _, _⟩ => rfl) rfl rfl) ?_
   rintro ⟨⟨x25, i226, h227⟩, hq28⟩
   try dsimp only at hq28
   try dsimp only
   obtain ⟨q29, q30⟩ := hq28
   refine dT 4 rfl pB ?_
   obtain ⟨z31, hz32, b33⟩ := at_get (xs := (b1)) (n := 0) (by omega) (by omega)
   refine dT 5 rfl (p_indexo (by kernel_rfl) rfl rfl rfl b33 (at_lt b33 hz32)) ?_
   refine dT 6 rfl (p_fieldo (off := 0) (by kernel_rfl) rfl) ?_
   refine dO 7 rfl (o_storeo ((IntKind.i64.wrap ((x25) - 1), z31.2)) (n := 1) (by kernel_rfl) rfl rfl hz32 rfl rfl rfl rfl (.cons .sc .nil) rfl (fun j h1 h2 => by (have : j = 0 ∨ j = 1 ∨ j = 2 ∨ j = 3 ∨ j = 4 := by omega); rcases this with rfl | rfl | rfl | rfl | rfl <;> first | rfl | (simp at h2; done))) ?_
   refine d_end (by kernel_rfl) ?_
   refine t_endblock ?_
   refine tsr ?_
   refine r_op (oC 5) ?_
   refine r_op (oS 5) ?_
   refine r_end ?_
   refine t_ret Tryz.func108 (.cells (n := 5) (by kernel_rfl) (by kernel_rfl) rfl rfl rfl .nil) rfl fun E S w u hI hd => ?_
   refine post_mkG (⟨((b1)).set ((0 : Int)).toNat ((IntKind.i64.wrap ((x25) - 1), z31.2)), (hs2), (e3), (lv4), (rv5), (i226), (h227)⟩) ?_ hI hd ?_ ⟨rfl, ⟨rfl, ⟨rfl, trivial⟩⟩⟩ rfl rfl <;> clear hI hd
   · (try dsimp only) <;> ((refine ⟨⟨by (simp only [List.length_set]; omega), k2, mem_set k3 (by have e8 := k3 _ (List.mem_of_getElem? hz32); exact ⟨by (try dsimp only); (try simp only [IntKind.wrap_i64] at *); omega, e8.2.1, e8.2.2⟩), k4, k5, k6⟩, by omega⟩; done))
   · rfl
  ·
   rintro ⟨⟨x19, i220, h221⟩, hq22⟩
   try dsimp only at hq22
   try dsimp only
   obtain ⟨q23, q24⟩ := hq22
   refine dT 1 rfl pL ?_
   refine dT 4 rfl pB ?_
   obtain ⟨z34, hz35, b36⟩ := at_get (xs := (b1)) (n := 0) (by omega) (by omega)
   refine dT 5 rfl (p_indexo (by kernel_rfl) rfl rfl rfl b36 (at_lt b36 hz35)) ?_
   refine dT 6 rfl (p_fieldo (off := 0) (by kernel_rfl) rfl) ?_
   refine dO 7 rfl (o_storeo ((IntKind.i64.wrap ((x19) - 1), z34.2)) (n := 1) (by kernel_rfl) rfl rfl hz35 rfl rfl rfl rfl (.cons .sc .nil) rfl (fun j h1 h2 => by (have : j = 0 ∨ j = 1 ∨ j = 2 ∨ j = 3 ∨ j = 4 := by omega); rcases this with rfl | rfl | rfl | rfl | rfl <;> first | rfl | (simp at h2; done))) ?_
   refine d_end (by kernel_rfl) ?_
   refine t_endblock ?_
   refine tsr ?_
   refine r_op (oC 5) ?_
   refine r_op (oS 5) ?_
   refine r_end ?_
   refine t_ret Tryz.func108 (.cells (n := 5) (by kernel_rfl) (by kernel_rfl) rfl rfl rfl .nil) rfl fun E S w u hI hd => ?_
   refine post_mkG (⟨((b1)).set ((0 : Int)).toNat ((IntKind.i64.wrap ((x19) - 1), z34.2)), (hs2), (e3), (lv4), (rv5), (i220), (h221)⟩) ?_ hI hd ?_ ⟨rfl, ⟨rfl, ⟨rfl, trivial⟩⟩⟩ rfl rfl <;> clear hI hd
   · (try dsimp only) <;> ((refine ⟨⟨by (simp only [List.length_set]; omega), k2, mem_set k3 (by have e8 := k3 _ (List.mem_of_getElem? hz35); exact ⟨by (try dsimp only); (try simp only [IntKind.wrap_i64] at *); omega, e8.2.1, e8.2.2⟩), k4, k5, k6⟩, by omega⟩; done))
   · rfl
 ·
  have h18' := of_decide_eq_false h18
  refine tsr ?_
  refine r_op oB ?_
  refine r_op oA ?_
  refine r_end ?_
  refine t_cond rfl (fun h37 => ?_) (fun h37 => ?_)
  ·
   have h37' := of_decide_eq_true h37
   obtain ⟨z38, hz39, b40⟩ := at_get (xs := (b1)) (n := (0 : Int)) (by omega) (by omega)
   refine gt_takeH 11 7 ((0 : Int)).toNat 1 rfl rfl hz39 rfl rfl fun e41 v42 => ?_
   refine t_draw (fun i => !(Nat.beq i 7 || Nat.beq i 9)) (by kernel_rfl) ?_
   refine d_takeP 0 rfl rfl (by kernel_rfl) (by kernel_rfl) (by kernel_rfl) (pw_fieldb (off := 0) (by kernel_rfl) rfl) ?_
   refine dT 5 rfl pM ?_
   refine d_two 1 6 rfl rfl (by kernel_rfl) rfl rfl oL (o_litN 12 (e := 3) (sz := 1) (zs := [.int .i64 (0)]) (enc := encI) [5, -11, 4] rfl rfl (by kernel_rfl) rfl rfl rfl rfl rfl rfl rfl rfl (.cons .sc (.cons .sc (.cons .sc .nil))) rfl) ?_ ?_
   ·
    obtain ⟨z43, hz44, b45⟩ := at_get (xs := holeL ((b1)) (((0 : Int)).toNat) z38 1 v42) (n := 0) (by omega) (by (rw [holeL_len]; omega))
    refine d_two 2 6 rfl rfl (by kernel_rfl) rfl rfl (o_indexo rfl (by kernel_rfl) rfl rfl rfl b45 (at_lt b45 hz44)) (o_litN 12 (e := 3) (sz := 1) (zs := [.int .i64 (0)]) (enc := encI) [5, -11, 4] rfl rfl (by kernel_rfl) rfl rfl rfl rfl rfl rfl rfl rfl (.cons .sc (.cons .sc (.cons .sc .nil))) rfl) ?_ ?_
    ·
     refine d_two 3 6 rfl rfl (by kernel_rfl) rfl rfl (o_fieldo rfl (off := 1) (by kernel_rfl) rfl) (o_litN 12 (e := 3) (sz := 1) (zs := [.int .i64 (0)]) (enc := encI) [5, -11, 4] rfl rfl (by kernel_rfl) rfl rfl rfl rfl rfl rfl rfl rfl (.cons .sc (.cons .sc (.cons .sc .nil))) rfl) ?_ ?_
     ·
      refine d_two 4 6 rfl rfl (by kernel_rfl) rfl rfl (o_loadH rfl (k := 11) (by kernel_rfl) rfl rfl rfl (by omega) rfl) (o_litN 12 (e := 3) (sz := 1) (zs := [.int .i64 (0)]) (enc := encI) [5, -11, 4] rfl rfl (by kernel_rfl) rfl rfl rfl rfl rfl rfl rfl rfl (.cons .sc (.cons .sc (.cons .sc .nil))) rfl) ?_ ?_
      ·
       refine dO 6 rfl (o_litN 12 (e := 3) (sz := 1) (zs := [.int .i64 (0)]) (enc := encI) [5, -11, 4] rfl rfl (by kernel_rfl) rfl rfl rfl rfl rfl rfl rfl rfl (.cons .sc (.cons .sc (.cons .sc .nil))) rfl) ?_
       refine d_freeze 12 rfl (frz_cur (i := 12) hM rfl rfl rfl) ?_
       refine dOX 7 rfl (o_callGM 0 13 14 (pv := some (v0)) (Go.Proofs.enters_of Tryz.func155 (by kernel_rfl) rfl) (c_spec_l1PickInt (((code))) ((i213)) ((h214)) ([5, -11, 4]) (by omega) (by omega) (by omega) (by (simp only [List.length_cons, List.length_nil]; omega)) (by (simp only [List.length_cons, List.length_nil]; omega))) rfl rfl (.cur rfl (.cons rfl .nil)) rfl (fun ⟨_, _, _⟩ => rfl) (fun _ => rfl) (fun ⟨_, _, _⟩ => rfl) rfl rfl) ?_
       rintro ⟨⟨x46, i247, h248⟩, hq49⟩
       try dsimp only at hq49
       try dsimp only
       obtain ⟨q50, q51⟩ := hq49
       obtain ⟨z52, hz53, b54⟩ := at_get (xs := z38.2) (n := 0) (by omega) (by (have e7 := k7 _ (by assumption); omega))
       refine dT 8 rfl (p_indexo (by kernel_rfl) rfl rfl rfl b54 (at_lt b54 hz53)) ?_
       refine dO 9 rfl (o_storeo ((x46)) (n := 1) (by kernel_rfl) rfl rfl hz53 rfl rfl rfl rfl (.cons .sc .nil) rfl (fun j h1 h2 => by (simp at h1 h2; omega))) ?_
       refine d_end (by kernel_rfl) ?_
       refine t_endblock ?_
       refine t_seq ?_
       refine gt_putH 11 7 (((0 : Int)).toNat) 1 ((z38.1, (z38.2).set ((0 : Int)).toNat ((x46)))) rfl rfl rfl (List.getElem?_eq_some_iff.1 hz39).1 rfl (fun j hj => by (have : j = 0 ∨ j = 1 := by omega); rcases this with rfl | rfl <;> rfl) ?_
       refine t_region ?_
       refine r_op (oC 5) ?_
       refine r_op (oS 5) ?_
       refine r_end ?_
       refine t_ret Tryz.func108 (.cells (n := 5) (by kernel_rfl) (by kernel_rfl) rfl rfl rfl .nil) rfl fun E S w u hI hd => ?_
       refine post_mkG (⟨((b1)).set (((0 : Int)).toNat) ((z38.1, (z38.2).set ((0 : Int)).toNat ((x46)))), (hs2), (e3), (lv4), (rv5), (i247), (h248)⟩) ?_ hI hd ?_ ⟨rfl, ⟨rfl, ⟨rfl, trivial⟩⟩⟩ rfl rfl <;> clear hI hd
       · (try dsimp only) <;> ((refine ⟨⟨by (simp only [List.length_set]; omega), k2, mem_set k3 (by have e8 := k3 _ (List.mem_of_getElem? hz39); exact ⟨e8.1, by (simp only [List.length_set]; exact e8.2.1), mem_set e8.2.2 (by have e9 := pick3 (by assumption); omega)⟩), k4, k5, k6⟩, by omega⟩; done))
       · rfl
      ·
       refine d_freeze 12 rfl (frz_cur (i := 12) hM rfl rfl rfl) ?_
       refine d_twoX 4 7 rfl rfl (by kernel_rfl) rfl rfl (osX (o_loadH rfl (k := 11) (by kernel_rfl) rfl rfl rfl (by omega) rfl)) (o_callGM 0 13 14 (pv := some (v0)) (Go.Proofs.enters_of Tryz.func155 (by kernel_rfl) rfl) (c_spec_l1PickInt (((code))) ((i213)) ((h214)) ([5, -11, 4]) (by omega) (by omega) (by omega) (by (simp only [List.length_cons, List.length_nil]; omega)) (by (simp only [List.length_cons, List.length_nil]; omega))) rfl rfl (.cur rfl (.cons rfl .nil)) rfl (fun ⟨_, _, _⟩ => rfl) (fun _ => rfl) (fun ⟨_, _, _⟩ => rfl) rfl rfl) ?_ ?_
       ·
        rintro ⟨⟩
        refine dOX 7 rfl (o_callGM 0 13 14 (pv := some (v0)) (Go.Proofs.enters_of Tryz.func155 (by kernel_rfl) rfl) (c_spec_l1PickInt (((code))) ((i213)) ((h214)) ([5, -11, 4]) (by omega) (by omega) (by omega) (by (simp only [List.length_cons, List.length_nil]; omega)) (by (simp only [List.length_cons, List.length_nil]; omega))) rfl rfl (.cur rfl (.cons rfl .nil)) rfl (fun ⟨_, _, _⟩ => rfl) (fun _ => rfl) (fun ⟨_, _, _⟩ => rfl) rfl rfl) ?_
        rintro ⟨⟨x61, i262, h263⟩, hq64⟩
        try dsimp only at hq64
        try dsimp only
        obtain ⟨q65, q66⟩ := hq64
        obtain ⟨z67, hz68, b69⟩ := at_get (xs := z38.2) (n := 0) (by omega) (by (have e7 := k7 _ (by assumption); omega))
        refine dT 8 rfl (p_indexo (by kernel_rfl) rfl rfl rfl b69 (at_lt b69 hz68)) ?_
        refine dO 9 rfl (o_storeo ((x61)) (n := 1) (by kernel_rfl) rfl rfl hz68 rfl rfl rfl rfl (.cons .sc .nil) rfl (fun j h1 h2 => by (simp at h1 h2; omega))) ?_
        refine d_end (by kernel_rfl) ?_
        refine t_endblock ?_
        refine t_seq ?_
        refine gt_putH 11 7 (((0 : Int)).toNat) 1 ((z38.1, (z38.2).set ((0 : Int)).toNat ((x61)))) rfl rfl rfl (List.getElem?_eq_some_iff.1 hz39).1 rfl (fun j hj => by (have : j = 0 ∨ j = 1 := by omega); rcases this with rfl | rfl <;> rfl) ?_
        refine t_region ?_
        refine r_op (oC 5) ?_
        refine r_op (oS 5) ?_
        refine r_end ?_
        refine t_ret Tryz.func108 (.cells (n := 5) (by kernel_rfl) (by kernel_rfl) rfl rfl rfl .nil) rfl fun E S w u hI hd => ?_
        refine post_mkG (⟨((b1)).set (((0 : Int)).toNat) ((z38.1, (z38.2).set ((0 : Int)).toNat ((x61)))), (hs2), (e3), (lv4), (rv5), (i262), (h263)⟩) ?_ hI hd ?_ ⟨rfl, ⟨rfl, ⟨rfl, trivial⟩⟩⟩ rfl rfl <;> clear hI hd
        · (try dsimp only) <;> ((refine ⟨⟨by (simp only [List.length_set]; omega), k2, mem_set k3 (by have e8 := k3 _ (List.mem_of_getElem? hz39); exact ⟨e8.1, by (simp only [List.length_set]; exact e8.2.1), mem_set e8.2.2 (by have e9 := pick3 (by assumption); omega)⟩), k4, k5, k6⟩, by omega⟩; done))
        · rfl
       ·
        rintro ⟨⟨x55, i256, h257⟩, hq58⟩
        try dsimp only at hq58
        try dsimp only
        obtain ⟨q59, q60⟩ := hq58
        refine dT 4 rfl (p_loadH (k := 11) (by kernel_rfl) rfl rfl rfl (by omega) rfl) ?_
        obtain ⟨z70, hz71, b72⟩ := at_get (xs := z38.2) (n := 0) (by omega) (by (have e7 := k7 _ (by assumption); omega))
        refine dT 8 rfl (p_indexo (by kernel_rfl) rfl rfl rfl b72 (at_lt b72 hz71)) ?_
        refine dO 9 rfl (o_storeo ((x55)) (n := 1) (by kernel_rfl) rfl rfl hz71 rfl rfl rfl rfl (.cons .sc .nil) rfl (fun j h1 h2 => by (simp at h1 h2; omega))) ?_
        refine d_end (by kernel_rfl) ?_
        refine t_endblock ?_
        refine t_seq ?_
        refine gt_putH 11 7 (((0 : Int)).toNat) 1 ((z38.1, (z38.2).set ((0 : Int)).toNat ((x55)))) rfl rfl rfl (List.getElem?_eq_some_iff.1 hz39).1 rfl (fun j hj => by (have : j = 0 ∨ j = 1 := by omega); rcases this with rfl | rfl <;> rfl) ?_
        refine t_region ?_
        refine r_op (oC 5) ?_
        refine r_op (oS 5) ?_
        refine r_end ?_
        refine t_ret Tryz.func108 (.cells (n := 5) (by kernel_rfl) (by kernel_rfl) rfl rfl rfl .nil) rfl fun E S w u hI hd => ?_
        refine post_mkG (⟨((b1)).set (((0 : Int)).toNat) ((z38.1, (z38.2).set ((0 : Int)).toNat ((x55)))), (hs2), (e3), (lv4), (rv5), (i256), (h257)⟩) ?_ hI hd ?_ ⟨rfl, ⟨rfl, ⟨rfl, trivial⟩⟩⟩ rfl rfl <;> clear hI hd
        · (try dsimp only) <;> ((refine ⟨⟨by (simp only [List.length_set]; omega), k2, mem_set k3 (by have e8 := k3 _ (List.mem_of_getElem? hz39); exact ⟨e8.1, by (simp only [List.length_set]; exact e8.2.1), mem_set e8.2.2 (by have e9 := pick3 (by assumption); omega)⟩), k4, k5, k6⟩, by omega⟩; done))
        · rfl
     ·
      refine d_freeze 12 rfl (frz_cur (i := 12) hM rfl rfl rfl) ?_
      refine d_twoX 3 7 rfl rfl (by kernel_rfl) rfl rfl (osX (o_fieldo rfl (off := 1) (by kernel_rfl) rfl)) (o_callGM 0 13 14 (pv := some (v0)) (Go.Proofs.enters_of Tryz.func155 (by kernel_rfl) rfl) (c_spec_l1PickInt (((code))) ((i213)) ((h214)) ([5, -11, 4]) (by omega) (by omega) (by omega) (by (simp only [List.length_cons, List.length_nil]; omega)) (by (simp only [List.length_cons, List.length_nil]; omega))) rfl rfl (.cur rfl (.cons rfl .nil)) rfl (fun ⟨_, _, _⟩ => rfl) (fun _ => rfl) (fun ⟨_, _, _⟩ => rfl) rfl rfl) ?_ ?_
      ·
       rintro ⟨⟩
       refine d_twoX 4 7 rfl rfl (by kernel_rfl) rfl rfl (osX (o_loadH rfl (k := 11) (by kernel_rfl) rfl rfl rfl (by omega) rfl)) (o_callGM 0 13 14 (pv := some (v0)) (Go.Proofs.enters_of Tryz.func155 (by kernel_rfl) rfl) (c_spec_l1PickInt (((code))) ((i213)) ((h214)) ([5, -11, 4]) (by omega) (by omega) (by omega) (by (simp only [List.length_cons, List.length_nil]; omega)) (by (simp only [List.length_cons, List.length_nil]; omega))) rfl rfl (.cur rfl (.cons rfl .nil)) rfl (fun ⟨_, _, _⟩ => rfl) (fun _ => rfl) (fun ⟨_, _, _⟩ => rfl) rfl rfl) ?_ ?_
       ·
        rintro ⟨⟩
        refine dOX 7 rfl (o_callGM 0 13 14 (pv := some (v0)) (Go.Proofs.enters_of Tryz.func155 (by kernel_rfl) rfl) (c_spec_l1PickInt (((code))) ((i213)) ((h214)) ([5, -11, 4]) (by omega) (by omega) (by omega) (by (simp only [List.length_cons, List.length_nil]; omega)) (by (simp only [List.length_cons, List.length_nil]; omega))) rfl rfl (.cur rfl (.cons rfl .nil)) rfl (fun ⟨_, _, _⟩ => rfl) (fun _ => rfl) (fun ⟨_, _, _⟩ => rfl) rfl rfl) ?_
        rintro ⟨⟨x85, i286, h287⟩, hq88⟩
        try dsimp only at hq88
        try dsimp only
        obtain ⟨q89, q90⟩ := hq88
        obtain ⟨z91, hz92, b93⟩ := at_get (xs := z38.2) (n := 0) (by omega) (by (have e7 := k7 _ (by assumption); omega))
        refine dT 8 rfl (p_indexo (by kernel_rfl) rfl rfl rfl b93 (at_lt b93 hz92)) ?_
        refine dO 9 rfl (o_storeo ((x85)) (n := 1) (by kernel_rfl) rfl rfl hz92 rfl rfl rfl rfl (.cons .sc .nil) rfl (fun j h1 h2 => by (simp at h1 h2; omega))) ?_
        refine d_end (by kernel_rfl) ?_
        refine t_endblock ?_
        refine t_seq ?_
        refine gt_putH 11 7 (((0 : Int)).toNat) 1 ((z38.1, (z38.2).set ((0 : Int)).toNat ((x85)))) rfl rfl rfl (List.getElem?_eq_some_iff.1 hz39).1 rfl (fun j hj => by (have : j = 0 ∨ j = 1 := by omega); rcases this with rfl | rfl <;> rfl) ?_
        refine t_region ?_
        refine r_op (oC 5) ?_
        refine r_op (oS 5) ?_
        refine r_end ?_
        refine t_ret Tryz.func108 (.cells (n := 5) (by kernel_rfl) (by kernel_rfl) rfl rfl rfl .nil) rfl fun E S w u hI hd => ?_
        refine post_mkG (⟨((b1)).set (((0 : Int)).toNat) ((z38.1, (z38.2).set ((0 : Int)).toNat ((x85)))), (hs2), (e3), (lv4), (rv5), (i286), (h287)⟩) ?_ hI hd ?_ ⟨rfl, ⟨rfl, ⟨rfl, trivial⟩⟩⟩ rfl rfl <;> clear hI hd
        · (try dsimp only) <;> ((refine ⟨⟨by (simp only [List.length_set]; omega), k2, mem_set k3 (by have e8 := k3 _ (List.mem_of_getElem? hz39); exact ⟨e8.1, by (simp only [List.length_set]; exact e8.2.1), mem_set e8.2.2 (by have e9 := pick3 (by assumption); omega)⟩), k4, k5, k6⟩, by omega⟩; done))
        · rfl
       ·
        rintro ⟨⟨x79, i280, h281⟩, hq82⟩
        try dsimp only at hq82
        try dsimp only
        obtain ⟨q83, q84⟩ := hq82
        refine dT 4 rfl (p_loadH (k := 11) (by kernel_rfl) rfl rfl rfl (by omega) rfl) ?_
        obtain ⟨z94, hz95, b96⟩ := at_get (xs := z38.2) (n := 0) (by omega) (by (have e7 := k7 _ (by assumption); omega))
        refine dT 8 rfl (p_indexo (by kernel_rfl) rfl rfl rfl b96 (at_lt b96 hz95)) ?_
        refine dO 9 rfl (o_storeo ((x79)) (n := 1) (by kernel_rfl) rfl rfl hz95 rfl rfl rfl rfl (.cons .sc .nil) rfl (fun j h1 h2 => by (simp at h1 h2; omega))) ?_
        refine d_end (by kernel_rfl) ?_
        refine t_endblock ?_
        refine t_seq ?_
        refine gt_putH 11 7 (((0 : Int)).toNat) 1 ((z38.1, (z38.2).set ((0 : Int)).toNat ((x79)))) rfl rfl rfl (List.getElem?_eq_some_iff.1 hz39).1 rfl (fun j hj => by (have : j = 0 ∨ j = 1 := by omega); rcases this with rfl | rfl <;> rfl) ?_
        refine t_region ?_
        refine r_op (oC 5) ?_
        refine r_op (oS 5) ?_
        refine r_end ?_
        refine t_ret Tryz.func108 (.cells (n := 5) (by kernel_rfl) (by kernel_rfl) rfl rfl rfl .nil) rfl fun E S w u hI hd => ?_
        refine post_mkG (⟨((b1)).set (((0 : Int)).toNat) ((z38.1, (z38.2).set ((0 : Int)).toNat ((x79)))), (hs2), (e3), (lv4), (rv5), (i280), (h281)⟩) ?_ hI hd ?_ ⟨rfl, ⟨rfl, ⟨rfl, trivial⟩⟩⟩ rfl rfl <;> clear hI hd
        · (try dsimp only) <;> ((refine ⟨⟨by (simp only [List.length_set]; omega), k2, mem_set k3 (by have e8 := k3 _ (List.mem_of_getElem? hz39); exact ⟨e8.1, by (simp only [List.length_set]; exact e8.2.1), mem_set e8.2.2 (by have e9 := pick3 (by assumption); omega)⟩), k4, k5, k6⟩, by omega⟩; done))
        · rfl
      ·
       rintro ⟨⟨x73, i274, h275⟩, hq76⟩
       try dsimp only at hq76
       try dsimp only
       obtain ⟨q77, q78⟩ := hq76
       refine dT 3 rfl (p_fieldo (off := 1) (by kernel_rfl) rfl) ?_
       refine dT 4 rfl (p_loadH (k := 11) (by kernel_rfl) rfl rfl rfl (by omega) rfl) ?_
       obtain ⟨z97, hz98, b99⟩ := at_get (xs := z38.2) (n := 0) (by omega) (by (have e7 := k7 _ (by assumption); omega))
       refine dT 8 rfl (p_indexo (by kernel_rfl) rfl rfl rfl b99 (at_lt b99 hz98)) ?_
       refine dO 9 rfl (o_storeo ((x73)) (n := 1) (by kernel_rfl) rfl rfl hz98 rfl rfl rfl rfl (.cons .sc .nil) rfl (fun j h1 h2 => by (simp at h1 h2; omega))) ?_
       refine d_end (by kernel_rfl) ?_
       refine t_endblock ?_
       refine t_seq ?_
       refine gt_putH 11 7 (((0 : Int)).toNat) 1 ((z38.1, (z38.2).set ((0 : Int)).toNat ((x73)))) rfl rfl rfl (List.getElem?_eq_some_iff.1 hz39).1 rfl (fun j hj => by (have : j = 0 ∨ j = 1 := by omega); rcases this with rfl | rfl <;> rfl) ?_
       refine t_region ?_
       refine r_op (oC 5) ?_
       refine r_op (oS 5) ?_
       refine r_end ?_
       refine t_ret Tryz.func108 (.cells (n := 5) (by kernel_rfl) (by kernel_rfl) rfl rfl rfl .nil) rfl fun E S w u hI hd => ?_
       refine post_mkG (⟨((b1)).set (((0 : Int)).toNat) ((z38.1, (z38.2).set ((0 : Int)).toNat ((x73)))), (hs2), (e3), (lv4), (rv5), (i274), (h275)⟩) ?_ hI hd ?_ ⟨rfl, ⟨rfl, ⟨rfl, trivial⟩⟩⟩ rfl rfl <;> clear hI hd
       · (try dsimp only) <;> ((refine ⟨⟨by (simp only [List.length_set]; omega), k2, mem_set k3 (by have e8 := k3 _ (List.mem_of_getElem? hz39); exact ⟨e8.1, by (simp only [List.length_set]; exact e8.2.1), mem_set e8.2.2 (by have e9 := pick3 (by assumption); omega)⟩), k4, k5, k6⟩, by omega⟩; done))
       · rfl
    ·
     refine d_freeze 12 rfl (frz_cur (i := 12) hM rfl rfl rfl) ?_
     obtain ⟨z100, hz101, b102⟩ := at_get (xs := holeL ((b1)) (((0 : Int)).toNat) z38 1 v42) (n := 0) (by omega) (by (rw [holeL_len]; omega))
     refine d_twoX 2 7 rfl rfl (by kernel_rfl) rfl rfl (osX (o_indexo rfl (by kernel_rfl) rfl rfl rfl b102 (at_lt b102 hz101))) (o_callGM 0 13 14 (pv := some (v0)) (Go.Proofs.enters_of Tryz.func155 (by kernel_rfl) rfl) (c_spec_l1PickInt (((code))) ((i213)) ((h214)) ([5, -11, 4]) (by omega) (by omega) (by omega) (by (simp only [List.length_cons, List.length_nil]; omega)) (by (simp only [List.length_cons, List.length_nil]; omega))) rfl rfl (.cur rfl (.cons rfl .nil)) rfl (fun ⟨_, _, _⟩ => rfl) (fun _ => rfl) (fun ⟨_, _, _⟩ => rfl) rfl rfl) ?_ ?_
     ·
      rintro ⟨⟩
      refine d_twoX 3 7 rfl rfl (by kernel_rfl) rfl rfl (osX (o_fieldo rfl (off := 1) (by kernel_rfl) rfl)) (o_callGM 0 13 14 (pv := some (v0)) (Go.Proofs.enters_of Tryz.func155 (by kernel_rfl) rfl) (c_spec_l1PickInt (((code))) ((i213)) ((h214)) ([5, -11, 4]) (by omega) (by omega) (by omega) (by (simp only [List.length_cons, List.length_nil]; omega)) (by (simp only [List.length_cons, List.length_nil]; omega))) rfl rfl (.cur rfl (.cons rfl .nil)) rfl (fun ⟨_, _, _⟩ => rfl) (fun _ => rfl) (fun ⟨_, _, _⟩ => rfl) rfl rfl) ?_ ?_
      ·
       rintro ⟨⟩
       refine d_twoX 4 7 rfl rfl (by kernel_rfl) rfl rfl (osX (o_loadH rfl (k := 11) (by kernel_rfl) rfl rfl rfl (by omega) rfl)) (o_callGM 0 13 14 (pv := some (v0)) (Go.Proofs.enters_of Tryz.func155 (by kernel_rfl) rfl) (c_spec_l1PickInt (((code))) ((i213)) ((h214)) ([5, -11, 4]) (by omega) (by omega) (by omega) (by (simp only [List.length_cons, List.length_nil]; omega)) (by (simp only [List.length_cons, List.length_nil]; omega))) rfl rfl (.cur rfl (.cons rfl .nil)) rfl (fun ⟨_, _, _⟩ => rfl) (fun _ => rfl) (fun ⟨_, _, _⟩ => rfl) rfl rfl) ?_ ?_
       ·
        rintro ⟨⟩
        refine dOX 7 rfl (o_callGM 0 13 14 (pv := some (v0)) (Go.Proofs.enters_of Tryz.func155 (by kernel_rfl) rfl) (c_spec_l1PickInt (((code))) ((i213)) ((h214)) ([5, -11, 4]) (by omega) (by omega) (by omega) (by (simp only [List.length_cons, List.length_nil]; omega)) (by (simp only [List.length_cons, List.length_nil]; omega))) rfl rfl (.cur rfl (.cons rfl .nil)) rfl (fun ⟨_, _, _⟩ => rfl) (fun _ => rfl) (fun ⟨_, _, _⟩ => rfl) rfl rfl) ?_
        rintro ⟨⟨x121, i2122, h2123⟩, hq124⟩
        try dsimp only at hq124
        try dsimp only
        obtain ⟨q125, q126⟩ := hq124
        obtain ⟨z127, hz128, b129⟩ := at_get (xs := z38.2) (n := 0) (by omega) (by (have e7 := k7 _ (by assumption); omega))
        refine dT 8 rfl (p_indexo (by kernel_rfl) rfl rfl rfl b129 (at_lt b129 hz128)) ?_
        refine dO 9 rfl (o_storeo ((x121)) (n := 1) (by kernel_rfl) rfl rfl hz128 rfl rfl rfl rfl (.cons .sc .nil) rfl (fun j h1 h2 => by (simp at h1 h2; omega))) ?_
        refine d_end (by kernel_rfl) ?_
        refine t_endblock ?_
        refine t_seq ?_
        refine gt_putH 11 7 (((0 : Int)).toNat) 1 ((z38.1, (z38.2).set ((0 : Int)).toNat ((x121)))) rfl rfl rfl (List.getElem?_eq_some_iff.1 hz39).1 rfl (fun j hj => by (have : j = 0 ∨ j = 1 := by omega); rcases this with rfl | rfl <;> rfl) ?_
        refine t_region ?_
        refine r_op (oC 5) ?_
        refine r_op (oS 5) ?_
        refine r_end ?_
        refine t_ret Tryz.func108 (.cells (n := 5) (by kernel_rfl) (by kernel_rfl) rfl rfl rfl .nil) rfl fun E S w u hI hd => ?_
        refine post_mkG (⟨((b1)).set (((0 : Int)).toNat) ((z38.1, (z38.2).set ((0 : Int)).toNat ((x121)))), (hs2), (e3), (lv4), (rv5), (i2122), (h2123)⟩) ?_ hI hd ?_ ⟨rfl, ⟨rfl, ⟨rfl, trivial⟩⟩⟩ rfl rfl <;> clear hI hd
        · (try dsimp only) <;> ((refine ⟨⟨by (simp only [List.length_set]; omega), k2, mem_set k3 (by have e8 := k3 _ (List.mem_of_getElem? hz39); exact ⟨e8.1, by (simp only [List.length_set]; exact e8.2.1), mem_set e8.2.2 (by have e9 := pick3 (by assumption); omega)⟩), k4, k5, k6⟩, by omega⟩; done))
        · rfl
       ·
        rintro ⟨⟨x115, i2116, h2117⟩, hq118⟩
        try dsimp only at hq118
        try dsimp only
        obtain ⟨q119, q120⟩ := hq118
        refine dT 4 rfl (p_loadH (k := 11) (by kernel_rfl) rfl rfl rfl (by omega) rfl) ?_
        obtain ⟨z130, hz131, b132⟩ := at_get (xs := z38.2) (n := 0) (by omega) (by (have e7 := k7 _ (by assumption); omega))
        refine dT 8 rfl (p_indexo (by kernel_rfl) rfl rfl rfl b132 (at_lt b132 hz131)) ?_
        refine dO 9 rfl (o_storeo ((x115)) (n := 1) (by kernel_rfl) rfl rfl hz131 rfl rfl rfl rfl (.cons .sc .nil) rfl (fun j h1 h2 => by (simp at h1 h2; omega))) ?_
        refine d_end (by kernel_rfl) ?_
        refine t_endblock ?_
        refine t_seq ?_
        refine gt_putH 11 7 (((0 : Int)).toNat) 1 ((z38.1, (z38.2).set ((0 : Int)).toNat ((x115)))) rfl rfl rfl (List.getElem?_eq_some_iff.1 hz39).1 rfl (fun j hj => by (have : j = 0 ∨ j = 1 := by omega); rcases this with rfl | rfl <;> rfl) ?_
        refine t_region ?_
        refine r_op (oC 5) ?_
        refine r_op (oS 5) ?_
        refine r_end ?_
        refine t_ret Tryz.func108 (.cells (n := 5) (by kernel_rfl) (by kernel_rfl) rfl rfl rfl .nil) rfl fun E S w u hI hd => ?_
        refine post_mkG (⟨((b1)).set (((0 : Int)).toNat) ((z38.1, (z38.2).set ((0 : Int)).toNat ((x115)))), (hs2), (e3), (lv4), (rv5), (i2116), (h2117)⟩) ?_ hI hd ?_ ⟨rfl, ⟨rfl, ⟨rfl, trivial⟩⟩⟩ rfl rfl <;> clear hI hd
        · (try dsimp only) <;> ((refine ⟨⟨by (simp only [List.length_set]; omega), k2, mem_set k3 (by have e8 := k3 _ (List.mem_of_getElem? hz39); exact ⟨e8.1, by (simp only [List.length_set]; exact e8.2.1), mem_set e8.2.2 (by have e9 := pick3 (by assumption); omega)⟩), k4, k5, k6⟩, by omega⟩; done))
        · rfl
      ·
       rintro ⟨⟨x109, i2110, h2111⟩, hq112⟩
       try dsimp only at hq112
       try dsimp only
       obtain ⟨q113, q114⟩ := hq112
       refine dT 3 rfl (p_fieldo (off := 1) (by kernel_rfl) rfl) ?_
       refine dT 4 rfl (p_loadH (k := 11) (by kernel_rfl) rfl rfl rfl (by omega) rfl) ?_
       obtain ⟨z133, hz134, b135⟩ := at_get (xs := z38.2) (n := 0) (by omega) (by (have e7 := k7 _ (by assumption); omega))
       refine dT 8 rfl (p_indexo (by kernel_rfl) rfl rfl rfl b135 (at_lt b135 hz134)) ?_
       refine dO 9 rfl (o_storeo ((x109)) (n := 1) (by kernel_rfl) rfl rfl hz134 rfl rfl rfl rfl (.cons .sc .nil) rfl (fun j h1 h2 => by (simp at h1 h2; omega))) ?_
       refine d_end (by kernel_rfl) ?_
       refine t_endblock ?_
       refine t_seq ?_
       refine gt_putH 11 7 (((0 : Int)).toNat) 1 ((z38.1, (z38.2).set ((0 : Int)).toNat ((x109)))) rfl rfl rfl (List.getElem?_eq_some_iff.1 hz39).1 rfl (fun j hj => by (have : j = 0 ∨ j = 1 := by omega); rcases this with rfl | rfl <;> rfl) ?_
       refine t_region ?_
       refine r_op (oC 5) ?_
       refine r_op (oS 5) ?_
       refine r_end ?_
       refine t_ret Tryz.func108 (.cells (n := 5) (by kernel_rfl) (by kernel_rfl) rfl rfl rfl .nil) rfl fun E S w u hI hd => ?_
       refine post_mkG (⟨((b1)).set (((0 : Int)).toNat) ((z38.1, (z38.2).set ((0 : Int)).toNat ((x109)))), (hs2), (e3), (lv4), (rv5), (i2110), (h2111)⟩) ?_ hI hd ?_ ⟨rfl, ⟨rfl, ⟨rfl, trivial⟩⟩⟩ rfl rfl <;> clear hI hd
       · (try dsimp only) <;> ((refine ⟨⟨by (simp only [List.length_set]; omega), k2, mem_set k3 (by have e8 := k3 _ (List.mem_of_getElem? hz39); exact ⟨e8.1, by (simp only [List.length_set]; exact e8.2.1), mem_set e8.2.2 (by have e9 := pick3 (by assumption); omega)⟩), k4, k5, k6⟩, by omega⟩; done))
       · rfl
     ·
      rintro ⟨⟨x103, i2104, h2105⟩, hq106⟩
      try dsimp only at hq106
      try dsimp only
      obtain ⟨q107, q108⟩ := hq106
      obtain ⟨z136, hz137, b138⟩ := at_get (xs := holeL ((b1)) (((0 : Int)).toNat) z38 1 v42) (n := 0) (by omega) (by (rw [holeL_len]; omega))
      refine dT 2 rfl (p_indexo (by kernel_rfl) rfl rfl rfl b138 (at_lt b138 hz137)) ?_
      refine dT 3 rfl (p_fieldo (off := 1) (by kernel_rfl) rfl) ?_
      refine dT 4 rfl (p_loadH (k := 11) (by kernel_rfl) rfl rfl rfl (by omega) rfl) ?_
      obtain ⟨z139, hz140, b141⟩ := at_get (xs := z38.2) (n := 0) (by omega) (by (have e7 := k7 _ (by assumption); omega))
      refine dT 8 rfl (p_indexo (by kernel_rfl) rfl rfl rfl b141 (at_lt b141 hz140)) ?_
      refine dO 9 rfl (o_storeo ((x103)) (n := 1) (by kernel_rfl) rfl rfl hz140 rfl rfl rfl rfl (.cons .sc .nil) rfl (fun j h1 h2 => by (simp at h1 h2; omega))) ?_
      refine d_end (by kernel_rfl) ?_
      refine t_endblock ?_
      refine t_seq ?_
      refine gt_putH 11 7 (((0 : Int)).toNat) 1 ((z38.1, (z38.2).set ((0 : Int)).toNat ((x103)))) rfl rfl rfl (List.getElem?_eq_some_iff.1 hz39).1 rfl (fun j hj => by (have : j = 0 ∨ j = 1 := by omega); rcases this with rfl | rfl <;> rfl) ?_
      refine t_region ?_
      refine r_op (oC 5) ?_
      refine r_op (oS 5) ?_
      refine r_end ?_
      refine t_ret Tryz.func108 (.cells (n := 5) (by kernel_rfl) (by kernel_rfl) rfl rfl rfl .nil) rfl fun E S w u hI hd => ?_
      refine post_mkG (⟨((b1)).set (((0 : Int)).toNat) ((z38.1, (z38.2).set ((0 : Int)).toNat ((x103)))), (hs2), (e3), (lv4), (rv5), (i2104), (h2105)⟩) ?_ hI hd ?_ ⟨rfl, ⟨rfl, ⟨rfl, trivial⟩⟩⟩ rfl rfl <;> clear hI hd
      · (try dsimp only) <;> ((refine ⟨⟨by (simp only [List.length_set]; omega), k2, mem_set k3 (by have e8 := k3 _ (List.mem_of_getElem? hz39); exact ⟨e8.1, by (simp only [List.length_set]; exact e8.2.1), mem_set e8.2.2 (by have e9 := pick3 (by assumption); omega)⟩), k4, k5, k6⟩, by omega⟩; done))
      · rfl
   ·
    refine d_freeze 12 rfl (frz_cur (i := 12) hM rfl rfl rfl) ?_
    refine d_twoX 1 7 rfl rfl (by kernel_rfl) rfl rfl (osX oL) (o_callGM 0 13 14 (pv := some (v0)) (Go.Proofs.enters_of Tryz.func155 (by kernel_rfl) rfl) (c_spec_l1PickInt (((code))) ((i213)) ((h214)) ([5, -11, 4]) (by omega) (by omega) (by omega) (by (simp only [List.length_cons, List.length_nil]; omega)) (by (simp only [List.length_cons, List.length_nil]; omega))) rfl rfl (.cur rfl (.cons rfl .nil)) rfl (fun ⟨_, _, _⟩ => rfl) (fun _ => rfl) (fun ⟨_, _, _⟩ => rfl) rfl rfl) ?_ ?_
    ·
     rintro ⟨⟩
     obtain ⟨z148, hz149, b150⟩ := at_get (xs := holeL ((b1)) (((0 : Int)).toNat) z38 1 v42) (n := 0) (by omega) (by (rw [holeL_len]; omega))
     refine d_twoX 2 7 rfl rfl (by kernel_rfl) rfl rfl (osX (o_indexo rfl (by kernel_rfl) rfl rfl rfl b150 (at_lt b150 hz149))) (o_callGM 0 13 14 (pv := some (v0)) (Go.Proofs.enters_of Tryz.func155 (by kernel_rfl) rfl) (c_spec_l1PickInt (((code))) ((i213)) ((h214)) ([5, -11, 4]) (by omega) (by omega) (by omega) (by (simp only [List.length_cons, List.length_nil]; omega)) (by (simp only [List.length_cons, List.length_nil]; omega))) rfl rfl (.cur rfl (.cons rfl .nil)) rfl (fun ⟨_, _, _⟩ => rfl) (fun _ => rfl) (fun ⟨_, _, _⟩ => rfl) rfl rfl) ?_ ?_
     ·
      rintro ⟨⟩
      refine d_twoX 3 7 rfl rfl (by kernel_rfl) rfl rfl (osX (o_fieldo rfl (off := 1) (by kernel_rfl) rfl)) (o_callGM 0 13 14 (pv := some (v0)) (Go.Proofs.enters_of Tryz.func155 (by kernel_rfl) rfl) (c_spec_l1PickInt (((code))) ((i213)) ((h214)) ([5, -11, 4]) (by omega) (by omega) (by omega) (by (simp only [List.length_cons, List.length_nil]; omega)) (by (simp only [List.length_cons, List.length_nil]; omega))) rfl rfl (.cur rfl (.cons rfl .nil)) rfl (fun ⟨_, _, _⟩ => rfl) (fun _ => rfl) (fun ⟨_, _, _⟩ => rfl) rfl rfl) ?_ ?_
      ·
       rintro ⟨⟩
       refine d_twoX 4 7 rfl rfl (by kernel_rfl) rfl rfl (osX (o_loadH rfl (k := 11) (by kernel_rfl) rfl rfl rfl (by omega) rfl)) (o_callGM 0 13 14 (pv := some (v0)) (Go.Proofs.enters_of Tryz.func155 (by kernel_rfl) rfl) (c_spec_l1PickInt (((code))) ((i213)) ((h214)) ([5, -11, 4]) (by omega) (by omega) (by omega) (by (simp only [List.length_cons, List.length_nil]; omega)) (by (simp only [List.length_cons, List.length_nil]; omega))) rfl rfl (.cur rfl (.cons rfl .nil)) rfl (fun ⟨_, _, _⟩ => rfl) (fun _ => rfl) (fun ⟨_, _, _⟩ => rfl) rfl rfl) ?_ ?_
       ·
        rintro ⟨⟩
        refine dOX 7 rfl (o_callGM 0 13 14 (pv := some (v0)) (Go.Proofs.enters_of Tryz.func155 (by kernel_rfl) rfl) (c_spec_l1PickInt (((code))) ((i213)) ((h214)) ([5, -11, 4]) (by omega) (by omega) (by omega) (by (simp only [List.length_cons, List.length_nil]; omega)) (by (simp only [List.length_cons, List.length_nil]; omega))) rfl rfl (.cur rfl (.cons rfl .nil)) rfl (fun ⟨_, _, _⟩ => rfl) (fun _ => rfl) (fun ⟨_, _, _⟩ => rfl) rfl rfl) ?_
        rintro ⟨⟨x169, i2170, h2171⟩, hq172⟩
        try dsimp only at hq172
        try dsimp only
        obtain ⟨q173, q174⟩ := hq172
        obtain ⟨z175, hz176, b177⟩ := at_get (xs := z38.2) (n := 0) (by omega) (by (have e7 := k7 _ (by assumption); omega))
        refine dT 8 rfl (p_indexo (by kernel_rfl) rfl rfl rfl b177 (at_lt b177 hz176)) ?_
        refine dO 9 rfl (o_storeo ((x169)) (n := 1) (by kernel_rfl) rfl rfl hz176 rfl rfl rfl rfl (.cons .sc .nil) rfl (fun j h1 h2 => by (simp at h1 h2; omega))) ?_
        refine d_end (by kernel_rfl) ?_
        refine t_endblock ?_
        refine t_seq ?_
        refine gt_putH 11 7 (((0 : Int)).toNat) 1 ((z38.1, (z38.2).set ((0 : Int)).toNat ((x169)))) rfl rfl rfl (List.getElem?_eq_some_iff.1 hz39).1 rfl (fun j hj => by (have : j = 0 ∨ j = 1 := by omega); rcases this with rfl | rfl <;> rfl) ?_
        refine t_region ?_
        refine r_op (oC 5) ?_
        refine r_op (oS 5) ?_
        refine r_end ?_
        refine t_ret Tryz.func108 (.cells (n := 5) (by kernel_rfl) (by kernel_rfl) rfl rfl rfl .nil) rfl fun E S w u hI hd => ?_
        refine post_mkG (⟨((b1)).set (((0 : Int)).toNat) ((z38.1, (z38.2).set ((0 : Int)).toNat ((x169)))), (hs2), (e3), (lv4), (rv5), (i2170), (h2171)⟩) ?_ hI hd ?_ ⟨rfl, ⟨rfl, ⟨rfl, trivial⟩⟩⟩ rfl rfl <;> clear hI hd
        · (try dsimp only) <;> ((refine ⟨⟨by (simp only [List.length_set]; omega), k2, mem_set k3 (by have e8 := k3 _ (List.mem_of_getElem? hz39); exact ⟨e8.1, by (simp only [List.length_set]; exact e8.2.1), mem_set e8.2.2 (by have e9 := pick3 (by assumption); omega)⟩), k4, k5, k6⟩, by omega⟩; done))
        · rfl
       ·
        rintro ⟨⟨x163, i2164, h2165⟩, hq166⟩
        try dsimp only at hq166
        try dsimp only
        obtain ⟨q167, q168⟩ := hq166
        refine dT 4 rfl (p_loadH (k := 11) (by kernel_rfl) rfl rfl rfl (by omega) rfl) ?_
        obtain ⟨z178, hz179, b180⟩ := at_get (xs := z38.2) (n := 0) (by omega) (by (have e7 := k7 _ (by assumption); omega))
        refine dT 8 rfl (p_indexo (by kernel_rfl) rfl rfl rfl b180 (at_lt b180 hz179)) ?_
        refine dO 9 rfl (o_storeo ((x163)) (n := 1) (by kernel_rfl) rfl rfl hz179 rfl rfl rfl rfl (.cons .sc .nil) rfl (fun j h1 h2 => by (simp at h1 h2; omega))) ?_
        refine d_end (by kernel_rfl) ?_
        refine t_endblock ?_
        refine t_seq ?_
        refine gt_putH 11 7 (((0 : Int)).toNat) 1 ((z38.1, (z38.2).set ((0 : Int)).toNat ((x163)))) rfl rfl rfl (List.getElem?_eq_some_iff.1 hz39).1 rfl (fun j hj => by (have : j = 0 ∨ j = 1 := by omega); rcases this with rfl | rfl <;> rfl) ?_
        refine t_region ?_
        refine r_op (oC 5) ?_
        refine r_op (oS 5) ?_
        refine r_end ?_
        refine t_ret Tryz.func108 (.cells (n := 5) (by kernel_rfl) (by kernel_rfl) rfl rfl rfl .nil) rfl fun E S w u hI hd => ?_
        refine post_mkG (⟨((b1)).set (((0 : Int)).toNat) ((z38.1, (z38.2).set ((0 : Int)).toNat ((x163)))), (hs2), (e3), (lv4), (rv5), (i2164), (h2165)⟩) ?_ hI hd ?_ ⟨rfl, ⟨rfl, ⟨rfl, trivial⟩⟩⟩ rfl rfl <;> clear hI hd
        · (try dsimp only) <;> ((refine ⟨⟨by (simp only [List.length_set]; omega), k2, mem_set k3 (by have e8 := k3 _ (List.mem_of_getElem? hz39); exact ⟨e8.1, by (simp only [List.length_set]; exact e8.2.1), mem_set e8.2.2 (by have e9 := pick3 (by assumption); omega)⟩), k4, k5, k6⟩, by omega⟩; done))
        · rfl
      ·
       rintro ⟨⟨x157, i2158, h2159⟩, hq160⟩
       try dsimp only at hq160
       try dsimp only
       obtain ⟨q161, q162⟩ := hq160
       refine dT 3 rfl (p_fieldo (off := 1) (by kernel_rfl) rfl) ?_
       refine dT 4 rfl (p_loadH (k := 11) (by kernel_rfl) rfl rfl rfl (by omega) rfl) ?_
       obtain ⟨z181, hz182, b183⟩ := at_get (xs := z38.2) (n := 0) (by omega) (by (have e7 := k7 _ (by assumption); omega))
       refine dT 8 rfl (p_indexo (by kernel_rfl) rfl rfl rfl b183 (at_lt b183 hz182)) ?_
       refine dO 9 rfl (o_storeo ((x157)) (n := 1) (by kernel_rfl) rfl rfl hz182 rfl rfl rfl rfl (.cons .sc .nil) rfl (fun j h1 h2 => by (simp at h1 h2; omega))) ?_
       refine d_end (by kernel_rfl) ?_
       refine t_endblock ?_
       refine t_seq ?_
       refine gt_putH 11 7 (((0 : Int)).toNat) 1 ((z38.1, (z38.2).set ((0 : Int)).toNat ((x157)))) rfl rfl rfl (List.getElem?_eq_some_iff.1 hz39).1 rfl (fun j hj => by (have : j = 0 ∨ j = 1 := by omega); rcases this with rfl | rfl <;> rfl) ?_
       refine t_region ?_
       refine r_op (oC 5) ?_
       refine r_op (oS 5) ?_
       refine r_end ?_
       refine t_ret Tryz.func108 (.cells (n := 5) (by kernel_rfl) (by kernel_rfl) rfl rfl rfl .nil) rfl fun E S w u hI hd => ?_
       refine post_mkG (⟨((b1)).set (((0 : Int)).toNat) ((z38.1, (z38.2).set ((0 : Int)).toNat ((x157)))), (hs2), (e3), (lv4), (rv5), (i2158), (h2159)⟩) ?_ hI hd ?_ ⟨rfl, ⟨rfl, ⟨rfl, trivial⟩⟩⟩ rfl rfl <;> clear hI hd
       · (try dsimp only) <;> ((refine ⟨⟨by (simp only [List.length_set]; omega), k2, mem_set k3 (by have e8 := k3 _ (List.mem_of_getElem? hz39); exact ⟨e8.1, by (simp only [List.length_set]; exact e8.2.1), mem_set e8.2.2 (by have e9 := pick3 (by assumption); omega)⟩), k4, k5, k6⟩, by omega⟩; done))
       · rfl
     ·
      rintro ⟨⟨x151, i2152, h2153⟩, hq154⟩
      try dsimp only at hq154
      try dsimp only
      obtain ⟨q155, q156⟩ := hq154
      obtain ⟨z184, hz185, b186⟩ := at_get (xs := holeL ((b1)) (((0 : Int)).toNat) z38 1 v42) (n := 0) (by omega) (by (rw [holeL_len]; omega))
      refine dT 2 rfl (p_indexo (by kernel_rfl) rfl rfl rfl b186 (at_lt b186 hz185)) ?_
      refine dT 3 rfl (p_fieldo (off := 1) (by kernel_rfl) rfl) ?_
      refine dT 4 rfl (p_loadH (k := 11) (by kernel_rfl) rfl rfl rfl (by omega) rfl) ?_
      obtain ⟨z187, hz188, b189⟩ := at_get (xs := z38.2) (n := 0) (by omega) (by (have e7 := k7 _ (by assumption); omega))
      refine dT 8 rfl (p_indexo (by kernel_rfl) rfl rfl rfl b189 (at_lt b189 hz188)) ?_
      refine dO 9 rfl (o_storeo ((x151)) (n := 1) (by kernel_rfl) rfl rfl hz188 rfl rfl rfl rfl (.cons .sc .nil) rfl (fun j h1 h2 => by (simp at h1 h2; omega))) ?_
      refine d_end (by kernel_rfl) ?_
      refine t_endblock ?_
      refine t_seq ?_
      refine gt_putH 11 7 (((0 : Int)).toNat) 1 ((z38.1, (z38.2).set ((0 : Int)).toNat ((x151)))) rfl rfl rfl (List.getElem?_eq_some_iff.1 hz39).1 rfl (fun j hj => by (have : j = 0 ∨ j = 1 := by omega); rcases this with rfl | rfl <;> rfl) ?_
      refine t_region ?_
      refine r_op (oC 5) ?_
      refine r_op (oS 5) ?_
      refine r_end ?_
      refine t_ret Tryz.func108 (.cells (n := 5) (by kernel_rfl) (by kernel_rfl) rfl rfl rfl .nil) rfl fun E S w u hI hd => ?_
      refine post_mkG (⟨((b1)).set (((0 : Int)).toNat) ((z38.1, (z38.2).set ((0 : Int)).toNat ((x151)))), (hs2), (e3), (lv4), (rv5), (i2152), (h2153)⟩) ?_ hI hd ?_ ⟨rfl, ⟨rfl, ⟨rfl, trivial⟩⟩⟩ rfl rfl <;> clear hI hd
      · (try dsimp only) <;> ((refine ⟨⟨by (simp only [List.length_set]; omega), k2, mem_set k3 (by have e8 := k3 _ (List.mem_of_getElem? hz39); exact ⟨e8.1, by (simp only [List.length_set]; exact e8.2.1), mem_set e8.2.2 (by have e9 := pick3 (by assumption); omega)⟩), k4, k5, k6⟩, by omega⟩; done))
      · rfl
    ·
     rintro ⟨⟨x142, i2143, h2144⟩, hq145⟩
     try dsimp only at hq145
     try dsimp only
     obtain ⟨q146, q147⟩ := hq145
     refine dT 1 rfl pL ?_
     obtain ⟨z190, hz191, b192⟩ := at_get (xs := holeL ((b1)) (((0 : Int)).toNat) z38 1 v42) (n := 0) (by omega) (by (rw [holeL_len]; omega))
     refine dT 2 rfl (p_indexo (by kernel_rfl) rfl rfl rfl b192 (at_lt b192 hz191)) ?_
     refine dT 3 rfl (p_fieldo (off := 1) (by kernel_rfl) rfl) ?_
     refine dT 4 rfl (p_loadH (k := 11) (by kernel_rfl) rfl rfl rfl (by omega) rfl) ?_
     obtain ⟨z193, hz194, b195⟩ := at_get (xs := z38.2) (n := 0) (by omega) (by (have e7 := k7 _ (by assumption); omega))
     refine dT 8 rfl (p_indexo (by kernel_rfl) rfl rfl rfl b195 (at_lt b195 hz194)) ?_
     refine dO 9 rfl (o_storeo ((x142)) (n := 1) (by kernel_rfl) rfl rfl hz194 rfl rfl rfl rfl (.cons .sc .nil) rfl (fun j h1 h2 => by (simp at h1 h2; omega))) ?_
     refine d_end (by kernel_rfl) ?_
     refine t_endblock ?_
     refine t_seq ?_
     refine gt_putH 11 7 (((0 : Int)).toNat) 1 ((z38.1, (z38.2).set ((0 : Int)).toNat ((x142)))) rfl rfl rfl (List.getElem?_eq_some_iff.1 hz39).1 rfl (fun j hj => by (have : j = 0 ∨ j = 1 := by omega); rcases this with rfl | rfl <;> rfl) ?_
     refine t_region ?_
     refine r_op (oC 5) ?_
     refine r_op (oS 5) ?_
     refine r_end ?_
     refine t_ret Tryz.func108 (.cells (n := 5) (by kernel_rfl) (by kernel_rfl) rfl rfl rfl .nil) rfl fun E S w u hI hd => ?_
     refine post_mkG (⟨((b1)).set (((0 : Int)).toNat) ((z38.1, (z38.2).set ((0 : Int)).toNat ((x142)))), (hs2), (e3), (lv4), (rv5), (i2143), (h2144)⟩) ?_ hI hd ?_ ⟨rfl, ⟨rfl, ⟨rfl, trivial⟩⟩⟩ rfl rfl <;> clear hI hd
     · (try dsimp only) <;> ((refine ⟨⟨by (simp only [List.length_set]; omega), k2, mem_set k3 (by have e8 := k3 _ (List.mem_of_getElem? hz39); exact ⟨e8.1, by (simp only [List.length_set]; exact e8.2.1), mem_set e8.2.2 (by have e9 := pick3 (by assumption); omega)⟩), k4, k5, k6⟩, by omega⟩; done))
     · rfl
  ·
   have h37' := of_decide_eq_false h37
   refine tsr ?_
   refine r_op oB ?_
   refine r_op oA ?_
   refine r_end ?_
   refine t_cond rfl (fun h196 => ?_) (fun h196 => ?_)
   ·
    have h196' := of_decide_eq_true h196
    refine t_region ?_
    refine r_op oM ?_
    refine r_opX (o_callGM 0 11 12 (pv := some (v0)) (Go.Proofs.enters_of Tryz.func41 (by kernel_rfl) rfl) (c_spec_l1Below (((code))) ((i213)) ((h214)) (4) (by omega) (by omega) (by omega) (by omega) (by omega)) rfl rfl (.cur rfl (.cons rfl .nil)) rfl (fun ⟨_, _, _⟩ => rfl) (fun _ => rfl) (fun ⟨_, _, _⟩ => rfl) rfl rfl) ?_
    rintro ⟨⟨x197, i2198, h2199⟩, hq200⟩
    try dsimp only at hq200
    try dsimp only
    obtain ⟨q201, q202⟩ := hq200
    refine r_op (oF 3) ?_
    refine r_op (oS 1) ?_
    refine r_end ?_
    refine t_endblock ?_
    refine tsr ?_
    refine r_op (oC 5) ?_
    refine r_op (oS 5) ?_
    refine r_end ?_
    refine t_ret Tryz.func108 (.cells (n := 5) (by kernel_rfl) (by kernel_rfl) rfl rfl rfl .nil) rfl fun E S w u hI hd => ?_
    refine post_mkG (⟨(b1), (hs2), (e3), (x197), (rv5), (i2198), (h2199)⟩) ?_ hI hd ?_ ⟨rfl, ⟨rfl, ⟨rfl, trivial⟩⟩⟩ rfl rfl <;> clear hI hd
    · (try dsimp only) <;> ((exact ⟨⟨k1, k2, k3, k4, by (try dsimp only); omega, k6⟩, by omega⟩))
    · rfl
   ·
    have h196' := of_decide_eq_false h196
    refine tsr ?_
    refine r_op oB ?_
    refine r_op oA ?_
    refine r_end ?_
    refine t_cond rfl (fun h203 => ?_) (fun h203 => ?_)
    ·
     have h203' := of_decide_eq_true h203
     refine t_region ?_
     refine r_op (oF 2) ?_
     refine r_op oL ?_
     refine r_op (o_not rfl rfl) ?_
     refine r_op (oF 2) ?_
     refine r_op (oS 1) ?_
     refine r_end ?_
     refine t_endblock ?_
     refine tsr ?_
     refine r_op (oC 5) ?_
     refine r_op (oS 5) ?_
     refine r_end ?_
     refine t_ret Tryz.func108 (.cells (n := 5) (by kernel_rfl) (by kernel_rfl) rfl rfl rfl .nil) rfl fun E S w u hI hd => ?_
     refine post_mkG (⟨(b1), (hs2), !((e3)), (lv4), (rv5), (i213), (h214)⟩) ?_ hI hd ?_ ⟨rfl, ⟨rfl, ⟨rfl, trivial⟩⟩⟩ rfl rfl <;> clear hI hd
     · (try dsimp only) <;> ((exact ⟨by assumption, by omega⟩))
     · rfl
    ·
     have h203' := of_decide_eq_false h203
     refine tsr ?_
     refine r_op oB ?_
     refine r_op oA ?_
     refine r_end ?_
     refine t_cond rfl (fun h204 => ?_) (fun h204 => ?_)
     ·
      have h204' := of_decide_eq_true h204
      refine t_draw (fun i => !(Nat.beq i 4 || Nat.beq i 5 || Nat.beq i 7 || Nat.beq i 9)) (by kernel_rfl) ?_
      refine d_takeP 0 rfl rfl (by kernel_rfl) (by kernel_rfl) (by kernel_rfl) (pw_fieldb (off := 1) (by kernel_rfl) rfl) ?_
      refine d_takeP 2 rfl rfl (by kernel_rfl) (by kernel_rfl) (by kernel_rfl) (pw_move rfl) ?_
      refine dT 3 rfl pM ?_
      refine d_twoX 1 4 rfl rfl (by kernel_rfl) rfl rfl (osX oL) (o_callGM 0 11 12 (pv := some (v0)) (Go.Proofs.enters_of Tryz.func41 (by kernel_rfl) rfl) (c_spec_l1Below (((code))) ((i213)) ((h214)) (5) (by omega) (by omega) (by omega) (by omega) (by omega)) rfl rfl (.cur rfl (.cons rfl .nil)) rfl (fun ⟨_, _, _⟩ => rfl) (fun _ => rfl) (fun ⟨_, _, _⟩ => rfl) rfl rfl) ?_ ?_
      ·
       rintro ⟨⟩
       refine dOX 4 rfl (o_callGM 0 11 12 (pv := some (v0)) (Go.Proofs.enters_of Tryz.func41 (by kernel_rfl) rfl) (c_spec_l1Below (((code))) ((i213)) ((h214)) (5) (by omega) (by omega) (by omega) (by omega) (by omega)) rfl rfl (.cur rfl (.cons rfl .nil)) rfl (fun ⟨_, _, _⟩ => rfl) (fun _ => rfl) (fun ⟨_, _, _⟩ => rfl) rfl rfl) ?_
       rintro ⟨⟨x211, i2212, h2213⟩, hq214⟩
       try dsimp only at hq214
       try dsimp only
       obtain ⟨q215, q216⟩ := hq214
       refine dOX 5 rfl (o_callGM 0 12 17 (pv := some (v0)) (Go.Proofs.enters_of Tryz.func163 (by kernel_rfl) rfl) (c_spec_l9Atom ((((code)))) ((i2212)) ((h2213)) ((x211)) (3) (by omega) (by omega) (by omega) (by omega) (by omega)) rfl rfl (.cur rfl (.cons rfl (.cons rfl .nil))) rfl (fun ⟨_, _, _⟩ => rfl) (fun _ => rfl) (fun ⟨_, _, _⟩ => rfl) rfl rfl) ?_
       rintro ⟨⟨ts217, i2218, h2219⟩, hq220⟩
       try dsimp only at hq220
       try dsimp only
       obtain ⟨q221, q222, q223⟩ := hq220
       have hy9 : ∀ x ∈ ts217, -3 ≤ x ∧ x ≤ 4 := (by assumption)
       refine dO 6 rfl (o_litS 17 (e := 103) (sz := 2) (zs := [.int .i64 (0), .slice none 0 0]) rfl rfl (by kernel_rfl) rfl rfl rfl rfl rfl) ?_
       refine dO 7 rfl (o_append 8 (e := 103) (sz := 2) (by' := 32) ((((x211)), (ts217))) rfl (by kernel_rfl) rfl rfl rfl rfl rfl rfl (.cons .sc (.take (.own rfl) rfl .nil)) rfl (by omega) (by omega)) ?_
       refine dT 8 rfl (pF 1) ?_
       refine dO 9 rfl (oS 1) ?_
       refine d_end (by kernel_rfl) ?_
       refine t_endblock ?_
       refine tsr ?_
       refine r_op (oC 5) ?_
       refine r_op (oS 5) ?_
       refine r_end ?_
       refine t_ret Tryz.func108 (.cells (n := 5) (by kernel_rfl) (by kernel_rfl) rfl rfl rfl .nil) rfl fun E S w u hI hd => ?_
       refine post_mkG (⟨(b1), (hs2) ++ [(((x211)), (ts217))], (e3), (lv4), (rv5), (i2218), (h2219)⟩) ?_ hI hd ?_ ⟨rfl, ⟨rfl, ⟨rfl, trivial⟩⟩⟩ rfl rfl <;> clear hI hd
       · (try dsimp only) <;> ((exact ⟨⟨k1, by (simp only [List.length_append, List.length_singleton]; omega), k3, mem_snoc k4 ⟨by (try dsimp only); omega, by (try dsimp only); omega, fun x hx => by have e9 := hy9 x hx; omega⟩, k5, k6⟩, by omega⟩))
       · rfl
      ·
       rintro ⟨⟨x205, i2206, h2207⟩, hq208⟩
       try dsimp only at hq208
       try dsimp only
       obtain ⟨q209, q210⟩ := hq208
       refine d_twoX 1 5 rfl rfl (by kernel_rfl) rfl rfl (osX oL) (o_callGM 0 12 17 (pv := some (v0)) (Go.Proofs.enters_of Tryz.func163 (by kernel_rfl) rfl) (c_spec_l9Atom ((((code)))) ((i2206)) ((h2207)) ((x205)) (3) (by omega) (by omega) (by omega) (by omega) (by omega)) rfl rfl (.cur rfl (.cons rfl (.cons rfl .nil))) rfl (fun ⟨_, _, _⟩ => rfl) (fun _ => rfl) (fun ⟨_, _, _⟩ => rfl) rfl rfl) ?_ ?_
       ·
        rintro ⟨⟩
        refine dOX 5 rfl (o_callGM 0 12 17 (pv := some (v0)) (Go.Proofs.enters_of Tryz.func163 (by kernel_rfl) rfl) (c_spec_l9Atom ((((code)))) ((i2206)) ((h2207)) ((x205)) (3) (by omega) (by omega) (by omega) (by omega) (by omega)) rfl rfl (.cur rfl (.cons rfl (.cons rfl .nil))) rfl (fun ⟨_, _, _⟩ => rfl) (fun _ => rfl) (fun ⟨_, _, _⟩ => rfl) rfl rfl) ?_
        rintro ⟨⟨ts231, i2232, h2233⟩, hq234⟩
        try dsimp only at hq234
        try dsimp only
        obtain ⟨q235, q236, q237⟩ := hq234
        have hy9 : ∀ x ∈ ts231, -3 ≤ x ∧ x ≤ 4 := (by assumption)
        refine dO 6 rfl (o_litS 17 (e := 103) (sz := 2) (zs := [.int .i64 (0), .slice none 0 0]) rfl rfl (by kernel_rfl) rfl rfl rfl rfl rfl) ?_
        refine dO 7 rfl (o_append 8 (e := 103) (sz := 2) (by' := 32) ((((x205)), (ts231))) rfl (by kernel_rfl) rfl rfl rfl rfl rfl rfl (.cons .sc (.take (.own rfl) rfl .nil)) rfl (by omega) (by omega)) ?_
        refine dT 8 rfl (pF 1) ?_
        refine dO 9 rfl (oS 1) ?_
        refine d_end (by kernel_rfl) ?_
        refine t_endblock ?_
        refine tsr ?_
        refine r_op (oC 5) ?_
        refine r_op (oS 5) ?_
        refine r_end ?_
        refine t_ret Tryz.func108 (.cells (n := 5) (by kernel_rfl) (by kernel_rfl) rfl rfl rfl .nil) rfl fun E S w u hI hd => ?_
        refine post_mkG (⟨(b1), (hs2) ++ [(((x205)), (ts231))], (e3), (lv4), (rv5), (i2232), (h2233)⟩) ?_ hI hd ?_ ⟨rfl, ⟨rfl, ⟨rfl, trivial⟩⟩⟩ rfl rfl <;> clear hI hd
        · (try dsimp only) <;> ((exact ⟨⟨k1, by (simp only [List.length_append, List.length_singleton]; omega), k3, mem_snoc k4 ⟨by (try dsimp only); omega, by (try dsimp only); omega, fun x hx => by have e9 := hy9 x hx; omega⟩, k5, k6⟩, by omega⟩))
        · rfl
       ·
        rintro ⟨⟨ts224, i2225, h2226⟩, hq227⟩
        try dsimp only at hq227
        try dsimp only
        obtain ⟨q228, q229, q230⟩ := hq227
        have hy9 : ∀ x ∈ ts224, -3 ≤ x ∧ x ≤ 4 := (by assumption)
        refine dT 1 rfl pL ?_
        refine dO 6 rfl (o_litS 17 (e := 103) (sz := 2) (zs := [.int .i64 (0), .slice none 0 0]) rfl rfl (by kernel_rfl) rfl rfl rfl rfl rfl) ?_
        refine dO 7 rfl (o_append 8 (e := 103) (sz := 2) (by' := 32) ((((x205)), (ts224))) rfl (by kernel_rfl) rfl rfl rfl rfl rfl rfl (.cons .sc (.take (.own rfl) rfl .nil)) rfl (by omega) (by omega)) ?_
        refine dT 8 rfl (pF 1) ?_
        refine dO 9 rfl (oS 1) ?_
        refine d_end (by kernel_rfl) ?_
        refine t_endblock ?_
        refine tsr ?_
        refine r_op (oC 5) ?_
        refine r_op (oS 5) ?_
        refine r_end ?_
        refine t_ret Tryz.func108 (.cells (n := 5) (by kernel_rfl) (by kernel_rfl) rfl rfl rfl .nil) rfl fun E S w u hI hd => ?_
        refine post_mkG (⟨(b1), (hs2) ++ [(((x205)), (ts224))], (e3), (lv4), (rv5), (i2225), (h2226)⟩) ?_ hI hd ?_ ⟨rfl, ⟨rfl, ⟨rfl, trivial⟩⟩⟩ rfl rfl <;> clear hI hd
        · (try dsimp only) <;> ((exact ⟨⟨k1, by (simp only [List.length_append, List.length_singleton]; omega), k3, mem_snoc k4 ⟨by (try dsimp only); omega, by (try dsimp only); omega, fun x hx => by have e9 := hy9 x hx; omega⟩, k5, k6⟩, by omega⟩))
        · rfl
     ·
      have h204' := of_decide_eq_false h204
      refine t_skip ?_
      refine t_endblock ?_
      refine tsr ?_
      refine r_op (oC 5) ?_
      refine r_op (oS 5) ?_
      refine r_end ?_
      refine t_ret Tryz.func108 (.cells (n := 5) (by kernel_rfl) (by kernel_rfl) rfl rfl rfl .nil) rfl fun E S w u hI hd => ?_
      refine post_mkG (⟨(b1), (hs2), (e3), (lv4), (rv5), (i213), (h214)⟩) ?_ hI hd ?_ ⟨rfl, ⟨rfl, ⟨rfl, trivial⟩⟩⟩ rfl rfl <;> clear hI hd
      · (try dsimp only) <;> ((exact ⟨by assumption, by omega⟩))
      · rfl
set_option maxHeartbeats 1000000 in
set_option maxRecDepth 10000 in
theorem c_spec_DrawAreValidDependencies (code : List Int) (hc : code.length ≤ 1048600) : PuG Tryz.prog 51 [.c (.t none (.sl 1 encU (code)))] (fun (ds : (List Dep)) => ds.length ≤ 6 ∧ (∀ d ∈ ds, depL d)) (fun (ds : (List Dep)) => []) 0 (fun (ds : (List Dep)) => .tup [(false, [.t none (.sl 3 (enS3 encS encI encB) (sigs5))]), (false, [.t none (.sl 5 (enS5 (enSl 2 (enS2 encI (enSl 1 encI))) (enSl 2 (enS2 encI (enSl 1 encI))) encB encI encI) (ds))])]) := by
 refine pu_enterG Tryz.func51 rfl (Nat.le_of_ble_eq_true rfl) fun w S => ?_
 refine tsr ?_
 refine r_op oA ?_
 refine r_op oA ?_
 refine etr ?_
 refine r_op oM ?_
 refine r_opX (o_callG 0 1 (Go.Proofs.enters_of Tryz.func39 (by kernel_rfl) rfl) (c_spec_l1New (code) (by omega)) rfl (.cons rfl (.c .t0) .nil) rfl rfl) ?_
 rintro ⟨h1, hq2⟩
 try dsimp only at hq2
 try dsimp only
 refine r_op oA ?_
 refine etr ?_
 refine r_op oM ?_
 refine r_opX (o_callGM 0 1 3 (pv := none) (Go.Proofs.enters_of Tryz.func107 (by kernel_rfl) rfl) (c_spec_l9Rules ((code)) (0) ((h1)) (by omega) (by omega) (by omega)) rfl rfl (.cur rfl .nil) rfl (fun ⟨_, _, _⟩ => rfl) (fun _ => rfl) (fun ⟨_, _, _⟩ => rfl) rfl rfl) ?_
 rintro ⟨⟨ds4, i25, h26⟩, hq7⟩
 try dsimp only at hq7
 try dsimp only
 obtain ⟨q8, q9, q10⟩ := hq7
 refine r_op oA ?_
 refine r_end ?_
 refine t_seq ?_
 refine tsr ?_
 refine r_op oM ?_
 refine r_opX (o_callGM 0 3 4 (pv := none) (Go.Proofs.enters_of Tryz.func57 (by kernel_rfl) rfl) (c_spec_l1Once (((code))) ((i25)) ((h26)) (4) (by omega) (by omega) (by omega) (by omega) (by omega)) rfl rfl (.cur rfl (.cons rfl .nil)) rfl (fun ⟨_, _, _⟩ => rfl) (fun _ => rfl) (fun ⟨_, _, _⟩ => rfl) rfl rfl) ?_
 rintro ⟨⟨b11, i212, h213⟩, hq14⟩
 try dsimp only at hq14
 try dsimp only
 refine r_end ?_
 refine t_cond rfl (fun h16 => ?_) (fun h16 => ?_)
 ·
  have h16' := h16
  refine t_region ?_
  refine r_op oM ?_
  refine r_op oM ?_
  refine r_opX (o_callGM 0 4 13 (pv := none) (Go.Proofs.enters_of Tryz.func108 (by kernel_rfl) rfl) (c_spec_l9Any ((((code)))) ((i212)) ((h213)) (by omega) (by omega) (by omega)) rfl rfl (.cur rfl .nil) rfl (fun ⟨_, _, _, _, _, _, _⟩ => rfl) (fun _ => rfl) (fun ⟨_, _, _, _, _, _, _⟩ => rfl) rfl rfl) ?_
  rintro ⟨⟨b17, hs18, e19, lv20, rv21, i222, h223⟩, hq24⟩
  try dsimp only at hq24
  try dsimp only
  obtain ⟨q25, q26⟩ := hq24
  refine r_op oM ?_
  refine r_opX (o_callGM 0 13 22 (pv := none) (Go.Proofs.enters_of Tryz.func108 (by kernel_rfl) rfl) (c_spec_l9Any (((((code))))) ((i222)) ((h223)) (by omega) (by omega) (by omega)) rfl rfl (.cur rfl .nil) rfl (fun ⟨_, _, _, _, _, _, _⟩ => rfl) (fun _ => rfl) (fun ⟨_, _, _, _, _, _, _⟩ => rfl) rfl rfl) ?_
  rintro ⟨⟨b27, hs28, e29, lv30, rv31, i232, h233⟩, hq34⟩
  try dsimp only at hq34
  try dsimp only
  obtain ⟨q35, q36⟩ := hq34
  refine r_op (o_litN 22 (e := 57) (sz := 5) (zs := [.slice none 0 0, .slice none 0 0, .bool (false), .int .i64 (0), .int .i64 (0)]) (enc := (enS5 (enSl 2 (enS2 encI (enSl 1 encI))) (enSl 2 (enS2 encI (enSl 1 encI))) encB encI encI)) [((b17), (hs18), (e19), (lv20), (rv21)), ((b27), (hs28), (e29), (lv30), (rv31))] rfl rfl (by kernel_rfl) rfl rfl rfl rfl rfl rfl rfl rfl (.take (.own rfl) rfl (.take (.own rfl) rfl (.cons .sc (.cons .sc (.cons .sc (.take (.own rfl) rfl (.take (.own rfl) rfl (.cons .sc (.cons .sc (.cons .sc .nil)))))))))) rfl) ?_
  refine r_op (o_appendD 2 (e := 57) (sz := 5) (by' := 72) rfl (by kernel_rfl) rfl rfl rfl rfl rfl rfl (by (simp only [List.length_cons, List.length_nil]; omega)) (by (simp only [List.length_cons, List.length_nil]; omega))) ?_
  refine r_op oA ?_
  refine etr ?_
  refine r_op (o_call 23 24 false (Go.Proofs.enters_of Tryz.func109 (by kernel_rfl) rfl) (c_spec_l3Sigs ) rfl .nil rfl rfl rfl) ?_
  refine r_op oM ?_
  refine r_op oA ?_
  refine r_op oA ?_
  refine r_end ?_
  refine gt_freeze 23 rfl (frz_pu rfl) ?_
  refine gt_freeze 2 rfl (frz_pu rfl) ?_
  refine t_ret Tryz.func51 (.tmp rfl (.tmp rfl .nil)) rfl fun E S w u hI hd => ?_
  refine post_mkG ((ds4) ++ ([((b17), (hs18), (e19), (lv20), (rv21)), ((b27), (hs28), (e29), (lv30), (rv31))])) ?_ hI hd ?_ trivial rfl rfl <;> clear hI hd
  · (try dsimp only) <;> ((exact ⟨by (simp only [List.length_append, List.length_cons, List.length_nil]; omega), mem_two (by assumption) (by assumption) (by assumption)⟩))
  · rfl
 ·
  have h16' := h16
  refine t_skip ?_
  refine tsr ?_
  refine r_op (o_call 4 5 false (Go.Proofs.enters_of Tryz.func109 (by kernel_rfl) rfl) (c_spec_l3Sigs ) rfl .nil rfl rfl rfl) ?_
  refine r_op oM ?_
  refine r_op oA ?_
  refine r_op oA ?_
  refine r_end ?_
  refine gt_freeze 4 rfl (frz_pu rfl) ?_
  refine gt_freeze 2 rfl (frz_pu rfl) ?_
  refine t_ret Tryz.func51 (.tmp rfl (.tmp rfl .nil)) rfl fun E S w u hI hd => ?_
  refine post_mkG ((ds4)) ?_ hI hd ?_ trivial rfl rfl <;> clear hI hd
  · (try dsimp only) <;> ((exact ⟨by omega, by assumption⟩))
  · rfl
set_option maxHeartbeats 1000000 in
set_option maxRecDepth 10000 in
theorem c_spec_DrawFormatDependencies (code : List Int) (hc : code.length ≤ 1048576) : PuG Tryz.prog 21 [.c (.t none (.sl 1 encU (code)))] (fun (ds : (List Dep)) => ds.length ≤ 6 ∧ (∀ d ∈ ds, depL d)) (fun (ds : (List Dep)) => []) 0 (fun (ds : (List Dep)) => .tup [(false, [.t none (.sl 3 (enS3 encS encI encB) (sigs5))]), (false, [.t none (.sl 5 (enS5 (enSl 2 (enS2 encI (enSl 1 encI))) (enSl 2 (enS2 encI (enSl 1 encI))) encB encI encI) (ds))])]) := by
 refine pu_enterG Tryz.func21 rfl (Nat.le_of_ble_eq_true rfl) fun w S => ?_
 refine tsr ?_
 refine r_op oA ?_
 refine r_op oA ?_
 refine etr ?_
 refine r_op oM ?_
 refine r_opX (o_callG 0 0 (Go.Proofs.enters_of Tryz.func51 (by kernel_rfl) rfl) (c_spec_DrawAreValidDependencies (code) (by omega)) rfl (.cons rfl (.c .t0) .nil) rfl rfl) ?_
 rintro ⟨ds1, hq2⟩
 try dsimp only at hq2
 try dsimp only
 obtain ⟨q3, q4⟩ := hq2
 refine r_op (o_extract rfl rfl rfl rfl) ?_
 refine r_op (o_extract rfl rfl rfl rfl) ?_
 refine r_op oA ?_
 refine r_op oA ?_
 refine r_end ?_
 refine t_ret Tryz.func21 (.tmp rfl (.tmp rfl .nil)) rfl fun E S w u hI hd => ?_
 refine post_mkG ((ds1)) ?_ hI hd ?_ trivial rfl rfl <;> clear hI hd
 · (try dsimp only) <;> (exact ⟨by assumption, by assumption⟩)
 · rfl
set_option maxHeartbeats 1000000 in
set_option maxRecDepth 10000 in
theorem c_impl_within (a0 a1 a2 : Int) : Pu Tryz.prog 157 [.c (.t none (.v (.int .i64 (a0)))), .c (.t none (.v (.int .i64 (a1)))), .c (.t none (.v (.int .i64 (a2))))] [] 0 (.c (.t none (.v (.bool (decide (a1 ≤ a0 ∧ a0 ≤ a2)))))) := by
 refine pu_enter Tryz.func157 rfl (Nat.le_of_ble_eq_true rfl) fun w S => ?_
 refine tsr ?_
 refine r_op oA ?_
 refine etr ?_
 refine r_op oM ?_
 refine r_op oM ?_
 refine r_op oB ?_
 refine r_op oM ?_
 refine r_guard rfl rfl rfl (fun g1 => ?_) (fun g1 => ?_)
 ·
  have g1' := of_decide_eq_true g1
  refine r_op oM ?_
  refine r_guard rfl rfl rfl (fun _ => ?_) (nc g1)
  refine r_op oM ?_
  refine r_guard rfl rfl rfl (fun _ => ?_) (nc g1)
  refine r_op oB ?_
  refine r_op (o_pickT rfl rfl g1 rfl) ?_
  refine r_op oA ?_
  refine r_end ?_
  refine t_ret Tryz.func157 (.tmp rfl .nil) rfl fun E S w u hI hd => ?_
  refine post_mk hI hd ?_ trivial rfl rfl rfl <;> clear hI hd
  all_goals (simp_all <;> omega)
 ·
  have g1' := of_decide_eq_false g1
  refine r_guard rfl rfl rfl (ncf g1) (fun _ => ?_)
  refine r_guard rfl rfl rfl (ncf g1) (fun _ => ?_)
  refine r_op (o_pickF rfl rfl g1 rfl) ?_
  refine r_op oA ?_
  refine r_end ?_
  refine t_ret Tryz.func157 (.tmp rfl .nil) rfl fun E S w u hI hd => ?_
  refine post_mk hI hd ?_ trivial rfl rfl rfl <;> clear hI hd
  all_goals (simp_all <;> omega)
set_option maxHeartbeats 1000000 in
set_option maxRecDepth 10000 in
theorem c_impl_IsValidRelation (n : List UInt8) (a : Int) (s : Bool) : Pu Tryz.prog 110 [.agg [.t none (.v (.string (mkS (n)))), .t none (.v (.int .i64 (a))), .t none (.v (.bool (s)))]] [] 0 (.c (.t none (.v (.bool (relOk (n, a, s)))))) := by
 refine pu_enter Tryz.func110 rfl (Nat.le_of_ble_eq_true rfl) fun w S => ?_
 refine tsr ?_
 refine r_op (o_box 0 rfl rfl rfl rfl) ?_
 refine r_op oA ?_
 refine etr ?_
 refine r_op (oF 0) ?_
 refine r_op oL ?_
 refine r_op (o_lenS rfl Tryz.underlying9 rfl) ?_
 refine r_op oB ?_
 refine r_op oM ?_
 refine r_guard rfl rfl rfl (fun g1 => ?_) (fun g1 => ?_)
 ·
  have g1' := of_decide_eq_true g1
  refine r_op (oF 0) ?_
  refine r_guard rfl rfl rfl (fun _ => ?_) (nc g1)
  refine r_op oL ?_
  refine r_guard rfl rfl rfl (fun _ => ?_) (nc g1)
  refine r_op (o_str rfl rfl rfl rfl) ?_
  refine r_op (o_pickT rfl rfl g1 rfl) ?_
  refine r_op oM ?_
  refine r_guard rfl rfl rfl (fun g2 => ?_) (fun g2 => ?_)
  ·
   have g2' := (bnt g2)
   refine r_op (oF 0) ?_
   refine r_guard rfl rfl rfl (fun _ => ?_) (nc g2)
   refine r_op oL ?_
   refine r_guard rfl rfl rfl (fun _ => ?_) (nc g2)
   refine r_op (o_str rfl rfl rfl rfl) ?_
   refine r_op (o_pickT rfl rfl g2 rfl) ?_
   refine r_op oM ?_
   refine r_guard rfl rfl rfl (fun g3 => ?_) (fun g3 => ?_)
   ·
    have g3' := (bnt g3)
    refine r_op (oF 1) ?_
    refine r_guard rfl rfl rfl (fun _ => ?_) (nc g3)
    refine r_op oL ?_
    refine r_guard rfl rfl rfl (fun _ => ?_) (nc g3)
    refine r_op (o_call 1 1 false (Go.Proofs.enters_of Tryz.func157 (by kernel_rfl) rfl) (c_impl_within (a) (1) (3)) rfl (.cons rfl (.c .t0) (.cons rfl (.c .t0) (.cons rfl (.c .t0) .nil))) rfl rfl rfl) ?_
    refine r_op (o_pickT rfl rfl g3 rfl) ?_
    refine r_op oA ?_
    refine r_end ?_
    refine t_ret Tryz.func110 (.tmp rfl .nil) rfl fun E S w u hI hd => ?_
    refine post_mk hI hd ?_ trivial rfl rfl rfl <;> clear hI hd
    all_goals (refine scB ?_; (obtain ⟨c, rfl⟩ := one_of (by assumption); simp only [less_lo, less_hi, Bool.not_eq_true', Bool.not_eq_false', decide_eq_true_eq, decide_eq_false_iff_not] at *; simp [relOk, nameOk]; omega))
   ·
    have g3' := (bnf g3)
    refine r_guard rfl rfl rfl (ncf g3) (fun _ => ?_)
    refine r_guard rfl rfl rfl (ncf g3) (fun _ => ?_)
    refine r_op (o_pickF rfl rfl g3 rfl) ?_
    refine r_op oA ?_
    refine r_end ?_
    refine t_ret Tryz.func110 (.tmp rfl .nil) rfl fun E S w u hI hd => ?_
    refine post_mk hI hd ?_ trivial rfl rfl rfl <;> clear hI hd
    all_goals (refine scB ?_; (obtain ⟨c, rfl⟩ := one_of (by assumption); simp only [less_lo, less_hi, Bool.not_eq_true', Bool.not_eq_false', decide_eq_true_eq, decide_eq_false_iff_not] at *; simp [relOk, nameOk]; omega))
  ·
   have g2' := (bnf g2)
   refine r_guard rfl rfl rfl (ncf g2) (fun _ => ?_)
   refine r_guard rfl rfl rfl (ncf g2) (fun _ => ?_)
   refine r_op (o_pickF rfl rfl g2 rfl) ?_
   refine r_op oM ?_
   refine r_guard rfl rfl rfl (ncf rfl) (fun _ => ?_)
   refine r_guard rfl rfl rfl (ncf rfl) (fun _ => ?_)
   refine r_guard rfl rfl rfl (ncf rfl) (fun _ => ?_)
   refine r_op (o_pickF rfl rfl rfl rfl) ?_
   refine r_op oA ?_
   refine r_end ?_
   refine t_ret Tryz.func110 (.tmp rfl .nil) rfl fun E S w u hI hd => ?_
   refine post_mk hI hd ?_ trivial rfl rfl rfl <;> clear hI hd
   all_goals (refine scB ?_; (obtain ⟨c, rfl⟩ := one_of (by assumption); simp only [less_lo, less_hi, Bool.not_eq_true', Bool.not_eq_false', decide_eq_true_eq, decide_eq_false_iff_not] at *; simp [relOk, nameOk]; omega))
 ·
  have g1' := of_decide_eq_false g1
  refine r_guard rfl rfl rfl (ncf g1) (fun _ => ?_)
  refine r_guard rfl rfl rfl (ncf g1) (fun _ => ?_)
  refine r_op (o_pickF rfl rfl g1 rfl) ?_
  refine r_op oM ?_
  refine r_guard rfl rfl rfl (ncf rfl) (fun _ => ?_)
  refine r_guard rfl rfl rfl (ncf rfl) (fun _ => ?_)
  refine r_guard rfl rfl rfl (ncf rfl) (fun _ => ?_)
  refine r_op (o_pickF rfl rfl rfl rfl) ?_
  refine r_op oM ?_
  refine r_guard rfl rfl rfl (ncf rfl) (fun _ => ?_)
  refine r_guard rfl rfl rfl (ncf rfl) (fun _ => ?_)
  refine r_guard rfl rfl rfl (ncf rfl) (fun _ => ?_)
  refine r_op (o_pickF rfl rfl rfl rfl) ?_
  refine r_op oA ?_
  refine r_end ?_
  refine t_ret Tryz.func110 (.tmp rfl .nil) rfl fun E S w u hI hd => ?_
  refine post_mk hI hd ?_ trivial rfl rfl rfl <;> clear hI hd
  all_goals (refine scB ?_; (have e := nameOk_not (by assumption); simp [relOk, e]; done))
set_option maxHeartbeats 1000000 in
set_option maxRecDepth 10000 in
theorem c_impl_AreValidRelations (l : List (List UInt8 × Int × Bool)) (hl : l.length ≤ 4611686018427387904) : Pu Tryz.prog 52 [.c (.t none (.sl 3 (enS3 encS encI encB) (l)))] [] 0 (.c (.t none (.v (.bool (relsOk l))))) := by
 refine pu_enter Tryz.func52 rfl (Nat.le_of_ble_eq_true rfl) fun w S => ?_
 refine tsr ?_
 refine r_op oA ?_
 refine r_end ?_
 refine t_seq ?_
 refine tsr ?_
 refine r_op oM ?_
 refine r_op (o_len rfl rfl rfl) ?_
 refine r_op oM ?_
 refine r_end ?_
 refine t_block ?_
 refine t_loopL (fun m => ⟨[(0, some (.c (.t none (.sl 3 (enS3 encS encI encB) (l))))), (5, some (.c (.t none (.sl 3 (enS3 encS encI encB) (l))))), (6, some (.c (.t none (.v (.int .i64 (((l).length : Int))))))), (7, some (.c (.t none (.v (.int .i64 ((m : Int)))))))], [], 0⟩ : Nat → St) (fun m => m ≤ l.length ∧ ∀ j, j < m → relStep l j = true) (fun m => l.length - m) 0 ⟨⟨rfl, ⟨rfl, ⟨rfl, ⟨rfl, trivial⟩⟩⟩⟩, trivial, rfl⟩ (by exact ⟨Nat.zero_le _, fun j h => by omega⟩) ?_
 rintro m hI ih0
 try dsimp only at hI ih0
 obtain ⟨i1, i2⟩ := hI
 refine tsr ?_
 refine r_op oB ?_
 refine r_end ?_
 refine t_seq ?_
 refine t_cond rfl (fun h1 => ?_) (fun h1 => ?_)
 ·
  have h1' := of_decide_eq_true h1
  refine t_skip ?_
  refine t_seq ?_
  refine t_block ?_
  refine tsr ?_
  refine r_op oM ?_
  obtain ⟨z2, hz3, b4⟩ := at_get (xs := l) (n := (m : Int)) (by omega) (by omega)
  refine r_op (o_index rfl (by kernel_rfl) rfl rfl b4 hz3) ?_
  refine r_op (o_loadA rfl (n := 3) (by kernel_rfl) (by kernel_rfl) rfl rfl) ?_
  refine r_op (o_alloc 0 (zs := [.string (mkS ([])), .int .i64 (0), .bool (false)]) rfl rfl (by kernel_rfl) rfl) ?_
  refine r_op oA ?_
  refine r_op (oS 3) ?_
  refine r_end ?_
  refine t_seq ?_
  refine t_draw (fun _ => true) (by kernel_rfl) ?_
  refine dT 0 rfl (pC 3) ?_
  refine dO 1 rfl (o_call 1 1 false (Go.Proofs.enters_of Tryz.func110 (by kernel_rfl) rfl) (c_impl_IsValidRelation (z2.1) (z2.2.1) (z2.2.2)) rfl (.cons rfl (.agg (.cons .t0 (.cons .t0 (.cons .t0 .nil)))) .nil) rfl rfl rfl) ?_
  refine dT 2 rfl (p_not rfl) ?_
  refine dT 3 rfl pM ?_
  refine dH 4 rfl (fun _ => pM) (fun g5 => ?_) (fun g5 => ?_)
  ·
   have g5' := (bnf g5)
   refine dH 5 rfl (fun _ => pB) (fun _ => ?_) (ncf g5)
   refine dH 6 rfl (fun _ => pM) (fun _ => ?_) (ncf g5)
   refine dH 7 rfl (fun _ => pF 0) (fun g6 => ?_) (fun g6 => ?_)
   ·
    have g6' := of_decide_eq_true g6
    refine dH 8 rfl (fun _ => pL) (fun _ => ?_) (nc g6)
    refine dH 9 rfl (fun _ => pM) (fun _ => ?_) (nc g6)
    refine dH 10 rfl (fun _ => pM) (fun _ => ?_) (nc g6)
    refine dH 11 rfl (fun _ => pB) (fun _ => ?_) (nc g6)
    obtain ⟨z7, hz8, b9⟩ := at_get (xs := l) (n := IntKind.i64.wrap ((m : Int) - 1)) (by (simp only [IntKind.wrap_i64]; omega)) (by (simp only [IntKind.wrap_i64]; omega))
    refine dH 12 rfl (fun _ => p_index (by kernel_rfl) rfl rfl b9 hz8) (fun _ => ?_) (nc g6)
    refine dH 13 rfl (fun _ => p_field (off := 0) (by kernel_rfl) rfl) (fun _ => ?_) (nc g6)
    refine dH 14 rfl (fun _ => p_load1 (by kernel_rfl) rfl rfl) (fun _ => ?_) (nc g6)
    refine dH 15 rfl (fun _ => p_str rfl rfl rfl) (fun _ => ?_) (nc g6)
    refine dH 16 rfl (fun _ => p_pickT rfl g6 rfl) (fun _ => ?_) (ncf g5)
    refine dT 17 rfl (p_pickF rfl g5 rfl) ?_
    refine d_end (by kernel_rfl) ?_
    refine t_cond rfl (fun h10 => ?_) (fun h10 => ?_)
    ·
     have h10' := (bnt h10)
     refine tsr ?_
     refine r_op oA ?_
     refine r_end ?_
     refine t_ret Tryz.func52 (.tmp rfl .nil) rfl fun E S w u hI hd => ?_
     refine post_mk hI hd ?_ trivial rfl rfl rfl <;> clear hI hd <;> (try clear ih0)
     all_goals (rw [relsOk_not (m := m) (by omega) (relStep_pos (n := (IntKind.i64.wrap ((m : Int) - 1)).toNat) (by assumption) (by assumption) (by omega) (by simp only [IntKind.wrap_i64]; omega) (by assumption) (by assumption))])
    ·
     have h10' := (bnf h10)
     refine t_skip ?_
     refine t_endblock ?_
     refine t_region ?_
     refine r_op oB ?_
     refine r_op oM ?_
     refine r_end ?_
     refine t_le ?_ (ih0 (m + 1) (by (try dsimp only); omega) (by (try dsimp only); exact ⟨by omega, step_all i2 (relStep_pos (n := (IntKind.i64.wrap ((m : Int) - 1)).toNat) (by assumption) (by assumption) (by omega) (by simp only [IntKind.wrap_i64]; omega) (by assumption) (by assumption))⟩))
     exact ⟨⟨rfl, ⟨rfl, ⟨rfl, ⟨(eqI (wr64 (by omega) (by omega))), trivial⟩⟩⟩⟩, trivial, rfl⟩
   ·
    have g6' := of_decide_eq_false g6
    refine dG 8 (ncf g6) (fun _ => ?_)
    refine dG 9 (ncf g6) (fun _ => ?_)
    refine dG 10 (ncf g6) (fun _ => ?_)
    refine dG 11 (ncf g6) (fun _ => ?_)
    refine dG 12 (ncf g6) (fun _ => ?_)
    refine dG 13 (ncf g6) (fun _ => ?_)
    refine dG 14 (ncf g6) (fun _ => ?_)
    refine dG 15 (ncf g6) (fun _ => ?_)
    refine dH 16 rfl (fun _ => p_pickF rfl g6 rfl) (fun _ => ?_) (ncf g5)
    refine dT 17 rfl (p_pickF rfl g5 rfl) ?_
    refine d_end (by kernel_rfl) ?_
    refine t_cond rfl (ncf rfl) (fun _ => ?_)
    refine t_skip ?_
    refine t_endblock ?_
    refine t_region ?_
    refine r_op oB ?_
    refine r_op oM ?_
    refine r_end ?_
    refine t_le ?_ (ih0 (m + 1) (by (try dsimp only); omega) (by (try dsimp only); exact ⟨by omega, step_all i2 (relStep_zero (by assumption) (by assumption) (by omega))⟩))
    exact ⟨⟨rfl, ⟨rfl, ⟨rfl, ⟨(eqI (wr64 (by omega) (by omega))), trivial⟩⟩⟩⟩, trivial, rfl⟩
  ·
   have g5' := (bnt g5)
   refine dG 5 (nc g5) (fun _ => ?_)
   refine dG 6 (nc g5) (fun _ => ?_)
   refine dK 7 ?_
   refine dK 8 ?_
   refine dK 9 ?_
   refine dK 10 ?_
   refine dK 11 ?_
   refine dK 12 ?_
   refine dK 13 ?_
   refine dK 14 ?_
   refine dK 15 ?_
   refine dG 16 (nc g5) (fun _ => ?_)
   refine dT 17 rfl (p_pickT rfl g5 rfl) ?_
   refine d_end (by kernel_rfl) ?_
   refine t_cond rfl (fun _ => ?_) (nc rfl)
   refine tsr ?_
   refine r_op oA ?_
   refine r_end ?_
   refine t_ret Tryz.func52 (.tmp rfl .nil) rfl fun E S w u hI hd => ?_
   refine post_mk hI hd ?_ trivial rfl rfl rfl <;> clear hI hd <;> (try clear ih0)
   all_goals (rw [relsOk_not (m := m) (by omega) (relStep_bad (by assumption) (by assumption))])
 ·
  have h1' := of_decide_eq_false h1
  refine t_exit rfl ?_
  refine tsr ?_
  refine r_op oM ?_
  refine r_op (o_len rfl rfl rfl) ?_
  refine r_op oB ?_
  refine r_op oA ?_
  refine r_end ?_
  refine t_ret Tryz.func52 (.tmp rfl .nil) rfl fun E S w u hI hd => ?_
  refine post_mk hI hd ?_ trivial rfl rfl rfl <;> clear hI hd <;> (try clear ih0)
  all_goals (rw [relsOk_end (m := m) i2 (by omega)]; exact scD (by omega))
set_option maxHeartbeats 1000000 in
set_option maxRecDepth 10000 in
theorem c_slices_IndexFunc___int_int_ (l : List (Int)) (f : Nat) (cs : List ((Nat → T) × Nat)) (p : Int → Bool) (hl : l.length ≤ 9223372036854775807) (hf : ∀ x ∈ l, Fu Tryz.prog f ([.c (.t none (.v (.int .i64 (x))))] ++ pels cs) (.c (.t none (.v (.bool (p x)))))) : Pu Tryz.prog 210 [.c (.t none (.sl 1 encI (l))), .c (.fv f cs)] [] 0 (.c (.t none (.v (.int .i64 (idxI p l))))) := by
 refine pu_enter Tryz.func210 rfl (Nat.le_of_ble_eq_true rfl) fun w S => ?_
 refine tsr ?_
 refine r_op oA ?_
 refine r_end ?_
 refine t_seq ?_
 refine tsr ?_
 refine r_op oM ?_
 refine r_op (o_len rfl rfl rfl) ?_
 refine r_op oM ?_
 refine r_end ?_
 refine t_block ?_
 refine t_loopL (fun m => ⟨[(0, some (.c (.t none (.sl 1 encI (l))))), (1, some (.c (.fv f cs))), (7, some (.c (.t none (.v (.int .i64 (((l).length : Int))))))), (8, some (.c (.t none (.v (.int .i64 ((m : Int)))))))], [], 0⟩ : Nat → St) (fun m => m ≤ l.length ∧ ∀ j z, j < m → l[j]? = some z → p z = false) (fun m => l.length - m) 0 ⟨⟨rfl, ⟨rfl, ⟨rfl, ⟨rfl, trivial⟩⟩⟩⟩, trivial, rfl⟩ (by exact ⟨Nat.zero_le _, fun j z h => by omega⟩) ?_
 rintro m hI ih0
 try dsimp only at hI ih0
 obtain ⟨i1, i2⟩ := hI
 refine tsr ?_
 refine r_op oB ?_
 refine r_end ?_
 refine t_seq ?_
 refine t_cond rfl (fun h1 => ?_) (fun h1 => ?_)
 ·
  have h1' := of_decide_eq_true h1
  refine t_skip ?_
  refine t_seq ?_
  refine t_block ?_
  refine tsr ?_
  refine r_op oM ?_
  refine r_op oA ?_
  refine etr ?_
  refine r_op oM ?_
  refine r_op oM ?_
  refine r_op oM ?_
  obtain ⟨z2, hz3, b4⟩ := at_get (xs := l) (n := (m : Int)) (by omega) (by omega)
  refine r_op (o_index rfl (by kernel_rfl) rfl rfl b4 hz3) ?_
  refine r_op (o_load1 rfl (by kernel_rfl) rfl rfl) ?_
  refine r_op (o_callv 0 0 false (hf z2 (List.mem_of_getElem? (by assumption))).1 (hf z2 (List.mem_of_getElem? (by assumption))).2 rfl rfl (.c .fv) (.cons rfl (.c .t0) .nil) rfl rfl rfl) ?_
  refine r_end ?_
  refine t_cond rfl (fun h5 => ?_) (fun h5 => ?_)
  ·
   have h5' := h5
   refine tsr ?_
   refine r_op oM ?_
   refine r_op oA ?_
   refine r_end ?_
   refine t_ret Tryz.func210 (.tmp rfl .nil) rfl fun E S w u hI hd => ?_
   refine post_mk hI hd ?_ trivial rfl rfl rfl <;> clear hI hd <;> (try clear ih0)
   all_goals (rw [idx_hit i2 (by assumption) (by assumption)])
  ·
   have h5' := h5
   refine t_skip ?_
   refine t_endblock ?_
   refine t_region ?_
   refine r_op oB ?_
   refine r_op oM ?_
   refine r_end ?_
   refine t_le ?_ (ih0 (m + 1) (by (try dsimp only); omega) (by (try dsimp only); exact ⟨by omega, no_step i2 (by assumption) rfl (by assumption)⟩))
   exact ⟨⟨rfl, ⟨rfl, ⟨rfl, ⟨(eqI (wr64 (by omega) (by omega))), trivial⟩⟩⟩⟩, trivial, rfl⟩
 ·
  have h1' := of_decide_eq_false h1
  refine t_exit rfl ?_
  refine tsr ?_
  refine r_op oA ?_
  refine r_end ?_
  refine t_ret Tryz.func210 (.tmp rfl .nil) rfl fun E S w u hI hd => ?_
  refine post_mk hI hd ?_ trivial rfl rfl rfl <;> clear hI hd <;> (try clear ih0)
  all_goals (rw [idx_none i2 (by omega)])
set_option maxHeartbeats 1000000 in
set_option maxRecDepth 10000 in
theorem c_slices_ContainsFunc___int_int_ (l : List (Int)) (f : Nat) (cs : List ((Nat → T) × Nat)) (p : Int → Bool) (hl : l.length ≤ 9223372036854775807) (hf : ∀ x ∈ l, Fu Tryz.prog f ([.c (.t none (.v (.int .i64 (x))))] ++ pels cs) (.c (.t none (.v (.bool (p x)))))) : Pu Tryz.prog 178 [.c (.t none (.sl 1 encI (l))), .c (.fv f cs)] [] 0 (.c (.t none (.v (.bool (l.any p))))) := by
 refine pu_enter Tryz.func178 rfl (Nat.le_of_ble_eq_true rfl) fun w S => ?_
 refine tsr ?_
 refine r_op oA ?_
 refine etr ?_
 refine r_op oM ?_
 refine r_op oM ?_
 refine r_op (o_call 0 0 false (Go.Proofs.enters_of Tryz.func210 (by kernel_rfl) rfl) (c_slices_IndexFunc___int_int_ (l) (f) (cs) (p) (by omega) (hf)) rfl (.cons rfl (.c .t0) (.cons rfl (.c .fv) .nil)) rfl rfl rfl) ?_
 refine r_op oB ?_
 refine r_op oA ?_
 refine r_end ?_
 refine t_ret Tryz.func178 (.tmp rfl .nil) rfl fun E S w u hI hd => ?_
 refine post_mk hI hd ?_ trivial rfl rfl rfl <;> clear hI hd
 all_goals (exact scB idx_any)
set_option maxHeartbeats 1000000 in
set_option maxRecDepth 10000 in
theorem c_impl_IsValidAtom_1 (t : Int) : Pu Tryz.prog 209 [.c (.t none (.v (.int .i64 (t))))] [] 0 (.c (.t none (.v (.bool (!(termOk t)))))) := by
 refine pu_enter Tryz.func209 rfl (Nat.le_of_ble_eq_true rfl) fun w S => ?_
 refine tsr ?_
 refine r_op oA ?_
 refine etr ?_
 refine r_op oM ?_
 refine r_op (o_call 0 0 false (Go.Proofs.enters_of Tryz.func157 (by kernel_rfl) rfl) (c_impl_within (t) (-10) (4)) rfl (.cons rfl (.c .t0) (.cons rfl (.c .t0) (.cons rfl (.c .t0) .nil))) rfl rfl rfl) ?_
 refine r_op (o_not rfl rfl) ?_
 refine r_op oA ?_
 refine r_end ?_
 refine t_ret Tryz.func209 (.tmp rfl .nil) rfl fun E S w u hI hd => ?_
 refine post_mk hI hd ?_ trivial rfl rfl rfl <;> clear hI hd
 all_goals (rfl)
set_option maxHeartbeats 1000000 in
set_option maxRecDepth 10000 in
theorem c_impl_IsValidAtom (rs : List (List UInt8 × Int × Bool)) (r : Int) (ts : List Int) (hrs : rs.length ≤ 4611686018427387904) (hts : ts.length ≤ 4611686018427387904) : Pu Tryz.prog 175 [.c (.t none (.sl 3 (enS3 encS encI encB) (rs))), .agg [.t none (.v (.int .i64 (r))), .t none (.sl 1 encI (ts))]] [] 0 (.c (.t none (.v (.bool (atomOk rs r ts))))) := by
 refine pu_enter Tryz.func175 rfl (Nat.le_of_ble_eq_true rfl) fun w S => ?_
 refine tsr ?_
 refine r_op (o_box 0 rfl rfl rfl rfl) ?_
 refine r_op oA ?_
 refine r_end ?_
 refine t_seq ?_
 refine t_seq ?_
 refine t_draw (fun _ => true) (by kernel_rfl) ?_
 refine dT 0 rfl pM ?_
 refine dO 1 rfl (o_call 1 1 false (Go.Proofs.enters_of Tryz.func52 (by kernel_rfl) rfl) (c_impl_AreValidRelations (rs) (by omega)) rfl (.cons rfl (.c .t0) .nil) rfl rfl rfl) ?_
 refine dT 2 rfl (p_not rfl) ?_
 refine dT 3 rfl pM ?_
 refine dH 4 rfl (fun _ => pF 0) (fun g1 => ?_) (fun g1 => ?_)
 ·
  have g1' := (bnf g1)
  refine dH 5 rfl (fun _ => pL) (fun _ => ?_) (ncf g1)
  refine dH 6 rfl (fun _ => pM) (fun _ => ?_) (ncf g1)
  refine dH 7 rfl (fun _ => p_len rfl rfl) (fun _ => ?_) (ncf g1)
  refine dH 8 rfl (fun _ => pB) (fun _ => ?_) (ncf g1)
  refine d_onlyG 9 rfl rfl (by kernel_rfl) rfl rfl rfl (fun _ => (o_call 1 1 false (Go.Proofs.enters_of Tryz.func157 (by kernel_rfl) rfl) (c_impl_within (r) (0) (IntKind.i64.wrap (((rs).length : Int) - 1))) rfl (.cons rfl (.c .t0) (.cons rfl (.c .t0) (.cons rfl (.c .t0) .nil))) rfl rfl rfl)) (fun _ => ?_) (ncf g1)
  refine dH 10 rfl (fun _ => p_not rfl) (fun _ => ?_) (ncf g1)
  refine dT 11 rfl (p_pickF rfl g1 rfl) ?_
  refine dT 12 rfl pM ?_
  refine dH 13 rfl (fun _ => pF 1) (fun g2 => ?_) (fun g2 => ?_)
  ·
   have g2' := of_decide_eq_true (bnf g2)
   refine dH 14 rfl (fun _ => pL) (fun _ => ?_) (ncf g2)
   refine dH 15 rfl (fun _ => p_len rfl rfl) (fun _ => ?_) (ncf g2)
   refine dH 16 rfl (fun _ => pM) (fun _ => ?_) (ncf g2)
   refine dH 17 rfl (fun _ => pF 0) (fun _ => ?_) (ncf g2)
   refine dH 18 rfl (fun _ => pL) (fun _ => ?_) (ncf g2)
   obtain ⟨z3, hz4, b5⟩ := at_get (xs := rs) (n := r) (by omega) (by (simp only [IntKind.wrap_i64] at *; omega))
   refine dH 19 rfl (fun _ => p_index (by kernel_rfl) rfl rfl b5 hz4) (fun _ => ?_) (ncf g2)
   refine dH 20 rfl (fun _ => p_field (off := 1) (by kernel_rfl) rfl) (fun _ => ?_) (ncf g2)
   refine dH 21 rfl (fun _ => p_load1 (by kernel_rfl) rfl rfl) (fun _ => ?_) (ncf g2)
   refine dH 22 rfl (fun _ => pB) (fun _ => ?_) (ncf g2)
   refine dT 23 rfl (p_pickF rfl g2 rfl) ?_
   refine d_end (by kernel_rfl) ?_
   refine t_cond rfl (fun h6 => ?_) (fun h6 => ?_)
   ·
    have h6' := of_decide_eq_true h6
    refine tsr ?_
    refine r_op oA ?_
    refine r_end ?_
    refine t_ret Tryz.func175 (.tmp rfl .nil) rfl fun E S w u hI hd => ?_
    refine post_mk hI hd ?_ trivial rfl rfl rfl <;> clear hI hd
    all_goals (refine scB ?_; (rw [atom_no3 (by assumption) (by assumption)]; done))
   ·
    have h6' := of_decide_eq_false h6
    refine t_skip ?_
    refine tsr ?_
    refine r_op (oF 1) ?_
    refine r_op oL ?_
    refine r_op (o_call 1 1 false (Go.Proofs.enters_of Tryz.func178 (by kernel_rfl) rfl) (c_slices_ContainsFunc___int_int_ (ts) (209) ([]) (fun (x0 : Int) => !(termOk (x0))) (by omega) (fun x0 mx0 => ⟨Go.Proofs.enters_of Tryz.func209 (by kernel_rfl) rfl, c_impl_IsValidAtom_1 (x0)⟩)) rfl (.cons rfl (.c .t0) (.cons rfl (.c (.clo .nil)) .nil)) rfl rfl rfl) ?_
    refine r_op (o_not rfl rfl) ?_
    refine r_op oA ?_
    refine r_end ?_
    refine t_ret Tryz.func175 (.tmp rfl .nil) rfl fun E S w u hI hd => ?_
    refine post_mk hI hd ?_ trivial rfl rfl rfl <;> clear hI hd
    all_goals (refine scB ?_; (rw [atom_yes (by assumption) (by simp only [IntKind.wrap_i64] at *; omega) (by assumption) (by omega)]; done))
  ·
   have g2' := of_decide_eq_false (bnt g2)
   refine dG 14 (nc g2) (fun _ => ?_)
   refine dG 15 (nc g2) (fun _ => ?_)
   refine dG 16 (nc g2) (fun _ => ?_)
   refine dG 17 (nc g2) (fun _ => ?_)
   refine dG 18 (nc g2) (fun _ => ?_)
   refine dG 19 (nc g2) (fun _ => ?_)
   refine dG 20 (nc g2) (fun _ => ?_)
   refine dG 21 (nc g2) (fun _ => ?_)
   refine dG 22 (nc g2) (fun _ => ?_)
   refine dT 23 rfl (p_pickT rfl g2 rfl) ?_
   refine d_end (by kernel_rfl) ?_
   refine t_cond rfl (fun _ => ?_) (nc rfl)
   refine tsr ?_
   refine r_op oA ?_
   refine r_end ?_
   refine t_ret Tryz.func175 (.tmp rfl .nil) rfl fun E S w u hI hd => ?_
   refine post_mk hI hd ?_ trivial rfl rfl rfl <;> clear hI hd
   all_goals (refine scB ?_; (rw [atom_no2 (by simp only [IntKind.wrap_i64] at *; omega)]; done))
 ·
  have g1' := (bnt g1)
  refine dG 5 (nc g1) (fun _ => ?_)
  refine dG 6 (nc g1) (fun _ => ?_)
  refine dG 7 (nc g1) (fun _ => ?_)
  refine dG 8 (nc g1) (fun _ => ?_)
  refine dG 9 (nc g1) (fun _ => ?_)
  refine dG 10 (nc g1) (fun _ => ?_)
  refine dT 11 rfl (p_pickT rfl g1 rfl) ?_
  refine dT 12 rfl pM ?_
  refine dG 13 (nc rfl) (fun _ => ?_)
  refine dG 14 (nc rfl) (fun _ => ?_)
  refine dG 15 (nc rfl) (fun _ => ?_)
  refine dG 16 (nc rfl) (fun _ => ?_)
  refine dG 17 (nc rfl) (fun _ => ?_)
  refine dG 18 (nc rfl) (fun _ => ?_)
  refine dG 19 (nc rfl) (fun _ => ?_)
  refine dG 20 (nc rfl) (fun _ => ?_)
  refine dG 21 (nc rfl) (fun _ => ?_)
  refine dG 22 (nc rfl) (fun _ => ?_)
  refine dT 23 rfl (p_pickT rfl rfl rfl) ?_
  refine d_end (by kernel_rfl) ?_
  refine t_cond rfl (fun _ => ?_) (nc rfl)
  refine tsr ?_
  refine r_op oA ?_
  refine r_end ?_
  refine t_ret Tryz.func175 (.tmp rfl .nil) rfl fun E S w u hI hd => ?_
  refine post_mk hI hd ?_ trivial rfl rfl rfl <;> clear hI hd
  all_goals (refine scB ?_; (rw [atom_no1 (by assumption)]; done))
set_option maxHeartbeats 1000000 in
set_option maxRecDepth 10000 in
theorem c_impl_areAtoms_1 (r : Int) (ts : List Int) (rs : Rels) (hrs : rs.length ≤ 4611686018427387904) (hts : ts.length ≤ 4611686018427387904) : Pu Tryz.prog 174 [.agg [.t none (.v (.int .i64 (r))), .t none (.sl 1 encI (ts))], .c (.pel none ((enSl 3 (enS3 encS encI encB)) (rs)) 1)] [] 0 (.c (.t none (.v (.bool (badA rs (r, ts)))))) := by
 refine pu_enter Tryz.func174 rfl (Nat.le_of_ble_eq_true rfl) fun w S => ?_
 refine tsr ?_
 refine r_op (o_box 0 rfl rfl rfl rfl) ?_
 refine r_op oA ?_
 refine etr ?_
 refine r_op (o_load1 rfl (by kernel_rfl) rfl rfl) ?_
 refine r_op (oC 2) ?_
 refine r_op (o_call 1 1 false (Go.Proofs.enters_of Tryz.func175 (by kernel_rfl) rfl) (c_impl_IsValidAtom (rs) (r) (ts) (by omega) (by omega)) rfl (.cons rfl (.c .t0) (.cons rfl (.agg (.cons .t0 (.cons .t0 .nil))) .nil)) rfl rfl rfl) ?_
 refine r_op (o_not rfl rfl) ?_
 refine r_op oA ?_
 refine r_end ?_
 refine t_ret Tryz.func174 (.tmp rfl .nil) rfl fun E S w u hI hd => ?_
 refine post_mk hI hd ?_ trivial rfl rfl rfl <;> clear hI hd
 all_goals (rfl)
set_option maxHeartbeats 1000000 in
set_option maxRecDepth 10000 in
theorem c_slices_IndexFunc___impl_Atom_impl_Atom_ (l : List (Int × (List (Int)))) (f : Nat) (cs : List ((Nat → T) × Nat)) (p : Int × (List (Int)) → Bool) (hl : l.length ≤ 9223372036854775807) (hf : ∀ x ∈ l, Fu Tryz.prog f ([.agg [.t none (.v (.int .i64 (x.1))), .t none (.sl 1 encI (x.2))]] ++ pels cs) (.c (.t none (.v (.bool (p x)))))) : Pu Tryz.prog 177 [.c (.t none (.sl 2 (enS2 encI (enSl 1 encI)) (l))), .c (.fv f cs)] [] 0 (.c (.t none (.v (.int .i64 (idxI p l))))) := by
 refine pu_enter Tryz.func177 rfl (Nat.le_of_ble_eq_true rfl) fun w S => ?_
 refine tsr ?_
 refine r_op oA ?_
 refine r_end ?_
 refine t_seq ?_
 refine tsr ?_
 refine r_op oM ?_
 refine r_op (o_len rfl rfl rfl) ?_
 refine r_op oM ?_
 refine r_end ?_
 refine t_block ?_
 refine t_loopL (fun m => ⟨[(0, some (.c (.t none (.sl 2 (enS2 encI (enSl 1 encI)) (l))))), (1, some (.c (.fv f cs))), (7, some (.c (.t none (.v (.int .i64 (((l).length : Int))))))), (8, some (.c (.t none (.v (.int .i64 ((m : Int)))))))], [], 0⟩ : Nat → St) (fun m => m ≤ l.length ∧ ∀ j z, j < m → l[j]? = some z → p z = false) (fun m => l.length - m) 0 ⟨⟨rfl, ⟨rfl, ⟨rfl, ⟨rfl, trivial⟩⟩⟩⟩, trivial, rfl⟩ (by exact ⟨Nat.zero_le _, fun j z h => by omega⟩) ?_
 rintro m hI ih0
 try dsimp only at hI ih0
 obtain ⟨i1, i2⟩ := hI
 refine tsr ?_
 refine r_op oB ?_
 refine r_end ?_
 refine t_seq ?_
 refine t_cond rfl (fun h1 => ?_) (fun h1 => ?_)
 ·
  have h1' := of_decide_eq_true h1
  refine t_skip ?_
  refine t_seq ?_
  refine t_block ?_
  refine tsr ?_
  refine r_op oM ?_
  refine r_op oA ?_
  refine etr ?_
  refine r_op oM ?_
  refine r_op oM ?_
  refine r_op oM ?_
  obtain ⟨z2, hz3, b4⟩ := at_get (xs := l) (n := (m : Int)) (by omega) (by omega)
  refine r_op (o_index rfl (by kernel_rfl) rfl rfl b4 hz3) ?_
  refine r_op (o_loadA rfl (n := 2) (by kernel_rfl) (by kernel_rfl) rfl rfl) ?_
  refine r_op (o_callv 0 0 false (hf z2 (List.mem_of_getElem? (by assumption))).1 (hf z2 (List.mem_of_getElem? (by assumption))).2 rfl rfl (.c .fv) (.cons rfl (.agg (.cons .t0 (.cons .t0 .nil))) .nil) rfl rfl rfl) ?_
  refine r_end ?_
  refine t_cond rfl (fun h5 => ?_) (fun h5 => ?_)
  ·
   have h5' := h5
   refine tsr ?_
   refine r_op oM ?_
   refine r_op oA ?_
   refine r_end ?_
   refine t_ret Tryz.func177 (.tmp rfl .nil) rfl fun E S w u hI hd => ?_
   refine post_mk hI hd ?_ trivial rfl rfl rfl <;> clear hI hd <;> (try clear ih0)
   all_goals (rw [idx_hit i2 (by assumption) (by assumption)])
  ·
   have h5' := h5
   refine t_skip ?_
   refine t_endblock ?_
   refine t_region ?_
   refine r_op oB ?_
   refine r_op oM ?_
   refine r_end ?_
   refine t_le ?_ (ih0 (m + 1) (by (try dsimp only); omega) (by (try dsimp only); exact ⟨by omega, no_step i2 (by assumption) rfl (by assumption)⟩))
   exact ⟨⟨rfl, ⟨rfl, ⟨rfl, ⟨(eqI (wr64 (by omega) (by omega))), trivial⟩⟩⟩⟩, trivial, rfl⟩
 ·
  have h1' := of_decide_eq_false h1
  refine t_exit rfl ?_
  refine tsr ?_
  refine r_op oA ?_
  refine r_end ?_
  refine t_ret Tryz.func177 (.tmp rfl .nil) rfl fun E S w u hI hd => ?_
  refine post_mk hI hd ?_ trivial rfl rfl rfl <;> clear hI hd <;> (try clear ih0)
  all_goals (rw [idx_none i2 (by omega)])
set_option maxHeartbeats 1000000 in
set_option maxRecDepth 10000 in
theorem c_slices_ContainsFunc___impl_Atom_impl_Atom_ (l : List (Int × (List (Int)))) (f : Nat) (cs : List ((Nat → T) × Nat)) (p : Int × (List (Int)) → Bool) (hl : l.length ≤ 9223372036854775807) (hf : ∀ x ∈ l, Fu Tryz.prog f ([.agg [.t none (.v (.int .i64 (x.1))), .t none (.sl 1 encI (x.2))]] ++ pels cs) (.c (.t none (.v (.bool (p x)))))) : Pu Tryz.prog 125 [.c (.t none (.sl 2 (enS2 encI (enSl 1 encI)) (l))), .c (.fv f cs)] [] 0 (.c (.t none (.v (.bool (l.any p))))) := by
 refine pu_enter Tryz.func125 rfl (Nat.le_of_ble_eq_true rfl) fun w S => ?_
 refine tsr ?_
 refine r_op oA ?_
 refine etr ?_
 refine r_op oM ?_
 refine r_op oM ?_
 refine r_op (o_call 0 0 false (Go.Proofs.enters_of Tryz.func177 (by kernel_rfl) rfl) (c_slices_IndexFunc___impl_Atom_impl_Atom_ (l) (f) (cs) (p) (by omega) (hf)) rfl (.cons rfl (.c .t0) (.cons rfl (.c .fv) .nil)) rfl rfl rfl) ?_
 refine r_op oB ?_
 refine r_op oA ?_
 refine r_end ?_
 refine t_ret Tryz.func125 (.tmp rfl .nil) rfl fun E S w u hI hd => ?_
 refine post_mk hI hd ?_ trivial rfl rfl rfl <;> clear hI hd
 all_goals (exact scB idx_any)
set_option maxHeartbeats 1000000 in
set_option maxRecDepth 10000 in
theorem c_impl_areAtoms (rs : Rels) (l : Atoms) (k : Int) (hrs : rs.length ≤ 4611686018427387904) (hs : szS (fun (x : Int × (List (Int))) => (x.2).length) l ≤ 1048600) : Pu Tryz.prog 122 [.c (.t none (.sl 3 (enS3 encS encI encB) (rs))), .c (.t none (.sl 2 (enS2 encI (enSl 1 encI)) (l))), .c (.t none (.v (.int .i64 (k))))] [] 0 (.c (.t none (.v (.bool (atomsOk rs l k))))) := by
 refine pu_enter Tryz.func122 rfl (Nat.le_of_ble_eq_true rfl) fun w S => ?_
 have gl := sz_len (f := (fun (x : Int × (List (Int))) => (x.2).length)) (l := l)
 refine tsr ?_
 refine r_op (o_box 0 rfl rfl rfl rfl) ?_
 refine r_op oA ?_
 refine etr ?_
 refine r_op oM ?_
 refine r_op (o_len rfl rfl rfl) ?_
 refine r_op oM ?_
 refine r_op (o_call 1 1 false (Go.Proofs.enters_of Tryz.func157 (by kernel_rfl) rfl) (c_impl_within (((l).length : Int)) (1) (k)) rfl (.cons rfl (.c .t0) (.cons rfl (.c .t0) (.cons rfl (.c .t0) .nil))) rfl rfl rfl) ?_
 refine r_op oM ?_
 refine r_guard rfl rfl rfl (fun g1 => ?_) (fun g1 => ?_)
 ·
  have g1' := of_decide_eq_true g1
  refine r_op oM ?_
  refine r_guard rfl rfl rfl (fun _ => ?_) (nc g1)
  refine r_op (o_makeFunc rfl (.cons rfl .nil)) ?_
  refine r_guard rfl rfl rfl (fun _ => ?_) (nc g1)
  refine r_op (o_call 1 1 false (Go.Proofs.enters_of Tryz.func125 (by kernel_rfl) rfl) (c_slices_ContainsFunc___impl_Atom_impl_Atom_ (l) (174) ([((enSl 3 (enS3 encS encI encB)) (rs), 1)]) (fun (x0 : Int × (List (Int))) => badA (rs) ((x0.1), (x0.2))) (by omega) (fun x0 mx0 => ⟨Go.Proofs.enters_of Tryz.func174 (by kernel_rfl) rfl, c_impl_areAtoms_1 (x0.1) (x0.2) (rs) (by omega) (by (have e1 := sz_mem (f := (fun (x : Int × (List (Int))) => (x.2).length)) (l := l) (by assumption); (try dsimp only at e1); omega))⟩)) rfl (.cons rfl (.c .t0) (.cons rfl (.c (.clo (.cons rfl rfl rfl (.cons .t .nil) .nil))) .nil)) rfl rfl rfl) ?_
  refine r_guard rfl rfl rfl (fun _ => ?_) (nc g1)
  refine r_op (o_not rfl rfl) ?_
  refine r_op (o_pickT rfl rfl g1 rfl) ?_
  refine r_op oA ?_
  refine r_end ?_
  refine t_ret Tryz.func122 (.tmp rfl .nil) rfl fun E S w u hI hd => ?_
  refine post_mk hI hd ?_ trivial rfl rfl rfl <;> clear hI hd
  all_goals (refine scB ?_; unfold atomsOk; (rw [decide_eq_true (by assumption)]; rfl))
 ·
  have g1' := of_decide_eq_false g1
  refine r_guard rfl rfl rfl (ncf g1) (fun _ => ?_)
  refine r_guard rfl rfl rfl (ncf g1) (fun _ => ?_)
  refine r_guard rfl rfl rfl (ncf g1) (fun _ => ?_)
  refine r_op (o_pickF rfl rfl g1 rfl) ?_
  refine r_op oA ?_
  refine r_end ?_
  refine t_ret Tryz.func122 (.tmp rfl .nil) rfl fun E S w u hI hd => ?_
  refine post_mk hI hd ?_ trivial rfl rfl rfl <;> clear hI hd
  all_goals (refine scB ?_; unfold atomsOk; (rw [decide_eq_false (by assumption)]; rfl))
def Tryz.sortL_ren : Go.Shelf.Ren := ⟨fun | 5 => 161 | 8 => 191 | 7 => 200 | 19 => 228 | 20 => 229 | 10 => 234 | 11 => 235 | 12 => 236 | 13 => 237 | 14 => 238 | 15 => 239 | 16 => 240 | 17 => 241 | 18 => 242 | 30 => 260 | 31 => 252 | 32 => 253 | 33 => 261 | 34 => 262 | 35 => 211 | 40 => 269 | n => n, fun | 23 => 31 | 25 => 3 | 3 => 3 | 32 => 170 | 22 => 31 | 0 => 0 | 44 => 216 | 46 => 218 | 4 => 4 | 36 => 210 | 35 => 209 | 41 => 107 | 5 => 5 | 9 => 9 | 53 => 233 | 57 => 237 | 63 => 253 | 64 => 254 | n => n, fun | n => n⟩
theorem Tryz.sortL : Go.Proofs.SlLaysM.n5 Tryz.prog Tryz.sortL_ren := {
 mixed := by kernel_rfl
 f5 := ⟨Tryz.f161.name, by decide, Tryz.func161.trans (congrArg some (by kernel_rfl))⟩
 f7 := ⟨Tryz.f200.name, by decide, Tryz.func200.trans (congrArg some (by kernel_rfl))⟩
 f8 := Tryz.func191.trans (congrArg some (by kernel_rfl))
 f10 := ⟨Tryz.f234.name, by decide, Tryz.func234.trans (congrArg some (by kernel_rfl))⟩
 f11 := ⟨Tryz.f235.name, by decide, Tryz.func235.trans (congrArg some (by kernel_rfl))⟩
 f12 := ⟨Tryz.f236.name, by decide, Tryz.func236.trans (congrArg some (by kernel_rfl))⟩
 f13 := ⟨Tryz.f237.name, by decide, Tryz.func237.trans (congrArg some (by kernel_rfl))⟩
 f14 := ⟨Tryz.f238.name, by decide, Tryz.func238.trans (congrArg some (by kernel_rfl))⟩
 f15 := ⟨Tryz.f239.name, by decide, Tryz.func239.trans (congrArg some (by kernel_rfl))⟩
 f16 := ⟨Tryz.f240.name, by decide, Tryz.func240.trans (congrArg some (by kernel_rfl))⟩
 f17 := ⟨Tryz.f241.name, by decide, Tryz.func241.trans (congrArg some (by kernel_rfl))⟩
 f18 := ⟨Tryz.f242.name, by decide, Tryz.func242.trans (congrArg some (by kernel_rfl))⟩
 f19 := Tryz.func228.trans (congrArg some (by kernel_rfl))
 f20 := Tryz.func229.trans (congrArg some (by kernel_rfl))
 f30 := ⟨Tryz.f260.name, by decide, Tryz.func260.trans (congrArg some (by kernel_rfl))⟩
 f31 := Tryz.func252.trans (congrArg some (by kernel_rfl))
 f32 := Tryz.func253.trans (congrArg some (by kernel_rfl))
 f33 := ⟨Tryz.f261.name, by decide, Tryz.func261.trans (congrArg some (by kernel_rfl))⟩
 f34 := ⟨Tryz.f262.name, by decide, Tryz.func262.trans (congrArg some (by kernel_rfl))⟩
 f35 := ⟨Tryz.f211.name, by decide, Tryz.func211.trans (congrArg some (by kernel_rfl))⟩
 f40 := ⟨Tryz.f269.name, by decide, Tryz.func269.trans (congrArg some (by kernel_rfl))⟩
 t0 := Tryz.underlying0
 a0 := Tryz.isAgg0
 z0 := Tryz.sizeOf0
 v0 := Tryz.zeroValue0
 t3 := Tryz.underlying3
 a3 := Tryz.isAgg3
 z3 := Tryz.sizeOf3
 v3 := Tryz.zeroValue3
 t4 := Tryz.underlying4
 a4 := Tryz.isAgg4
 z4 := Tryz.sizeOf4
 v4 := Tryz.zeroValue4
 t5 := Tryz.underlying5
 a5 := Tryz.isAgg5
 z5 := Tryz.sizeOf5
 v5 := Tryz.zeroValue5
 t9 := Tryz.underlying9
 a9 := Tryz.isAgg9
 z9 := Tryz.sizeOf9
 v9 := Tryz.zeroValue9
 t22 := Tryz.underlying31
 a22 := Tryz.isAgg31
 z22 := Tryz.sizeOf31
 v22 := Tryz.zeroValue31
 t23 := Tryz.underlying31
 a23 := Tryz.isAgg31
 z23 := Tryz.sizeOf31
 v23 := Tryz.zeroValue31
 t25 := Tryz.underlying3
 a25 := Tryz.isAgg3
 z25 := Tryz.sizeOf3
 v25 := Tryz.zeroValue3
 t32 := Tryz.underlying170
 a32 := Tryz.isAgg170
 z32 := Tryz.sizeOf170
 v32 := Tryz.zeroValue170
 t35 := Tryz.underlying209
 a35 := Tryz.isAgg209
 z35 := Tryz.sizeOf209
 v35 := Tryz.zeroValue209
 t36 := Tryz.underlying210
 a36 := Tryz.isAgg210
 z36 := Tryz.sizeOf210
 v36 := Tryz.zeroValue210
 t41 := Tryz.underlying107
 a41 := Tryz.isAgg107
 z41 := Tryz.sizeOf107
 v41 := Tryz.zeroValue107
 t44 := Tryz.underlying216
 a44 := Tryz.isAgg216
 z44 := Tryz.sizeOf216
 v44 := Tryz.zeroValue216
 t46 := Tryz.underlying218
 a46 := Tryz.isAgg218
 z46 := Tryz.sizeOf218
 v46 := Tryz.zeroValue218
 t53 := Tryz.underlying233
 a53 := Tryz.isAgg233
 z53 := Tryz.sizeOf233
 v53 := Tryz.zeroValue233
 t57 := Tryz.underlying237
 a57 := Tryz.isAgg237
 z57 := Tryz.sizeOf237
 v57 := Tryz.zeroValue237
 t63 := Tryz.underlying253
 a63 := Tryz.isAgg253
 z63 := Tryz.sizeOf253
 v63 := Tryz.zeroValue253
 t64 := Tryz.underlying254
 a64 := Tryz.isAgg254
 z64 := Tryz.sizeOf254
 v64 := Tryz.zeroValue254 }
set_option maxHeartbeats 1000000 in
set_option maxRecDepth 10000 in
theorem c_slices_Sort___int_int_ (U : Nat → Value) (e0 : Nat) (l : List Int) (hl : l.length ≤ 1099511627776) : Mu Tryz.prog 161 [.c (.own 0)] [(0, some (.row (some (U 0)) e0 true 1 encI (l)))] 1 [(0, some (.row (some (U 0)) e0 true 1 encI (sortI l)))] 1 (.tup []) := by
 exact sort_mu Tryz.sortL U e0 l (by omega)
set_option maxHeartbeats 1000000 in
set_option maxRecDepth 10000 in
theorem c_slices_Compact___int_int_ (U : Nat → Value) (e0 : Nat) (l : List Int) (hl : l.length ≤ 4611686018427387904) : Mu Tryz.prog 162 [.c (.own 0)] [(0, some (.row (some (U 0)) e0 true 1 encI (l)))] 1 [(0, some (.row none e0 true 1 encI (compactI l)))] 1 (.c (.own 0)) := by
 refine mu_enter Tryz.func162 rfl (Nat.le_of_ble_eq_true rfl) fun w S M => ?_
 refine tsr ?_
 refine r_op oA ?_
 refine r_end ?_
 refine t_seq ?_
 refine tsr ?_
 refine r_op oM ?_
 refine r_op (o_leno rfl rfl rfl rfl) ?_
 refine r_op oB ?_
 refine r_end ?_
 refine t_cond rfl (fun h1 => ?_) (fun h1 => ?_)
 ·
  have h1' := of_decide_eq_true h1
  refine tsr ?_
  refine r_op oM ?_
  refine r_op oA ?_
  refine r_end ?_
  refine gt_unpin 0 rfl ?_
  refine t_ret Tryz.func162 (.tmp rfl .nil) rfl fun E S w u hI hd => ?_
  refine postM_mk hI hd ?_ ⟨eqR ?_, trivial⟩ rfl rfl <;> clear hI hd <;> (try clear ih0) <;> (try clear ih1)
  all_goals first | rfl | ((match l with | [] => rfl | [_] => rfl | _ :: _ :: _ => (exfalso; simp at *; omega)))
 ·
  have h1' := of_decide_eq_false h1
  refine t_skip ?_
  refine t_seq ?_
  refine tsr ?_
  refine r_op oA ?_
  refine r_end ?_
  refine t_block ?_
  refine t_loopL (fun m => ⟨[(0, some (.c (.own 0))), (3, some (.c (.t none (.v (.int .i64 ((m : Int)))))))], [(0, some (.row (some (U 0)) e0 true 1 encI (l)))], 1⟩ : Nat → St) (fun m => 1 ≤ m ∧ m ≤ l.length ∧ compactI (l.take m) = l.take m) (fun m => l.length - m) 1 ⟨⟨rfl, ⟨(eqI rfl), trivial⟩⟩, ⟨rfl, trivial⟩, rfl⟩ (by exact ⟨Nat.le_refl _, by omega, by (rcases l with _ | ⟨x, l⟩ <;> simp [compactI])⟩) ?_
  rintro m hI ih0
  try dsimp only at hI ih0
  obtain ⟨i1, i2, i3⟩ := hI
  refine t_seq ?_
  refine tsr ?_
  refine r_op oM ?_
  refine r_op oM ?_
  refine r_op (o_leno rfl rfl rfl rfl) ?_
  refine r_op oB ?_
  refine r_end ?_
  refine t_cond rfl (fun h2 => ?_) (fun h2 => ?_)
  ·
   have h2' := of_decide_eq_true h2
   refine t_skip ?_
   refine t_seq ?_
   refine t_block ?_
   refine t_seq ?_
   refine t_draw (fun _ => true) (by kernel_rfl) ?_
   refine dT 0 rfl pM ?_
   refine dT 1 rfl pM ?_
   obtain ⟨z3, hz4, b5⟩ := at_get (xs := l) (n := (m : Int)) (by omega) (by omega)
   refine dT 2 rfl (p_indexo (by kernel_rfl) rfl rfl rfl b5 (at_lt b5 hz4)) ?_
   refine dT 3 rfl (p_load1o (by kernel_rfl) rfl rfl rfl hz4) ?_
   refine dT 4 rfl pM ?_
   refine dT 5 rfl pM ?_
   refine dT 6 rfl pB ?_
   obtain ⟨z6, hz7, b8⟩ := at_get (xs := l) (n := IntKind.i64.wrap ((m : Int) - 1)) (by (simp only [IntKind.wrap_i64]; omega)) (by (simp only [IntKind.wrap_i64]; omega))
   refine dT 7 rfl (p_indexo (by kernel_rfl) rfl rfl rfl b8 (at_lt b8 hz7)) ?_
   refine dT 8 rfl (p_load1o (by kernel_rfl) rfl rfl rfl hz7) ?_
   refine dT 9 rfl pB ?_
   refine d_end (by kernel_rfl) ?_
   refine t_cond rfl (fun h9 => ?_) (fun h9 => ?_)
   ·
    have h9' := of_decide_eq_true h9
    refine tsr ?_
    refine r_op oM ?_
    refine r_op oM ?_
    refine r_op (o_subvl rfl (by kernel_rfl) rfl rfl rfl (by omega) (by omega)) ?_
    refine r_op oA ?_
    refine r_end ?_
    refine t_seq ?_
    refine tsr ?_
    refine r_op oA ?_
    refine r_end ?_
    refine t_block ?_
    refine t_loopL (fun (j, k, q) => ⟨[(0, some (.c (.own 0))), (3, some (.c (.t none (.v (.int .i64 ((k : Int))))))), (4, some (.c (.vw 0 (((m : Int)).toNat) (((l).length - ((m : Int)).toNat)) 1))), (5, some (.c (.t none (.v (.int .i64 ((j : Int)))))))], [(0, some (.row (some (U 0)) e0 true 1 encI (q)))], 1⟩ : Nat × Nat × List Int → St) (fun (j, k, q) => 1 ≤ j ∧ cmpK l q k (m + j)) (fun (j, k, q) => l.length - j) (1, m, l) ⟨⟨rfl, ⟨rfl, ⟨rfl, ⟨(eqI rfl), trivial⟩⟩⟩⟩, ⟨rfl, trivial⟩, rfl⟩ (by exact ⟨Nat.le_refl _, cmpK_start i3 (by assumption) (by assumption) (by simp only [IntKind.wrap_i64]; omega) i1 (by omega)⟩) ?_
    rintro ⟨j, k, q⟩ hI ih1
    try dsimp only at hI ih1
    obtain ⟨j0, j1⟩ := hI; have j2 := j1.1; have j3 := j1.2.1; have j4 := j1.2.2.1
    refine t_seq ?_
    refine tsr ?_
    refine r_op oM ?_
    refine r_op oM ?_
    refine r_op (o_lenv rfl rfl rfl) ?_
    refine r_op oB ?_
    refine r_end ?_
    refine t_cond rfl (fun h10 => ?_) (fun h10 => ?_)
    ·
     have h10' := of_decide_eq_true h10
     refine t_skip ?_
     refine t_seq ?_
     refine t_block ?_
     refine t_seq ?_
     refine t_draw (fun _ => true) (by kernel_rfl) ?_
     refine dT 0 rfl pM ?_
     refine dT 1 rfl pM ?_
     obtain ⟨z11, hz12⟩ := vw_get (xs := q) (n := (((m : Int)).toNat + ((j : Int)).toNat)) (by omega)
     refine dT 2 rfl (p_indexv (by kernel_rfl) rfl rfl (by omega) (by omega)) ?_
     refine dT 3 rfl (p_load1o (by kernel_rfl) rfl rfl rfl hz12) ?_
     refine dT 4 rfl pM ?_
     refine dT 5 rfl pM ?_
     refine dT 6 rfl pB ?_
     obtain ⟨z14, hz15⟩ := vw_get (xs := q) (n := (((m : Int)).toNat + (IntKind.i64.wrap ((j : Int) - 1)).toNat)) (by (simp only [IntKind.wrap_i64]; omega))
     refine dT 7 rfl (p_indexv (by kernel_rfl) rfl rfl (by (simp only [IntKind.wrap_i64]; omega)) (by (simp only [IntKind.wrap_i64]; omega))) ?_
     refine dT 8 rfl (p_load1o (by kernel_rfl) rfl rfl rfl hz15) ?_
     refine dT 9 rfl pB ?_
     refine d_end (by kernel_rfl) ?_
     refine t_cond rfl (fun h17 => ?_) (fun h17 => ?_)
     ·
      have h17' := of_decide_eq_true h17
      refine tsr ?_
      refine r_op oM ?_
      refine r_op oM ?_
      refine r_op oM ?_
      refine r_op oM ?_
      refine r_op (o_indexv rfl (by kernel_rfl) rfl rfl (by omega) (by omega)) ?_
      refine r_op (o_load1o rfl (by kernel_rfl) rfl rfl rfl hz12) ?_
      obtain ⟨z18, hz19, b20⟩ := at_get (xs := q) (n := (k : Int)) (by omega) (by omega)
      refine r_op (o_indexo rfl (by kernel_rfl) rfl rfl rfl b20 (at_lt b20 hz19)) ?_
      refine r_op (o_storeo (z11) (n := 1) (by kernel_rfl) rfl rfl hz19 rfl rfl rfl rfl (.cons .sc .nil) rfl (fun j h1 h2 => by (simp at h1 h2; omega))) ?_
      refine rtr ?_
      refine r_op oM ?_
      refine r_op oB ?_
      refine r_op oA ?_
      refine r_end ?_
      refine t_endblock ?_
      refine t_region ?_
      refine r_op oM ?_
      refine r_op oB ?_
      refine r_op oA ?_
      refine r_end ?_
      refine t_le ?_ (ih1 (j + 1, k + 1, (q).set ((k : Int)).toNat (z11)) (by (try dsimp only); omega) (by (try dsimp only); exact ⟨by omega, cmpK_more (j := m + j) (n := ((m : Int)).toNat + (IntKind.i64.wrap ((j : Int) - 1)).toNat) j1 (by assumption) (by assumption) (by simp only [IntKind.wrap_i64]; omega) (by omega)⟩))
      exact ⟨⟨rfl, ⟨(eqI (wr64 (by omega) (by omega))), ⟨rfl, ⟨(eqI (wr64 (by omega) (by omega))), trivial⟩⟩⟩⟩, ⟨rfl, trivial⟩, rfl⟩
     ·
      have h17' := of_decide_eq_false h17
      refine t_skip ?_
      refine t_endblock ?_
      refine t_region ?_
      refine r_op oM ?_
      refine r_op oB ?_
      refine r_op oA ?_
      refine r_end ?_
      refine t_le ?_ (ih1 (j + 1, k, q) (by (try dsimp only); omega) (by (try dsimp only); exact ⟨by omega, cmpK_same (j := m + j) (n := ((m : Int)).toNat + (IntKind.i64.wrap ((j : Int) - 1)).toNat) j1 (by assumption) (by assumption) (by simp only [IntKind.wrap_i64]; omega) (by omega)⟩))
      exact ⟨⟨rfl, ⟨rfl, ⟨rfl, ⟨(eqI (wr64 (by omega) (by omega))), trivial⟩⟩⟩⟩, ⟨rfl, trivial⟩, rfl⟩
    ·
     have h10' := of_decide_eq_false h10
     refine t_exit rfl ?_
     refine tsr ?_
     refine r_op oM ?_
     refine r_op oM ?_
     refine r_op (o_subvl rfl (by kernel_rfl) rfl rfl rfl (by omega) (by omega)) ?_
     refine r_op (o_clearv (0) rfl rfl Tryz.underlying31 (by kernel_rfl) rfl (.v rfl) (by omega) (by omega)) ?_
     refine etr ?_
     refine r_op oM ?_
     refine r_op oM ?_
     refine r_op (o_subvh rfl (by kernel_rfl) rfl rfl rfl (by omega) (by (simp only [List.length_append, List.length_take, List.length_replicate, List.length_drop]; omega)) (by (simp only [List.length_append, List.length_take, List.length_replicate, List.length_drop]; omega))) ?_
     refine r_op oA ?_
     refine r_end ?_
     refine gt_shrink 2 0 rfl rfl (by (simp only [List.length_append, List.length_take, List.length_replicate, List.length_drop]; omega)) (by (simp only [List.length_append, List.length_take, List.length_replicate, List.length_drop]; omega)) ?_
     refine t_ret Tryz.func162 (.tmp rfl .nil) rfl fun E S w u hI hd => ?_
     refine postM_mk hI hd ?_ ⟨eqR ?_, trivial⟩ rfl rfl <;> clear hI hd <;> (try clear ih0) <;> (try clear ih1)
     all_goals first | rfl | (rw [List.append_assoc]; exact cmpK_fin j1 (by omega))
   ·
    have h9' := of_decide_eq_false h9
    refine t_skip ?_
    refine t_endblock ?_
    refine t_region ?_
    refine r_op oM ?_
    refine r_op oB ?_
    refine r_op oA ?_
    refine r_end ?_
    refine t_le ?_ (ih0 (m + 1) (by (try dsimp only); omega) (by (try dsimp only); exact ⟨by omega, by omega, cmp_first i3 (by assumption) (by assumption) (by simp only [IntKind.wrap_i64]; omega) i1 (by omega)⟩))
    exact ⟨⟨rfl, ⟨(eqI (wr64 (by omega) (by omega))), trivial⟩⟩, ⟨rfl, trivial⟩, rfl⟩
  ·
   have h2' := of_decide_eq_false h2
   refine t_exit rfl ?_
   refine tsr ?_
   refine r_op oM ?_
   refine r_op oA ?_
   refine r_end ?_
   refine gt_unpin 0 rfl ?_
   refine t_ret Tryz.func162 (.tmp rfl .nil) rfl fun E S w u hI hd => ?_
   refine postM_mk hI hd ?_ ⟨eqR ?_, trivial⟩ rfl rfl <;> clear hI hd <;> (try clear ih0) <;> (try clear ih1)
   all_goals first | rfl | (rw [List.take_of_length_le (by omega)] at i3; exact i3.symm)
set_option maxHeartbeats 1000000 in
set_option maxRecDepth 10000 in
theorem c_impl_Variables (l : List (Int × List Int)) (hl : szS (fun (x : Int × (List (Int))) => (x.2).length) l ≤ 1048600) : Pu Tryz.prog 123 [.c (.t none (.sl 2 (enS2 encI (enSl 1 encI)) (l)))] [(0, some (.row none 3 true 1 encI (setI (varsL l))))] 1 (.c (.own 0)) := by
 refine pu_enter Tryz.func123 rfl (Nat.le_of_ble_eq_true rfl) fun w S => ?_
 have gl := sz_len (f := (fun (x : Int × (List (Int))) => (x.2).length)) (l := l); have gv := varsL_size l
 refine tsr ?_
 refine r_op oA ?_
 refine etr ?_
 refine r_op (o_lit0 0 (e := 3) (sz := 1) (zs := [.int .i64 (0)]) encI rfl rfl (by kernel_rfl) rfl) ?_
 refine r_op oA ?_
 refine r_end ?_
 refine t_seq ?_
 refine tsr ?_
 refine r_op oM ?_
 refine r_op (o_len rfl rfl rfl) ?_
 refine r_op oM ?_
 refine r_end ?_
 refine t_block ?_
 refine t_loopL (fun m => ⟨[(2, some (.c (.t none (.v (.slice none 0 0))))), (3, some (.c (.own 0))), (9, some (.c (.t none (.sl 2 (enS2 encI (enSl 1 encI)) (l))))), (10, some (.c (.t none (.v (.int .i64 (((l).length : Int))))))), (11, some (.c (.t none (.v (.int .i64 ((m : Int)))))))], [(0, some (.row none 3 true 1 encI (varsL (l.take m))))], 1⟩ : Nat → St) (fun m => m ≤ l.length) (fun m => l.length - m) 0 ⟨⟨rfl, ⟨rfl, ⟨rfl, ⟨rfl, ⟨rfl, trivial⟩⟩⟩⟩⟩, ⟨rfl, trivial⟩, rfl⟩ (by exact Nat.zero_le _) ?_
 rintro m hI ih0
 try dsimp only at hI ih0
 have i1 := hI
 refine tsr ?_
 refine r_op oB ?_
 refine r_end ?_
 refine t_seq ?_
 refine t_cond rfl (fun h1 => ?_) (fun h1 => ?_)
 ·
  have h1' := of_decide_eq_true h1
  refine t_skip ?_
  refine t_seq ?_
  refine t_block ?_
  refine tsr ?_
  obtain ⟨z2, hz3, b4⟩ := at_get (xs := l) (n := (m : Int)) (by omega) (by omega)
  refine r_op (o_index rfl (by kernel_rfl) rfl rfl b4 hz3) ?_
  refine r_op (o_loadA rfl (n := 2) (by kernel_rfl) (by kernel_rfl) rfl rfl) ?_
  refine r_op (o_alloc 1 (zs := [.int .i64 (0), .slice none 0 0]) rfl rfl (by kernel_rfl) rfl) ?_
  refine r_op (oS 2) ?_
  refine etr ?_
  refine r_op (oF 1) ?_
  refine r_op oL ?_
  refine r_op (o_len rfl rfl rfl) ?_
  refine r_op oM ?_
  refine r_end ?_
  refine t_block ?_
  refine t_loopL (fun n => ⟨[(2, some (.c (.t none (.v (.slice none 0 0))))), (3, some (.c (.own 0))), (9, some (.c (.t none (.sl 2 (enS2 encI (enSl 1 encI)) (l))))), (10, some (.c (.t none (.v (.int .i64 (((l).length : Int))))))), (11, some (.c (.t none (.v (.int .i64 ((m : Int))))))), (16, some (.c (.t none (.sl 1 encI (z2.2))))), (17, some (.c (.t none (.v (.int .i64 (((z2.2).length : Int))))))), (18, some (.c (.t none (.v (.int .i64 ((n : Int)))))))], [(0, some (.row none 3 true 1 encI (varsL (l.take m) ++ nonneg (z2.2.take n)))), (1, some (.box [.t none (.v (.int .i64 (z2.1))), .t none (.sl 1 encI (z2.2))]))], 2⟩ : Nat → St) (fun n => n ≤ z2.2.length) (fun n => z2.2.length - n) 0 ⟨⟨rfl, ⟨rfl, ⟨rfl, ⟨rfl, ⟨rfl, ⟨rfl, ⟨rfl, ⟨rfl, trivial⟩⟩⟩⟩⟩⟩⟩⟩, ⟨(eqR (by rw [nonneg_zero, List.append_nil])), ⟨rfl, trivial⟩⟩, rfl⟩ (by exact Nat.zero_le _) ?_
  rintro n hI ih1
  try dsimp only at hI ih1
  have j1 := hI; have vp := varsL_part (m := m) (n := n) hz3; (have e1 := sz_at (f := (fun (x : Int × (List (Int))) => (x.2).length)) (l := l) (m := m) hz3; (try dsimp only at e1))
  refine tsr ?_
  refine r_op oB ?_
  refine r_end ?_
  refine t_seq ?_
  refine t_cond rfl (fun h5 => ?_) (fun h5 => ?_)
  ·
   have h5' := of_decide_eq_true h5
   refine t_skip ?_
   refine t_seq ?_
   refine t_block ?_
   refine tsr ?_
   obtain ⟨z6, hz7, b8⟩ := at_get (xs := z2.2) (n := (n : Int)) (by omega) (by omega)
   refine r_op (o_index rfl (by kernel_rfl) rfl rfl b8 hz7) ?_
   refine r_op (o_load1 rfl (by kernel_rfl) rfl rfl) ?_
   refine r_op oA ?_
   refine etr ?_
   refine r_op oM ?_
   refine r_op oB ?_
   refine r_end ?_
   refine t_cond rfl (fun h9 => ?_) (fun h9 => ?_)
   ·
    have h9' := of_decide_eq_true h9
    refine t_region ?_
    refine r_op oM ?_
    refine r_op oM ?_
    refine r_op (o_litS 2 (e := 3) (sz := 1) (zs := [.int .i64 (0)]) rfl rfl (by kernel_rfl) rfl rfl rfl rfl rfl) ?_
    refine r_op (o_append 0 (e := 3) (sz := 1) (by' := 8) (z6) rfl (by kernel_rfl) rfl rfl rfl rfl rfl rfl (.cons .sc .nil) rfl (by (simp only [List.length_append]; omega)) (by (simp only [List.length_append]; omega))) ?_
    refine r_op oA ?_
    refine r_end ?_
    refine t_endblock ?_
    refine t_region ?_
    refine r_op oB ?_
    refine r_op oM ?_
    refine r_end ?_
    refine t_le ?_ (ih1 (n + 1) (by (try dsimp only); omega) (by (try dsimp only); omega))
    exact ⟨⟨rfl, ⟨rfl, ⟨rfl, ⟨rfl, ⟨rfl, ⟨rfl, ⟨rfl, ⟨(eqI (wr64 (by omega) (by omega))), trivial⟩⟩⟩⟩⟩⟩⟩⟩, ⟨(eqR (by (rw [nonneg_more (by assumption) (by omega), List.append_assoc]; done))), ⟨rfl, trivial⟩⟩, rfl⟩
   ·
    have h9' := of_decide_eq_false h9
    refine t_skip ?_
    refine t_endblock ?_
    refine t_region ?_
    refine r_op oB ?_
    refine r_op oM ?_
    refine r_end ?_
    refine t_le ?_ (ih1 (n + 1) (by (try dsimp only); omega) (by (try dsimp only); omega))
    exact ⟨⟨rfl, ⟨rfl, ⟨rfl, ⟨rfl, ⟨rfl, ⟨rfl, ⟨rfl, ⟨(eqI (wr64 (by omega) (by omega))), trivial⟩⟩⟩⟩⟩⟩⟩⟩, ⟨(eqR (by (rw [nonneg_same (by assumption) (by omega)]; done))), ⟨rfl, trivial⟩⟩, rfl⟩
  ·
   have h5' := of_decide_eq_false h5
   refine t_exit rfl ?_
   refine t_endblock ?_
   refine t_region ?_
   refine r_op oB ?_
   refine r_op oM ?_
   refine r_end ?_
   refine t_le ?_ (ih0 (m + 1) (by (try dsimp only); omega) (by (try dsimp only); omega))
   exact ⟨⟨rfl, ⟨rfl, ⟨rfl, ⟨rfl, ⟨(eqI (wr64 (by omega) (by omega))), trivial⟩⟩⟩⟩⟩, ⟨(eqR (by rw [varsL_step (m := m) hz3]; congr 2; exact List.take_of_length_le (by omega))), trivial⟩, rfl⟩
 ·
  have h1' := of_decide_eq_false h1
  refine t_exit rfl ?_
  refine tsr ?_
  refine r_op oM ?_
  refine r_op (o_callH [⟨0, none, 3, 1, _, encI, varsL (l.take m), sortI (varsL (l.take m))⟩] (Go.Proofs.enters_of Tryz.func161 (by kernel_rfl) rfl) (fun U => c_slices_Sort___int_int_ U 3 (varsL (l.take m)) (by (simp only [varsL_end (by omega : l.length ≤ m)]; omega))) rfl ⟨rfl, trivial⟩ rfl rfl (.cons rfl (.own rfl) .nil) rfl) ?_
  refine etr ?_
  refine r_op oM ?_
  refine r_op (o_callC 0 (l' := compactI (sortI (varsL (l.take m)))) (Go.Proofs.enters_of Tryz.func162 (by kernel_rfl) rfl) (fun U => c_slices_Compact___int_int_ U 3 (sortI (varsL (l.take m))) (by (rw [sortI_len]; simp only [varsL_end (by omega : l.length ≤ m)]; omega))) rfl rfl (.cons rfl (.own rfl) .nil)) ?_
  refine r_op oA ?_
  refine r_end ?_
  refine t_ret Tryz.func123 (.tmp rfl .nil) rfl fun E S w u hI hd => ?_
  refine post_mk hI hd ?_ ⟨eqR ?_, trivial⟩ rfl rfl rfl <;> clear hI hd <;> (try clear ih0) <;> (try clear ih1)
  all_goals first | rfl | ((rw [varsL_end (by omega), compact_sort]))
set_option maxHeartbeats 1000000 in
set_option maxRecDepth 10000 in
theorem c_slices_Index___int_int_ (l : List Int) (v : Int) (hl : l.length ≤ 9223372036854775807) : Pu Tryz.prog 176 [.c (.t none (.sl 1 encI (l))), .c (.t none (.v (.int .i64 (v))))] [] 0 (.c (.t none (.v (.int .i64 (idxI (eqP v) l))))) := by
 refine pu_enter Tryz.func176 rfl (Nat.le_of_ble_eq_true rfl) fun w S => ?_
 refine tsr ?_
 refine r_op oA ?_
 refine r_end ?_
 refine t_seq ?_
 refine tsr ?_
 refine r_op oM ?_
 refine r_op (o_len rfl rfl rfl) ?_
 refine r_op oM ?_
 refine r_end ?_
 refine t_block ?_
 refine t_loopL (fun m => ⟨[(0, some (.c (.t none (.sl 1 encI (l))))), (1, some (.c (.t none (.v (.int .i64 (v)))))), (7, some (.c (.t none (.v (.int .i64 (((l).length : Int))))))), (8, some (.c (.t none (.v (.int .i64 ((m : Int)))))))], [], 0⟩ : Nat → St) (fun m => m ≤ l.length ∧ ∀ j z, j < m → l[j]? = some z → eqP v z = false) (fun m => l.length - m) 0 ⟨⟨rfl, ⟨rfl, ⟨rfl, ⟨rfl, trivial⟩⟩⟩⟩, trivial, rfl⟩ (by exact ⟨Nat.zero_le _, fun j z h => by omega⟩) ?_
 rintro m hI ih0
 try dsimp only at hI ih0
 obtain ⟨i1, i2⟩ := hI
 refine tsr ?_
 refine r_op oB ?_
 refine r_end ?_
 refine t_seq ?_
 refine t_cond rfl (fun h1 => ?_) (fun h1 => ?_)
 ·
  have h1' := of_decide_eq_true h1
  refine t_skip ?_
  refine t_seq ?_
  refine t_block ?_
  refine tsr ?_
  refine r_op oM ?_
  refine r_op oA ?_
  refine etr ?_
  refine r_op oM ?_
  refine r_op oM ?_
  refine r_op oM ?_
  obtain ⟨z2, hz3, b4⟩ := at_get (xs := l) (n := (m : Int)) (by omega) (by omega)
  refine r_op (o_index rfl (by kernel_rfl) rfl rfl b4 hz3) ?_
  refine r_op (o_load1 rfl (by kernel_rfl) rfl rfl) ?_
  refine r_op oB ?_
  refine r_end ?_
  refine t_cond rfl (fun h5 => ?_) (fun h5 => ?_)
  ·
   have h5' := of_decide_eq_true h5
   refine tsr ?_
   refine r_op oM ?_
   refine r_op oA ?_
   refine r_end ?_
   refine t_ret Tryz.func176 (.tmp rfl .nil) rfl fun E S w u hI hd => ?_
   refine post_mk hI hd ?_ trivial rfl rfl rfl <;> clear hI hd <;> (try clear ih0)
   all_goals (rw [idx_hit i2 (by assumption) (decide_eq_true (by omega))])
  ·
   have h5' := of_decide_eq_false h5
   refine t_skip ?_
   refine t_endblock ?_
   refine t_region ?_
   refine r_op oB ?_
   refine r_op oM ?_
   refine r_end ?_
   refine t_le ?_ (ih0 (m + 1) (by (try dsimp only); omega) (by (try dsimp only); exact ⟨by omega, no_step i2 (by assumption) rfl (decide_eq_false (by omega))⟩))
   exact ⟨⟨rfl, ⟨rfl, ⟨rfl, ⟨(eqI (wr64 (by omega) (by omega))), trivial⟩⟩⟩⟩, trivial, rfl⟩
 ·
  have h1' := of_decide_eq_false h1
  refine t_exit rfl ?_
  refine tsr ?_
  refine r_op oA ?_
  refine r_end ?_
  refine t_ret Tryz.func176 (.tmp rfl .nil) rfl fun E S w u hI hd => ?_
  refine post_mk hI hd ?_ trivial rfl rfl rfl <;> clear hI hd <;> (try clear ih0)
  all_goals (rw [idx_none i2 (by omega)])
set_option maxHeartbeats 1000000 in
set_option maxRecDepth 10000 in
theorem c_slices_Contains___int_int_ (l : List Int) (v : Int) (hl : l.length ≤ 9223372036854775807) : Pu Tryz.prog 124 [.c (.t none (.sl 1 encI (l))), .c (.t none (.v (.int .i64 (v))))] [] 0 (.c (.t none (.v (.bool (hasI l v))))) := by
 refine pu_enter Tryz.func124 rfl (Nat.le_of_ble_eq_true rfl) fun w S => ?_
 refine tsr ?_
 refine r_op oA ?_
 refine etr ?_
 refine r_op oM ?_
 refine r_op oM ?_
 refine r_op (o_call 0 0 false (Go.Proofs.enters_of Tryz.func176 (by kernel_rfl) rfl) (c_slices_Index___int_int_ (l) (v) (by omega)) rfl (.cons rfl (.c .t0) (.cons rfl (.c .t0) .nil)) rfl rfl rfl) ?_
 refine r_op oB ?_
 refine r_op oA ?_
 refine r_end ?_
 refine t_ret Tryz.func124 (.tmp rfl .nil) rfl fun E S w u hI hd => ?_
 refine post_mk hI hd ?_ trivial rfl rfl rfl <;> clear hI hd
 all_goals (exact scB idxI_has)
set_option maxHeartbeats 1000000 in
set_option maxRecDepth 10000 in
theorem c_impl_IsValidDependency_1 (r : Int) (ts : List Int) (rs : Rels) (hr : 0 ≤ r ∧ r < rs.length) : Pu Tryz.prog 126 [.agg [.t none (.v (.int .i64 (r))), .t none (.sl 1 encI (ts))], .c (.pel none ((enSl 3 (enS3 encS encI encB)) (rs)) 1)] [] 0 (.c (.t none (.v (.bool (srcA rs (r, ts)))))) := by
 refine pu_enter Tryz.func126 rfl (Nat.le_of_ble_eq_true rfl) fun w S => ?_
 refine tsr ?_
 refine r_op (o_box 0 rfl rfl rfl rfl) ?_
 refine r_op oA ?_
 refine etr ?_
 refine r_op (o_load1 rfl (by kernel_rfl) rfl rfl) ?_
 refine r_op (oF 0) ?_
 refine r_op oL ?_
 obtain ⟨z1, hz2, b3⟩ := at_get (xs := rs) (n := r) (by omega) (by omega)
 refine r_op (o_index rfl (by kernel_rfl) rfl rfl b3 hz2) ?_
 refine r_op (o_field rfl (off := 2) (by kernel_rfl) rfl) ?_
 refine r_op (o_load1 rfl (by kernel_rfl) rfl rfl) ?_
 refine r_op oA ?_
 refine r_end ?_
 refine t_ret Tryz.func126 (.tmp rfl .nil) rfl fun E S w u hI hd => ?_
 refine post_mk hI hd ?_ trivial rfl rfl rfl <;> clear hI hd
 all_goals (refine scB ?_; rw [srcA_at (by assumption)])
end Go.Eng
