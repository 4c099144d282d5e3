/- What the functions that FnSatisfaction reaches answer. -/
import Derived.Test.YtjjoopbebildfaaGreatEngZQ
import Derived.Test.YtjjoopbebildfaaGreatChecked
set_option linter.unusedVariables false
set_option linter.unusedSimpArgs false
namespace Go.Eng
open Go Go.RowKit Go.Proofs
set_option maxHeartbeats 1000000 in
set_option maxRecDepth 10000 in
theorem c_laws_big (code : List Int) : Pu Tryz.prog 7 [.c (.t none (.sl 1 encU (code)))] [] 0 (.c (.t none (.v (.bool (decide ((1048576 : Int) < (code.length : Int))))))) := by
 refine pu_enter Tryz.func7 rfl (Nat.le_of_ble_eq_true rfl) fun w S => ?_
 refine tsr ?_
 refine r_op oA ?_
 refine etr ?_
 refine r_op oM ?_
 refine r_op (o_len rfl rfl rfl) ?_
 refine r_op oB ?_
 refine r_op oA ?_
 refine r_end ?_
 refine t_ret Tryz.func7 (.tmp rfl .nil) rfl fun E S w u hI hd => ?_
 refine post_mk hI hd ?_ trivial rfl rfl rfl <;> clear hI hd
 all_goals (rfl)
set_option maxHeartbeats 1000000 in
set_option maxRecDepth 10000 in
theorem c_spec_l1New (code : List Int) (hc : code.length ≤ 1048576) : PuG Tryz.prog 104 [.c (.t none (.sl 1 encU (code)))] (fun (h : Int) => True) (fun (h : Int) => [(0, some (.box [.t none (.sl 1 encU (code)), .t none (.v (.int .i64 (0))), .t none (.v (.int .i64 (h)))]))]) 1 (fun (h : Int) => .c (.ptr 0 0)) := by
 refine pu_enterG Tryz.func104 rfl (Nat.le_of_ble_eq_true rfl) fun w S => ?_
 refine tsr ?_
 refine r_op oA ?_
 refine etr ?_
 refine r_op oM ?_
 refine r_op (o_len rfl rfl rfl) ?_
 refine r_op oB ?_
 refine r_op oA ?_
 refine r_end ?_
 refine t_seq ?_
 refine tsr ?_
 refine r_op oA ?_
 refine r_end ?_
 refine t_block ?_
 refine t_loopL (fun (m, h) => ⟨[(0, some (.c (.t none (.sl 1 encU (code))))), (2, some (.c (.t none (.v (.pointer none))))), (3, some (.c (.t none (.v (.int .i64 (h)))))), (4, some (.c (.t none (.v (.int .i64 ((m : Int)))))))], [], 0⟩ : Nat × Int → St) (fun (m, h) => m ≤ code.length) (fun (m, h) => code.length - m) (0, IntKind.i64.wrap (10101 + (code.length : Int))) ⟨⟨rfl, ⟨rfl, ⟨rfl, ⟨rfl, trivial⟩⟩⟩⟩, trivial, rfl⟩ (by exact Nat.zero_le _) ?_
 rintro ⟨m, h⟩ hI ih0
 try dsimp only at hI ih0
 have i1 := hI; (try dsimp only at i1)
 refine t_seq ?_
 refine tsr ?_
 refine r_op oM ?_
 refine r_op oM ?_
 refine r_op (o_len rfl rfl rfl) ?_
 refine r_op oB ?_
 refine r_op oM ?_
 refine r_guard rfl rfl rfl (fun g1 => ?_) (fun g1 => ?_)
 ·
  have g1' := of_decide_eq_true g1
  refine r_op oM ?_
  refine r_guard rfl rfl rfl (fun _ => ?_) (nc g1)
  refine r_op oB ?_
  refine r_op (o_pickT rfl rfl g1 rfl) ?_
  refine r_end ?_
  refine t_cond rfl (fun h2 => ?_) (fun h2 => ?_)
  ·
   have h2' := of_decide_eq_true h2
   refine t_skip ?_
   refine t_seq ?_
   refine t_block ?_
   refine t_region ?_
   refine r_op oM ?_
   refine r_op oB ?_
   refine r_op oM ?_
   refine r_op oM ?_
   obtain ⟨z3, hz4, b5⟩ := at_get (xs := code) (n := (m : Int)) (by omega) (by omega)
   refine r_op (o_index rfl (by kernel_rfl) rfl rfl b5 hz4) ?_
   refine r_op (o_load1 rfl (by kernel_rfl) rfl rfl) ?_
   refine r_op (o_conv rfl Tryz.underlying5 Tryz.underlying3 rfl) ?_
   refine r_op oB ?_
   refine r_op oB ?_
   refine r_op (o_binD rfl rfl rfl (and_d)) ?_
   refine r_op oA ?_
   refine r_end ?_
   refine t_endblock ?_
   refine t_region ?_
   refine r_op oM ?_
   refine r_op oB ?_
   refine r_op oA ?_
   refine r_end ?_
   refine t_le ?_ (ih0 (m + 1, andI (IntKind.i64.wrap ((IntKind.i64.wrap ((IntKind.i64.wrap (h * 131)) + (IntKind.i64.wrap z3))) + 7)) 1073741823) (by (try dsimp only); omega) (by (try dsimp only); omega))
   exact ⟨⟨rfl, ⟨rfl, ⟨rfl, ⟨(eqI (wr64 (by omega) (by omega))), trivial⟩⟩⟩⟩, trivial, rfl⟩
  ·
   have h2' := of_decide_eq_false h2
   refine t_exit rfl ?_
   refine tsr ?_
   refine r_op oM ?_
   refine r_op oM ?_
   refine r_op (o_build rfl (pl := [(0, 1), (1, 1), (2, 1)]) (zs := [.slice none 0 0, .int .i64 (0), .int .i64 (0)]) (by kernel_rfl) (by kernel_rfl) rfl rfl rfl) ?_
   refine r_op (o_box 0 rfl rfl rfl rfl) ?_
   refine r_op oA ?_
   refine r_end ?_
   refine t_ret Tryz.func104 (.tmp rfl .nil) rfl fun E S w u hI hd => ?_
   refine post_mkG (h) ?_ hI hd ?_ ⟨rfl, trivial⟩ rfl rfl <;> clear hI hd <;> (try clear ih0)
   · (try dsimp only) <;> (trivial)
   · rfl
 ·
  have g1' := of_decide_eq_false g1
  refine r_guard rfl rfl rfl (ncf g1) (fun _ => ?_)
  refine r_op (o_pickF rfl rfl g1 rfl) ?_
  refine r_end ?_
  refine t_cond rfl (ncf rfl) (fun _ => ?_)
  refine t_exit rfl ?_
  refine tsr ?_
  refine r_op oM ?_
  refine r_op oM ?_
  refine r_op (o_build rfl (pl := [(0, 1), (1, 1), (2, 1)]) (zs := [.slice none 0 0, .int .i64 (0), .int .i64 (0)]) (by kernel_rfl) (by kernel_rfl) rfl rfl rfl) ?_
  refine r_op (o_box 0 rfl rfl rfl rfl) ?_
  refine r_op oA ?_
  refine r_end ?_
  refine t_ret Tryz.func104 (.tmp rfl .nil) rfl fun E S w u hI hd => ?_
  refine post_mkG (h) ?_ hI hd ?_ ⟨rfl, trivial⟩ rfl rfl <;> clear hI hd <;> (try clear ih0)
  · (try dsimp only) <;> (trivial)
  · rfl
set_option maxHeartbeats 1000000 in
set_option maxRecDepth 10000 in
theorem c_spec_l3Sigs  : Pu Tryz.prog 133 [] [(0, some (.row none 94 true 3 (enS3 encS encI encB) (sigs5)))] 1 (.c (.own 0)) := by
 refine pu_enter Tryz.func133 rfl (Nat.le_of_ble_eq_true rfl) fun w S => ?_
 refine tsr ?_
 refine r_op oA ?_
 refine etr ?_
 refine r_op (o_build rfl (pl := [(0, 1), (1, 1), (2, 1)]) (zs := [.string (mkS ([])), .int .i64 (0), .bool (false)]) (by kernel_rfl) (by kernel_rfl) rfl rfl rfl) ?_
 refine r_op (o_build rfl (pl := [(0, 1), (1, 1), (2, 1)]) (zs := [.string (mkS ([])), .int .i64 (0), .bool (false)]) (by kernel_rfl) (by kernel_rfl) rfl rfl rfl) ?_
 refine r_op (o_build rfl (pl := [(0, 1), (1, 1), (2, 1)]) (zs := [.string (mkS ([])), .int .i64 (0), .bool (false)]) (by kernel_rfl) (by kernel_rfl) rfl rfl rfl) ?_
 refine r_op (o_build rfl (pl := [(0, 1), (1, 1), (2, 1)]) (zs := [.string (mkS ([])), .int .i64 (0), .bool (false)]) (by kernel_rfl) (by kernel_rfl) rfl rfl rfl) ?_
 refine r_op (o_build rfl (pl := [(0, 1), (1, 1), (2, 1)]) (zs := [.string (mkS ([])), .int .i64 (0), .bool (false)]) (by kernel_rfl) (by kernel_rfl) rfl rfl rfl) ?_
 refine r_op (o_litN 0 (e := 94) (sz := 3) (zs := [.string (mkS ([])), .int .i64 (0), .bool (false)]) (enc := (enS3 encS encI encB)) [(([97] : List UInt8), 2, true), (([98] : List UInt8), 1, true), (([112] : List UInt8), 2, false), (([113] : List UInt8), 2, false), (([114] : List UInt8), 1, false)] rfl rfl (by kernel_rfl) rfl rfl rfl rfl rfl rfl rfl rfl (.cons .sc (.cons .sc (.cons .sc (.cons .sc (.cons .sc (.cons .sc (.cons .sc (.cons .sc (.cons .sc (.cons .sc (.cons .sc (.cons .sc (.cons .sc (.cons .sc (.cons .sc .nil))))))))))))))) rfl) ?_
 refine r_op oA ?_
 refine r_end ?_
 refine t_ret Tryz.func133 (.tmp rfl .nil) rfl fun E S w u hI hd => ?_
 refine post_mk hI hd ?_ ⟨eqR ?_, trivial⟩ rfl rfl rfl <;> clear hI hd
 all_goals (rfl)
set_option maxHeartbeats 1000000 in
set_option maxRecDepth 10000 in
theorem c_spec_l1Byte (code : List Int) (i h : Int) (hc : code.length ≤ 1048576) (hi0 : 0 ≤ i) (hi1 : i ≤ code.length) : MuG Tryz.prog 139 [.c (.ptr 0 0)] [.t none (.sl 1 encU (code)), .t none (.v (.int .i64 (i))), .t none (.v (.int .i64 (h)))] (fun (⟨x, i2, h2⟩ : Int × Int × Int) => (0 ≤ x ∧ x ≤ 255) ∧ 0 ≤ i2 ∧ i2 ≤ code.length) (fun (⟨x, i2, h2⟩ : Int × Int × Int) => [.t none (.sl 1 encU (code)), .t none (.v (.int .i64 (i2))), .t none (.v (.int .i64 (h2)))]) (fun (⟨x, i2, h2⟩ : Int × Int × Int) => []) 1 (fun (⟨x, i2, h2⟩ : Int × Int × Int) => .c (.t none (.v (.int .i64 (x))))) := by
 refine mu_enterG Tryz.func139 rfl (Nat.le_of_ble_eq_true rfl) fun v0 w S M hM => ?_
 refine tsr ?_
 refine r_op oA ?_
 refine etr ?_
 refine r_op oM ?_
 refine r_op oM ?_
 refine r_op (o_nilp rfl rfl) ?_
 refine r_op (oF 2) ?_
 refine r_op (o_unp rfl (i := 0) rfl pL) ?_
 refine r_op oB ?_
 refine r_op oB ?_
 refine r_op (o_nilp rfl rfl) ?_
 refine r_op (oF 2) ?_
 refine r_op (o_storep (n := 1) (by kernel_rfl) rfl rfl rfl rfl rfl rfl) ?_
 refine r_end ?_
 refine t_seq ?_
 refine t_draw (fun _ => true) (by kernel_rfl) ?_
 refine dT 0 rfl pM ?_
 refine dT 1 rfl (p_nilp rfl) ?_
 refine dT 2 rfl (pF 2) ?_
 refine dT 3 rfl (p_unp (i := 0) rfl pL) ?_
 refine dT 4 rfl (p_sh rfl rfl (rfl)) ?_
 refine dT 5 rfl pM ?_
 refine dT 6 rfl (p_nilp rfl) ?_
 refine dT 7 rfl (pF 2) ?_
 refine dT 8 rfl (p_unp (i := 0) rfl pL) ?_
 refine dT 9 rfl (p_sh rfl rfl (rfl)) ?_
 refine dT 10 rfl (p_binD rfl rfl (xor_d)) ?_
 refine dT 11 rfl (p_binD rfl rfl (and_d)) ?_
 refine dT 12 rfl pA ?_
 refine d_end (by kernel_rfl) ?_
 refine t_seq ?_
 refine t_seq ?_
 refine t_draw (fun _ => true) (by kernel_rfl) ?_
 refine dT 0 rfl pM ?_
 refine dT 1 rfl (p_nilp rfl) ?_
 refine dT 2 rfl (pF 1) ?_
 refine dT 3 rfl (p_unp (i := 0) rfl pL) ?_
 refine dT 4 rfl pM ?_
 refine dT 5 rfl (p_nilp rfl) ?_
 refine dT 6 rfl (pF 0) ?_
 refine dT 7 rfl (p_unp (i := 0) rfl pL) ?_
 refine dT 8 rfl (p_len rfl rfl) ?_
 refine dT 9 rfl pB ?_
 refine d_end (by kernel_rfl) ?_
 refine t_cond rfl (fun h1 => ?_) (fun h1 => ?_)
 ·
  have h1' := of_decide_eq_true h1
  refine t_seq ?_
  refine t_draw (fun _ => true) (by kernel_rfl) ?_
  refine dT 0 rfl pM ?_
  refine dT 1 rfl pM ?_
  refine dT 2 rfl (p_nilp rfl) ?_
  refine dT 3 rfl (pF 0) ?_
  refine dT 4 rfl (p_unp (i := 0) rfl pL) ?_
  refine dT 5 rfl pM ?_
  refine dT 6 rfl (p_nilp rfl) ?_
  refine dT 7 rfl (pF 1) ?_
  refine dT 8 rfl (p_unp (i := 0) rfl pL) ?_
  obtain ⟨z2, hz3, b4⟩ := at_get (xs := code) (n := i) (by omega) (by omega)
  refine dT 9 rfl (p_index (by kernel_rfl) rfl rfl b4 hz3) ?_
  refine dT 10 rfl (p_load1 (by kernel_rfl) rfl rfl) ?_
  refine dT 11 rfl (p_conv Tryz.underlying5 Tryz.underlying3 rfl) ?_
  refine dT 12 rfl pB ?_
  refine dT 13 rfl (p_binD rfl rfl (and_d)) ?_
  refine dT 14 rfl pA ?_
  refine d_end (by kernel_rfl) ?_
  refine t_region ?_
  refine r_op oM ?_
  refine r_op oM ?_
  refine r_op (o_nilp rfl rfl) ?_
  refine r_op (oF 1) ?_
  refine r_op (o_unp rfl (i := 0) rfl pL) ?_
  refine r_op oB ?_
  refine r_op (o_nilp rfl rfl) ?_
  refine r_op (oF 1) ?_
  refine r_op (o_storep (n := 1) (by kernel_rfl) rfl rfl rfl rfl rfl rfl) ?_
  refine etr ?_
  refine r_op oM ?_
  refine r_op oA ?_
  refine r_end ?_
  refine t_ret Tryz.func139 (.tmp rfl .nil) rfl fun E S w u hI hd => ?_
  refine post_mkG (⟨andI (IntKind.i64.wrap ((andI (xorI (Int.fdiv (IntKind.i64.wrap ((IntKind.i64.wrap (h * 6364136223846793005)) + 1442695040888963407)) (2 ^ 33)) (Int.fdiv (IntKind.i64.wrap ((IntKind.i64.wrap (h * 6364136223846793005)) + 1442695040888963407)) (2 ^ 45))) 255) + (IntKind.i64.wrap z2))) 255, IntKind.i64.wrap (i + 1), IntKind.i64.wrap ((IntKind.i64.wrap (h * 6364136223846793005)) + 1442695040888963407)⟩) ?_ hI hd ?_ ⟨rfl, trivial⟩ rfl rfl <;> clear hI hd
  · (try dsimp only) <;> (exact ⟨and255 _, by (have := wr64 (x := i + 1) (by omega) (by omega); omega)⟩)
  · rfl
 ·
  have h1' := of_decide_eq_false h1
  refine t_skip ?_
  refine tsr ?_
  refine r_op oM ?_
  refine r_op oA ?_
  refine r_end ?_
  refine t_ret Tryz.func139 (.tmp rfl .nil) rfl fun E S w u hI hd => ?_
  refine post_mkG (⟨andI (xorI (Int.fdiv (IntKind.i64.wrap ((IntKind.i64.wrap (h * 6364136223846793005)) + 1442695040888963407)) (2 ^ 33)) (Int.fdiv (IntKind.i64.wrap ((IntKind.i64.wrap (h * 6364136223846793005)) + 1442695040888963407)) (2 ^ 45))) 255, i, IntKind.i64.wrap ((IntKind.i64.wrap (h * 6364136223846793005)) + 1442695040888963407)⟩) ?_ hI hd ?_ ⟨rfl, trivial⟩ rfl rfl <;> clear hI hd
  · (try dsimp only) <;> (exact ⟨and255 _, by (omega)⟩)
  · rfl
set_option maxHeartbeats 1000000 in
set_option maxRecDepth 10000 in
theorem c_spec_l1Below (code : List Int) (i h n : Int) (hc : code.length ≤ 1048576) (hi0 : 0 ≤ i) (hi1 : i ≤ code.length) (hn : 1 ≤ n) (hn2 : n ≤ 256) : MuG Tryz.prog 81 [.c (.ptr 0 0), .c (.t none (.v (.int .i64 (n))))] [.t none (.sl 1 encU (code)), .t none (.v (.int .i64 (i))), .t none (.v (.int .i64 (h)))] (fun (⟨x, i2, h2⟩ : Int × Int × Int) => (0 ≤ x ∧ x ≤ n - 1) ∧ 0 ≤ i2 ∧ i2 ≤ code.length) (fun (⟨x, i2, h2⟩ : Int × Int × Int) => [.t none (.sl 1 encU (code)), .t none (.v (.int .i64 (i2))), .t none (.v (.int .i64 (h2)))]) (fun (⟨x, i2, h2⟩ : Int × Int × Int) => []) 1 (fun (⟨x, i2, h2⟩ : Int × Int × Int) => .c (.t none (.v (.int .i64 (x))))) := by
 refine mu_enterG Tryz.func81 rfl (Nat.le_of_ble_eq_true rfl) fun v0 w S M hM => ?_
 refine tsr ?_
 refine r_op oA ?_
 refine r_end ?_
 refine t_seq ?_
 refine tsr ?_
 refine r_op oM ?_
 refine r_op oB ?_
 refine r_end ?_
 refine t_cond rfl (fun h1 => ?_) (fun h1 => ?_)
 ·
  have h1' := of_decide_eq_true h1
  exfalso; omega
 ·
  have h1' := of_decide_eq_false h1
  refine t_skip ?_
  refine t_seq ?_
  refine tsr ?_
  refine r_op oM ?_
  refine r_op oB ?_
  refine r_end ?_
  refine t_cond rfl (fun h2 => ?_) (fun h2 => ?_)
  ·
   have h2' := of_decide_eq_true h2
   refine tsr ?_
   refine r_op oM ?_
   refine r_opX (o_callGM 0 1 2 (pv := some (v0)) (Go.Proofs.enters_of Tryz.func139 (by kernel_rfl) rfl) (c_spec_l1Byte (code) (i) (h) (by omega) (by omega) (by omega)) rfl rfl (.cur rfl .nil) rfl (fun ⟨_, _, _⟩ => rfl) (fun _ => rfl) (fun ⟨_, _, _⟩ => rfl) rfl rfl) ?_
   rintro ⟨⟨x3, i24, h25⟩, hq6⟩
   try dsimp only at hq6
   try dsimp only
   obtain ⟨q7, q8⟩ := hq6
   refine r_op oM ?_
   refine r_op (o_binD rfl rfl rfl (rem_d (by omega))) ?_
   refine r_op oA ?_
   refine r_end ?_
   refine t_ret Tryz.func81 (.tmp rfl .nil) rfl fun E S w u hI hd => ?_
   refine post_mkG (⟨Int.tmod (x3) n, (i24), (h25)⟩) ?_ hI hd ?_ ⟨rfl, trivial⟩ rfl rfl <;> clear hI hd
   · (try dsimp only) <;> (exact ⟨tmod_bnd (by omega) (by omega), by omega⟩)
   · rfl
  ·
   have h2' := of_decide_eq_false h2
   exfalso; omega
set_option maxHeartbeats 1000000 in
set_option maxRecDepth 10000 in
theorem c_spec_l1Once (code : List Int) (i h n : Int) (hc : code.length ≤ 1048576) (hi0 : 0 ≤ i) (hi1 : i ≤ code.length) (hn : 1 ≤ n) (hn2 : n ≤ 256) : MuG Tryz.prog 61 [.c (.ptr 0 0), .c (.t none (.v (.int .i64 (n))))] [.t none (.sl 1 encU (code)), .t none (.v (.int .i64 (i))), .t none (.v (.int .i64 (h)))] (fun (⟨b, i2, h2⟩ : Bool × Int × Int) => 0 ≤ i2 ∧ i2 ≤ code.length) (fun (⟨b, i2, h2⟩ : Bool × Int × Int) => [.t none (.sl 1 encU (code)), .t none (.v (.int .i64 (i2))), .t none (.v (.int .i64 (h2)))]) (fun (⟨b, i2, h2⟩ : Bool × Int × Int) => []) 1 (fun (⟨b, i2, h2⟩ : Bool × Int × Int) => .c (.t none (.v (.bool (b))))) := by
 refine mu_enterG Tryz.func61 rfl (Nat.le_of_ble_eq_true rfl) fun v0 w S M hM => ?_
 refine tsr ?_
 refine r_op oA ?_
 refine etr ?_
 refine r_op oM ?_
 refine r_op oM ?_
 refine r_opX (o_callGM 0 1 2 (pv := some (v0)) (Go.Proofs.enters_of Tryz.func81 (by kernel_rfl) rfl) (c_spec_l1Below (code) (i) (h) (n) (by omega) (by omega) (by omega) (by omega) (by omega)) rfl rfl (.cur rfl (.cons rfl .nil)) rfl (fun ⟨_, _, _⟩ => rfl) (fun _ => rfl) (fun ⟨_, _, _⟩ => rfl) rfl rfl) ?_
 rintro ⟨⟨x1, i22, h23⟩, hq4⟩
 try dsimp only at hq4
 try dsimp only
 obtain ⟨q5, q6⟩ := hq4
 refine r_op oB ?_
 refine r_op oA ?_
 refine r_end ?_
 refine t_ret Tryz.func61 (.tmp rfl .nil) rfl fun E S w u hI hd => ?_
 refine post_mkG (⟨decide ((x1) = 0), (i22), (h23)⟩) ?_ hI hd ?_ ⟨rfl, trivial⟩ rfl rfl <;> clear hI hd
 · (try dsimp only) <;> (omega)
 · rfl
set_option maxHeartbeats 1000000 in
set_option maxRecDepth 10000 in
theorem c_spec_NullValue (k : Int) (hk : -4611686018427387904 ≤ k ∧ k ≤ 4611686018427387904) : Pu Tryz.prog 92 [.c (.t none (.v (.int .i64 (k))))] [] 0 (.c (.t none (.v (.int .i64 (-1 - k))))) := by
 refine pu_enter Tryz.func92 rfl (Nat.le_of_ble_eq_true rfl) fun w S => ?_
 refine tsr ?_
 refine r_op oA ?_
 refine etr ?_
 refine r_op oM ?_
 refine r_op oB ?_
 refine r_op oA ?_
 refine r_end ?_
 refine t_ret Tryz.func92 (.tmp rfl .nil) rfl fun E S w u hI hd => ?_
 refine post_mk hI hd ?_ trivial rfl rfl rfl <;> clear hI hd
 all_goals (refine scI ?_; exact wr64 (by omega) (by omega))
set_option maxHeartbeats 1000000 in
set_option maxRecDepth 10000 in
theorem c_spec_l4Value (code : List Int) (i h n : Int) (hc : code.length ≤ 1048576) (hi0 : 0 ≤ i) (hi1 : i ≤ code.length) (hn : 0 ≤ n) (hn2 : n ≤ 256) : MuG Tryz.prog 171 [.c (.ptr 0 0), .c (.t none (.v (.int .i64 (n))))] [.t none (.sl 1 encU (code)), .t none (.v (.int .i64 (i))), .t none (.v (.int .i64 (h)))] (fun (⟨x, i2, h2⟩ : Int × Int × Int) => (-256 ≤ x ∧ x ≤ 2) ∧ 0 ≤ i2 ∧ i2 ≤ code.length) (fun (⟨x, i2, h2⟩ : Int × Int × Int) => [.t none (.sl 1 encU (code)), .t none (.v (.int .i64 (i2))), .t none (.v (.int .i64 (h2)))]) (fun (⟨x, i2, h2⟩ : Int × Int × Int) => []) 1 (fun (⟨x, i2, h2⟩ : Int × Int × Int) => .c (.t none (.v (.int .i64 (x))))) := by
 refine mu_enterG Tryz.func171 rfl (Nat.le_of_ble_eq_true rfl) fun v0 w S M hM => ?_
 refine tsr ?_
 refine r_op oA ?_
 refine r_end ?_
 refine t_seq ?_
 refine tsr ?_
 refine r_op oM ?_
 refine r_op oB ?_
 refine r_op oM ?_
 refine r_guard rfl rfl rfl (fun g1 => ?_) (fun g1 => ?_)
 ·
  have g1' := of_decide_eq_true g1
  refine r_op oM ?_
  refine r_guard rfl rfl rfl (fun _ => ?_) (nc g1)
  refine r_opX (o_callGM 0 1 2 (pv := some (v0)) (Go.Proofs.enters_of Tryz.func61 (by kernel_rfl) rfl) (c_spec_l1Once (code) (i) (h) (2) (by omega) (by omega) (by omega) (by omega) (by omega)) rfl rfl (.cur rfl (.cons rfl .nil)) rfl (fun ⟨_, _, _⟩ => rfl) (fun _ => rfl) (fun ⟨_, _, _⟩ => rfl) rfl rfl) ?_
  rintro ⟨⟨b2, i23, h24⟩, hq5⟩
  try dsimp only at hq5
  try dsimp only
  refine r_op (o_pickT rfl rfl g1 rfl) ?_
  refine r_end ?_
  refine t_cond rfl (fun h7 => ?_) (fun h7 => ?_)
  ·
   have h7' := h7
   refine tsr ?_
   refine r_op oM ?_
   refine r_op oM ?_
   refine r_opX (o_callGM 0 2 3 (pv := some (v0)) (Go.Proofs.enters_of Tryz.func81 (by kernel_rfl) rfl) (c_spec_l1Below ((code)) ((i23)) ((h24)) (n) (by omega) (by omega) (by omega) (by omega) (by omega)) rfl rfl (.cur rfl (.cons rfl .nil)) rfl (fun ⟨_, _, _⟩ => rfl) (fun _ => rfl) (fun ⟨_, _, _⟩ => rfl) rfl rfl) ?_
   rintro ⟨⟨x8, i29, h210⟩, hq11⟩
   try dsimp only at hq11
   try dsimp only
   obtain ⟨q12, q13⟩ := hq11
   refine r_op (o_call 3 3 false (Go.Proofs.enters_of Tryz.func92 (by kernel_rfl) rfl) (c_spec_NullValue ((x8)) (by omega)) rfl (.cons rfl (.c .t0) .nil) rfl rfl rfl) ?_
   refine r_op oA ?_
   refine r_end ?_
   refine t_ret Tryz.func171 (.tmp rfl .nil) rfl fun E S w u hI hd => ?_
   refine post_mkG (⟨-1 - ((x8)), (i29), (h210)⟩) ?_ hI hd ?_ ⟨rfl, trivial⟩ rfl rfl <;> clear hI hd
   · (try dsimp only) <;> (((try simp only [IntKind.wrap_i64] at *); omega))
   · rfl
  ·
   have h7' := h7
   refine t_skip ?_
   refine tsr ?_
   refine r_op oM ?_
   refine r_opX (o_callGM 0 2 3 (pv := some (v0)) (Go.Proofs.enters_of Tryz.func81 (by kernel_rfl) rfl) (c_spec_l1Below ((code)) ((i23)) ((h24)) (3) (by omega) (by omega) (by omega) (by omega) (by omega)) rfl rfl (.cur rfl (.cons rfl .nil)) rfl (fun ⟨_, _, _⟩ => rfl) (fun _ => rfl) (fun ⟨_, _, _⟩ => rfl) rfl rfl) ?_
   rintro ⟨⟨x14, i215, h216⟩, hq17⟩
   try dsimp only at hq17
   try dsimp only
   obtain ⟨q18, q19⟩ := hq17
   refine r_op oA ?_
   refine r_end ?_
   refine t_ret Tryz.func171 (.tmp rfl .nil) rfl fun E S w u hI hd => ?_
   refine post_mkG (⟨(x14), (i215), (h216)⟩) ?_ hI hd ?_ ⟨rfl, trivial⟩ rfl rfl <;> clear hI hd
   · (try dsimp only) <;> (((try simp only [IntKind.wrap_i64] at *); omega))
   · rfl
 ·
  have g1' := of_decide_eq_false g1
  refine r_guard rfl rfl rfl (ncf g1) (fun _ => ?_)
  refine r_op (o_pickF rfl rfl g1 rfl) ?_
  refine r_end ?_
  refine t_cond rfl (ncf rfl) (fun _ => ?_)
  refine t_skip ?_
  refine tsr ?_
  refine r_op oM ?_
  refine r_opX (o_callGM 0 1 2 (pv := some (v0)) (Go.Proofs.enters_of Tryz.func81 (by kernel_rfl) rfl) (c_spec_l1Below (code) (i) (h) (3) (by omega) (by omega) (by omega) (by omega) (by omega)) rfl rfl (.cur rfl (.cons rfl .nil)) rfl (fun ⟨_, _, _⟩ => rfl) (fun _ => rfl) (fun ⟨_, _, _⟩ => rfl) rfl rfl) ?_
  rintro ⟨⟨x20, i221, h222⟩, hq23⟩
  try dsimp only at hq23
  try dsimp only
  obtain ⟨q24, q25⟩ := hq23
  refine r_op oA ?_
  refine r_end ?_
  refine t_ret Tryz.func171 (.tmp rfl .nil) rfl fun E S w u hI hd => ?_
  refine post_mkG (⟨(x20), (i221), (h222)⟩) ?_ hI hd ?_ ⟨rfl, trivial⟩ rfl rfl <;> clear hI hd
  · (try dsimp only) <;> (((try simp only [IntKind.wrap_i64] at *); omega))
  · rfl
set_option maxHeartbeats 1000000 in
set_option maxRecDepth 10000 in
theorem c_spec_l4Fact (code : List Int) (i h r n : Int) (hc : code.length ≤ 1048576) (hi0 : 0 ≤ i) (hi1 : i ≤ code.length) (hr : 0 ≤ r ∧ r ≤ 4) (hn : 0 ≤ n ∧ n ≤ 256) : MuG Tryz.prog 134 [.c (.ptr 0 0), .c (.t none (.v (.int .i64 (r)))), .c (.t none (.v (.int .i64 (n))))] [.t none (.sl 1 encU (code)), .t none (.v (.int .i64 (i))), .t none (.v (.int .i64 (h)))] (fun (⟨ts, i2, h2⟩ : (List Int) × Int × Int) => (1 ≤ ts.length ∧ ts.length ≤ 2) ∧ (∀ x ∈ ts, -256 ≤ x ∧ x ≤ 2) ∧ 0 ≤ i2 ∧ i2 ≤ code.length) (fun (⟨ts, i2, h2⟩ : (List Int) × Int × Int) => [.t none (.sl 1 encU (code)), .t none (.v (.int .i64 (i2))), .t none (.v (.int .i64 (h2)))]) (fun (⟨ts, i2, h2⟩ : (List Int) × Int × Int) => [(4, some (.row none 3 true 1 encI (ts)))]) 5 (fun (⟨ts, i2, h2⟩ : (List Int) × Int × Int) => .agg [.t none (.v (.int .i64 (r))), .own 4]) := by
 refine mu_enterG Tryz.func134 rfl (Nat.le_of_ble_eq_true rfl) fun v0 w S M hM => ?_
 have ar := arS_le hr
 refine tsr ?_
 refine r_op (o_alloc 1 (zs := [.int .i64 (0), .slice none 0 0]) rfl rfl (by kernel_rfl) rfl) ?_
 refine etr ?_
 refine r_op (o_call 2 3 false (Go.Proofs.enters_of Tryz.func133 (by kernel_rfl) rfl) (c_spec_l3Sigs ) rfl .nil rfl rfl rfl) ?_
 refine r_op oA ?_
 refine etr ?_
 refine r_op oM ?_
 refine r_op (o_build rfl (pl := [(0, 1), (1, 1)]) (zs := [.int .i64 (0), .slice none 0 0]) (by kernel_rfl) (by kernel_rfl) rfl rfl rfl) ?_
 refine r_op (o_alloc 3 (zs := [.int .i64 (0), .slice none 0 0]) rfl rfl (by kernel_rfl) rfl) ?_
 refine r_op (oS 2) ?_
 refine r_end ?_
 refine t_seq ?_
 refine t_block ?_
 refine gt_nilb 4 (b := 3) (o := 1) (et := 3) (sz := 1) true encI rfl rfl rfl ?_
 refine t_loopL (fun (ts, i3, h3) => ⟨[(0, some (.c (.ptr 0 0))), (1, some (.c (.t none (.v (.int .i64 (r)))))), (2, some (.c (.t none (.v (.int .i64 (n)))))), (6, some (.c (.ptr 1 0))), (7, some (.c (.own 2))), (8, some (.c (.ptr 3 0)))], [(0, some (.pbox (v0) [.t none (.sl 1 encU (code)), .t none (.v (.int .i64 (i3))), .t none (.v (.int .i64 (h3)))])), (1, some (.box [.t none (.v (.int .i64 (0))), .t none (.v (.slice none 0 0))])), (2, some (.row none 94 true 3 (enS3 encS encI encB) (sigs5))), (3, some (.box [.t none (.v (.int .i64 (r))), .own 4])), (4, some (.row none 3 true 1 encI (ts)))], 5⟩ : List Int × Int × Int → St) (fun (ts, i3, h3) => ((ts.length : Int) ≤ arS r) ∧ (∀ x ∈ ts, -256 ≤ x ∧ x ≤ 2) ∧ (0 ≤ i3 ∧ i3 ≤ code.length)) (fun (ts, i3, h3) => 2 - ts.length) ([], i, h) ⟨⟨rfl, ⟨rfl, ⟨rfl, ⟨rfl, ⟨rfl, ⟨rfl, trivial⟩⟩⟩⟩⟩⟩, ⟨rfl, ⟨rfl, ⟨rfl, ⟨rfl, ⟨rfl, trivial⟩⟩⟩⟩⟩, rfl⟩ (by exact ⟨by simp; omega, fun x hx => by simp at hx, by omega⟩) ?_
 rintro ⟨ts, i3, h3⟩ hI ih0
 try dsimp only at hI ih0
 obtain ⟨j1, j2, j3⟩ := hI
 refine t_seq ?_
 refine t_seq ?_
 refine t_draw (fun _ => true) (by kernel_rfl) ?_
 refine dT 0 rfl (pF 1) ?_
 refine dT 1 rfl pL ?_
 refine dT 2 rfl (p_leno rfl rfl rfl) ?_
 refine dT 3 rfl pM ?_
 refine dT 4 rfl pM ?_
 obtain ⟨z1, hz2, b3⟩ := at_get (xs := sigs5) (n := r) (by omega) (by (rw [sigs5_len]; omega))
 refine dT 5 rfl (p_indexo (by kernel_rfl) rfl rfl rfl b3 (at_lt b3 hz2)) ?_
 refine dT 6 rfl (p_fieldo (off := 1) (by kernel_rfl) rfl) ?_
 refine dT 7 rfl (p_load1o (by kernel_rfl) rfl rfl rfl hz2) ?_
 refine dT 8 rfl pB ?_
 refine d_end (by kernel_rfl) ?_
 refine t_cond rfl (fun h4 => ?_) (fun h4 => ?_)
 ·
  have h4' := of_decide_eq_true h4
  refine t_skip ?_
  refine t_block ?_
  refine t_draw (fun i => !(Nat.beq i 4 || Nat.beq i 6 || Nat.beq i 8)) (by kernel_rfl) ?_
  refine d_takeP 0 rfl rfl (by kernel_rfl) (by kernel_rfl) (by kernel_rfl) (pw_fieldb (off := 1) (by kernel_rfl) rfl) ?_
  refine dT 2 rfl pM ?_
  refine dT 3 rfl pM ?_
  refine d_twoX 1 4 rfl rfl (by kernel_rfl) rfl rfl (osX oL) (o_callGM 0 5 6 (pv := some (v0)) (Go.Proofs.enters_of Tryz.func171 (by kernel_rfl) rfl) (c_spec_l4Value (code) (i3) (h3) (n) (by omega) (by omega) (by omega) (by omega) (by omega)) rfl rfl (.cur rfl (.cons rfl .nil)) rfl (fun ⟨_, _, _⟩ => rfl) (fun _ => rfl) (fun ⟨_, _, _⟩ => rfl) rfl rfl) ?_ ?_
  ·
   rintro ⟨⟩
   refine dOX 4 rfl (o_callGM 0 5 6 (pv := some (v0)) (Go.Proofs.enters_of Tryz.func171 (by kernel_rfl) rfl) (c_spec_l4Value (code) (i3) (h3) (n) (by omega) (by omega) (by omega) (by omega) (by omega)) rfl rfl (.cur rfl (.cons rfl .nil)) rfl (fun ⟨_, _, _⟩ => rfl) (fun _ => rfl) (fun ⟨_, _, _⟩ => rfl) rfl rfl) ?_
   rintro ⟨⟨x11, i212, h213⟩, hq14⟩
   try dsimp only at hq14
   try dsimp only
   obtain ⟨q15, q16⟩ := hq14
   refine dO 5 rfl (o_litS 6 (e := 3) (sz := 1) (zs := [.int .i64 (0)]) rfl rfl (by kernel_rfl) rfl rfl rfl rfl rfl) ?_
   refine dO 6 rfl (o_append 4 (e := 3) (sz := 1) (by' := 8) ((x11)) rfl (by kernel_rfl) rfl rfl rfl rfl rfl rfl (.cons .sc .nil) rfl (by omega) (by omega)) ?_
   refine dT 7 rfl (pF 1) ?_
   refine dO 8 rfl (oS 1) ?_
   refine d_end (by kernel_rfl) ?_
   refine t_endblock ?_
   have sg := sig_at hz2
   refine t_le ?_ (ih0 (ts ++ [(x11)], (i212), (h213)) (by (try dsimp only); (simp; omega)) (by (try dsimp only); exact ⟨by (simp only [List.length_append, List.length_singleton]; omega), mem_snoc j2 (by assumption), by omega⟩))
   exact ⟨⟨rfl, ⟨rfl, ⟨rfl, ⟨rfl, ⟨rfl, ⟨rfl, trivial⟩⟩⟩⟩⟩⟩, ⟨rfl, ⟨rfl, ⟨rfl, ⟨rfl, ⟨rfl, trivial⟩⟩⟩⟩⟩, rfl⟩
  ·
   rintro ⟨⟨x5, i26, h27⟩, hq8⟩
   try dsimp only at hq8
   try dsimp only
   obtain ⟨q9, q10⟩ := hq8
   refine dT 1 rfl pL ?_
   refine dO 5 rfl (o_litS 6 (e := 3) (sz := 1) (zs := [.int .i64 (0)]) rfl rfl (by kernel_rfl) rfl rfl rfl rfl rfl) ?_
   refine dO 6 rfl (o_append 4 (e := 3) (sz := 1) (by' := 8) ((x5)) rfl (by kernel_rfl) rfl rfl rfl rfl rfl rfl (.cons .sc .nil) rfl (by omega) (by omega)) ?_
   refine dT 7 rfl (pF 1) ?_
   refine dO 8 rfl (oS 1) ?_
   refine d_end (by kernel_rfl) ?_
   refine t_endblock ?_
   have sg := sig_at hz2
   refine t_le ?_ (ih0 (ts ++ [(x5)], (i26), (h27)) (by (try dsimp only); (simp; omega)) (by (try dsimp only); exact ⟨by (simp only [List.length_append, List.length_singleton]; omega), mem_snoc j2 (by assumption), by omega⟩))
   exact ⟨⟨rfl, ⟨rfl, ⟨rfl, ⟨rfl, ⟨rfl, ⟨rfl, trivial⟩⟩⟩⟩⟩⟩, ⟨rfl, ⟨rfl, ⟨rfl, ⟨rfl, ⟨rfl, trivial⟩⟩⟩⟩⟩, rfl⟩
 ·
  have h4' := of_decide_eq_false h4
  refine t_exit rfl ?_
  refine tsr ?_
  refine r_op (oC 2) ?_
  refine r_op (oS 2) ?_
  refine r_end ?_
  refine t_ret Tryz.func134 (.cells (n := 2) (by kernel_rfl) (by kernel_rfl) rfl rfl rfl .nil) rfl fun E S w u hI hd => ?_
  refine post_mkG (⟨ts, i3, h3⟩) ?_ hI hd ?_ ⟨rfl, ⟨rfl, trivial⟩⟩ rfl rfl <;> clear hI hd <;> (try clear ih0)
  · (try dsimp only) <;> ((have sg := sig_at hz2); exact ⟨by omega, j2, by omega⟩)
  · rfl
set_option maxHeartbeats 1000000 in
set_option maxRecDepth 10000 in
theorem c_spec_l4Ints (a b : List Int) (ha : a.length ≤ 4611686018427387904) (hb : b.length ≤ 4611686018427387904) : Pu Tryz.prog 56 [.c (.t none (.sl 1 encI (a))), .c (.t none (.sl 1 encI (b)))] [] 0 (.c (.t none (.v (.int .i64 (cmpL a b))))) := by
 refine pu_enter Tryz.func56 rfl (Nat.le_of_ble_eq_true rfl) fun w S => ?_
 refine tsr ?_
 refine r_op oA ?_
 refine r_end ?_
 refine t_seq ?_
 refine tsr ?_
 refine r_op oA ?_
 refine r_end ?_
 refine t_block ?_
 refine t_loopL (fun m => ⟨[(0, some (.c (.t none (.sl 1 encI (a))))), (1, some (.c (.t none (.sl 1 encI (b))))), (5, some (.c (.t none (.v (.int .i64 ((m : Int)))))))], [], 0⟩ : Nat → St) (fun m => m ≤ a.length ∧ m ≤ b.length ∧ a.take m = b.take m) (fun m => a.length - m) 0 ⟨⟨rfl, ⟨rfl, ⟨rfl, trivial⟩⟩⟩, trivial, rfl⟩ (by exact ⟨Nat.zero_le _, Nat.zero_le _, rfl⟩) ?_
 rintro m hI ih0
 try dsimp only at hI ih0
 obtain ⟨i1, i2, i3⟩ := hI
 refine t_seq ?_
 refine tsr ?_
 refine r_op oM ?_
 refine r_op oM ?_
 refine r_op (o_len rfl rfl rfl) ?_
 refine r_op oB ?_
 refine r_op oM ?_
 refine r_guard rfl rfl rfl (fun g1 => ?_) (fun g1 => ?_)
 ·
  have g1' := of_decide_eq_true g1
  refine r_op oM ?_
  refine r_guard rfl rfl rfl (fun _ => ?_) (nc g1)
  refine r_op oM ?_
  refine r_guard rfl rfl rfl (fun _ => ?_) (nc g1)
  refine r_op (o_len rfl rfl rfl) ?_
  refine r_guard rfl rfl rfl (fun _ => ?_) (nc g1)
  refine r_op oB ?_
  refine r_op (o_pickT rfl rfl g1 rfl) ?_
  refine r_end ?_
  refine t_cond rfl (fun h2 => ?_) (fun h2 => ?_)
  ·
   have h2' := of_decide_eq_true h2
   refine t_skip ?_
   refine t_seq ?_
   refine t_block ?_
   refine t_seq ?_
   refine t_seq ?_
   refine t_draw (fun _ => true) (by kernel_rfl) ?_
   refine dT 0 rfl pM ?_
   refine dT 1 rfl pM ?_
   obtain ⟨z3, hz4, b5⟩ := at_get (xs := a) (n := (m : Int)) (by omega) (by omega)
   refine dT 2 rfl (p_index (by kernel_rfl) rfl rfl b5 hz4) ?_
   refine dT 3 rfl (p_load1 (by kernel_rfl) rfl rfl) ?_
   refine dT 4 rfl pM ?_
   refine dT 5 rfl pM ?_
   obtain ⟨z6, hz7, b8⟩ := at_get (xs := b) (n := (m : Int)) (by omega) (by omega)
   refine dT 6 rfl (p_index (by kernel_rfl) rfl rfl b8 hz7) ?_
   refine dT 7 rfl (p_load1 (by kernel_rfl) rfl rfl) ?_
   refine dT 8 rfl pB ?_
   refine d_end (by kernel_rfl) ?_
   refine t_cond rfl (fun h9 => ?_) (fun h9 => ?_)
   ·
    have h9' := of_decide_eq_true h9
    refine tsr ?_
    refine r_op oA ?_
    refine r_end ?_
    refine t_ret Tryz.func56 (.tmp rfl .nil) rfl fun E S w u hI hd => ?_
    refine post_mk hI hd ?_ trivial rfl rfl rfl <;> clear hI hd <;> (try clear ih0)
    all_goals (refine scI ?_; (rw [(cmpL_at i3 (by assumption) (by assumption)).1 (by omega)]; done))
   ·
    have h9' := of_decide_eq_false h9
    refine t_skip ?_
    refine t_seq ?_
    refine t_draw (fun _ => true) (by kernel_rfl) ?_
    refine dT 0 rfl pM ?_
    refine dT 1 rfl pM ?_
    refine dT 2 rfl (p_index (by kernel_rfl) rfl rfl b5 hz4) ?_
    refine dT 3 rfl (p_load1 (by kernel_rfl) rfl rfl) ?_
    refine dT 4 rfl pM ?_
    refine dT 5 rfl pM ?_
    refine dT 6 rfl (p_index (by kernel_rfl) rfl rfl b8 hz7) ?_
    refine dT 7 rfl (p_load1 (by kernel_rfl) rfl rfl) ?_
    refine dT 8 rfl pB ?_
    refine d_end (by kernel_rfl) ?_
    refine t_cond rfl (fun h10 => ?_) (fun h10 => ?_)
    ·
     have h10' := of_decide_eq_true h10
     refine tsr ?_
     refine r_op oA ?_
     refine r_end ?_
     refine t_ret Tryz.func56 (.tmp rfl .nil) rfl fun E S w u hI hd => ?_
     refine post_mk hI hd ?_ trivial rfl rfl rfl <;> clear hI hd <;> (try clear ih0)
     all_goals (refine scI ?_; (rw [(cmpL_at i3 (by assumption) (by assumption)).2 (by omega)]; done))
    ·
     have h10' := of_decide_eq_false h10
     refine t_skip ?_
     refine t_endblock ?_
     refine t_region ?_
     refine r_op oM ?_
     refine r_op oB ?_
     refine r_op oA ?_
     refine r_end ?_
     refine t_le ?_ (ih0 (m + 1) (by (try dsimp only); omega) (by (try dsimp only); exact ⟨by omega, by omega, take_same i3 (same_at (by assumption) (by assumption) (by omega))⟩))
     exact ⟨⟨rfl, ⟨rfl, ⟨(eqI (wr64 (by omega) (by omega))), trivial⟩⟩⟩, trivial, rfl⟩
  ·
   have h2' := of_decide_eq_false h2
   refine t_exit rfl ?_
   refine t_seq ?_
   refine tsr ?_
   refine r_op oM ?_
   refine r_op (o_len rfl rfl rfl) ?_
   refine r_op oM ?_
   refine r_op (o_len rfl rfl rfl) ?_
   refine r_op oB ?_
   refine r_end ?_
   refine t_cond rfl (fun h11 => ?_) (fun h11 => ?_)
   ·
    have h11' := of_decide_eq_true h11
    refine tsr ?_
    refine r_op oA ?_
    refine r_end ?_
    refine t_ret Tryz.func56 (.tmp rfl .nil) rfl fun E S w u hI hd => ?_
    refine post_mk hI hd ?_ trivial rfl rfl rfl <;> clear hI hd <;> (try clear ih0)
    all_goals (refine scI ?_; (rw [(cmpL_end i3 i1 i2).1 (by omega) (by omega)]; done))
   ·
    have h11' := of_decide_eq_false h11
    refine t_skip ?_
    refine t_seq ?_
    refine tsr ?_
    refine r_op oM ?_
    refine r_op (o_len rfl rfl rfl) ?_
    refine r_op oM ?_
    refine r_op (o_len rfl rfl rfl) ?_
    refine r_op oB ?_
    refine r_end ?_
    refine t_cond rfl (fun h12 => ?_) (fun h12 => ?_)
    ·
     have h12' := of_decide_eq_true h12
     refine tsr ?_
     refine r_op oA ?_
     refine r_end ?_
     refine t_ret Tryz.func56 (.tmp rfl .nil) rfl fun E S w u hI hd => ?_
     refine post_mk hI hd ?_ trivial rfl rfl rfl <;> clear hI hd <;> (try clear ih0)
     all_goals (refine scI ?_; (rw [(cmpL_end i3 i1 i2).2.1 (by omega) (by omega)]; done))
    ·
     have h12' := of_decide_eq_false h12
     refine t_skip ?_
     refine tsr ?_
     refine r_op oA ?_
     refine r_end ?_
     refine t_ret Tryz.func56 (.tmp rfl .nil) rfl fun E S w u hI hd => ?_
     refine post_mk hI hd ?_ trivial rfl rfl rfl <;> clear hI hd <;> (try clear ih0)
     all_goals (refine scI ?_; (rw [(cmpL_end i3 i1 i2).2.2 (by omega) (by omega)]; done))
 ·
  have g1' := of_decide_eq_false g1
  refine r_guard rfl rfl rfl (ncf g1) (fun _ => ?_)
  refine r_guard rfl rfl rfl (ncf g1) (fun _ => ?_)
  refine r_guard rfl rfl rfl (ncf g1) (fun _ => ?_)
  refine r_op (o_pickF rfl rfl g1 rfl) ?_
  refine r_end ?_
  refine t_cond rfl (ncf rfl) (fun _ => ?_)
  refine t_exit rfl ?_
  refine t_seq ?_
  refine tsr ?_
  refine r_op oM ?_
  refine r_op (o_len rfl rfl rfl) ?_
  refine r_op oM ?_
  refine r_op (o_len rfl rfl rfl) ?_
  refine r_op oB ?_
  refine r_end ?_
  refine t_cond rfl (fun h13 => ?_) (fun h13 => ?_)
  ·
   have h13' := of_decide_eq_true h13
   refine tsr ?_
   refine r_op oA ?_
   refine r_end ?_
   refine t_ret Tryz.func56 (.tmp rfl .nil) rfl fun E S w u hI hd => ?_
   refine post_mk hI hd ?_ trivial rfl rfl rfl <;> clear hI hd <;> (try clear ih0)
   all_goals (refine scI ?_; (rw [(cmpL_end i3 i1 i2).1 (by omega) (by omega)]; done))
  ·
   have h13' := of_decide_eq_false h13
   refine t_skip ?_
   refine t_seq ?_
   refine tsr ?_
   refine r_op oM ?_
   refine r_op (o_len rfl rfl rfl) ?_
   refine r_op oM ?_
   refine r_op (o_len rfl rfl rfl) ?_
   refine r_op oB ?_
   refine r_end ?_
   refine t_cond rfl (fun h14 => ?_) (fun h14 => ?_)
   ·
    have h14' := of_decide_eq_true h14
    refine tsr ?_
    refine r_op oA ?_
    refine r_end ?_
    refine t_ret Tryz.func56 (.tmp rfl .nil) rfl fun E S w u hI hd => ?_
    refine post_mk hI hd ?_ trivial rfl rfl rfl <;> clear hI hd <;> (try clear ih0)
    all_goals (refine scI ?_; (rw [(cmpL_end i3 i1 i2).2.1 (by omega) (by omega)]; done))
   ·
    have h14' := of_decide_eq_false h14
    refine t_skip ?_
    refine tsr ?_
    refine r_op oA ?_
    refine r_end ?_
    refine t_ret Tryz.func56 (.tmp rfl .nil) rfl fun E S w u hI hd => ?_
    refine post_mk hI hd ?_ trivial rfl rfl rfl <;> clear hI hd <;> (try clear ih0)
    all_goals (refine scI ?_; (rw [(cmpL_end i3 i1 i2).2.2 (by omega) (by omega)]; done))
set_option maxHeartbeats 1000000 in
set_option maxRecDepth 10000 in
theorem c_spec_CompareFacts (r : Int) (l : List Int) (r2 : Int) (l2 : List Int) (hl : l.length ≤ 1048576) (hl2 : l2.length ≤ 1048576) : Pu Tryz.prog 20 [.agg [.t none (.v (.int .i64 (r))), .t none (.sl 1 encI (l))], .agg [.t none (.v (.int .i64 (r2))), .t none (.sl 1 encI (l2))]] [] 0 (.c (.t none (.v (.int .i64 (cmpF (r, l) (r2, l2)))))) := by
 refine pu_enter Tryz.func20 rfl (Nat.le_of_ble_eq_true rfl) fun w S => ?_
 refine tsr ?_
 refine r_op (o_box 0 rfl rfl rfl rfl) ?_
 refine r_op (o_box 1 rfl rfl rfl rfl) ?_
 refine r_op oA ?_
 refine r_end ?_
 refine t_seq ?_
 refine tsr ?_
 refine r_op (oF 0) ?_
 refine r_op oL ?_
 refine r_op (oF 0) ?_
 refine r_op oL ?_
 refine r_op oB ?_
 refine r_end ?_
 refine t_cond rfl (fun h1 => ?_) (fun h1 => ?_)
 ·
  have h1' := of_decide_eq_true h1
  refine tsr ?_
  refine r_op oA ?_
  refine r_end ?_
  refine t_ret Tryz.func20 (.tmp rfl .nil) rfl fun E S w u hI hd => ?_
  refine post_mk hI hd ?_ trivial rfl rfl rfl <;> clear hI hd
  all_goals (refine scI ?_; unfold cmpF; (rw [if_pos (by assumption)]; done))
 ·
  have h1' := of_decide_eq_false h1
  refine t_skip ?_
  refine t_seq ?_
  refine tsr ?_
  refine r_op (oF 0) ?_
  refine r_op oL ?_
  refine r_op (oF 0) ?_
  refine r_op oL ?_
  refine r_op oB ?_
  refine r_end ?_
  refine t_cond rfl (fun h2 => ?_) (fun h2 => ?_)
  ·
   have h2' := of_decide_eq_true h2
   refine tsr ?_
   refine r_op oA ?_
   refine r_end ?_
   refine t_ret Tryz.func20 (.tmp rfl .nil) rfl fun E S w u hI hd => ?_
   refine post_mk hI hd ?_ trivial rfl rfl rfl <;> clear hI hd
   all_goals (refine scI ?_; unfold cmpF; (rw [if_neg (by assumption), if_pos (by assumption)]; done))
  ·
   have h2' := of_decide_eq_false h2
   refine t_skip ?_
   refine tsr ?_
   refine r_op (oF 1) ?_
   refine r_op oL ?_
   refine r_op (oF 1) ?_
   refine r_op oL ?_
   refine r_op (o_call 2 2 false (Go.Proofs.enters_of Tryz.func56 (by kernel_rfl) rfl) (c_spec_l4Ints (l) (l2) (by omega) (by omega)) rfl (.cons rfl (.c .t0) (.cons rfl (.c .t0) .nil)) rfl rfl rfl) ?_
   refine r_op oA ?_
   refine r_end ?_
   refine t_ret Tryz.func20 (.tmp rfl .nil) rfl fun E S w u hI hd => ?_
   refine post_mk hI hd ?_ trivial rfl rfl rfl <;> clear hI hd
   all_goals (refine scI ?_; unfold cmpF; (rw [if_neg (by assumption), if_neg (by assumption)]; done))
set_option maxHeartbeats 1000000 in
set_option maxRecDepth 10000 in
theorem c_spec_l5Place (rs : Rels) (fs : Atoms) (r : Int) (ts : List Int) (hfs : szS (fun (x : Int × (List (Int))) => (x.2).length) fs ≤ 1048576) (hts : ts.length ≤ 1048576) : Pu Tryz.prog 71 [.agg [.t none (.sl 3 (enS3 encS encI encB) (rs)), .t none (.sl 2 (enS2 encI (enSl 1 encI)) (fs))], .agg [.t none (.v (.int .i64 (r))), .t none (.sl 1 encI (ts))]] [] 0 (.c (.t none (.v (.int .i64 (idxI (fun x => decide (cmpF x (r, ts) = 0)) fs))))) := by
 refine pu_enter Tryz.func71 rfl (Nat.le_of_ble_eq_true rfl) fun w S => ?_
 have gl := sz_len (f := (fun (x : Int × (List (Int))) => (x.2).length)) (l := fs)
 refine tsr ?_
 refine r_op (o_box 0 rfl rfl rfl rfl) ?_
 refine r_op (o_box 1 rfl rfl rfl rfl) ?_
 refine r_op oA ?_
 refine r_end ?_
 refine t_seq ?_
 refine tsr ?_
 refine r_op oA ?_
 refine r_end ?_
 refine t_block ?_
 refine t_loopL (fun m => ⟨[(2, some (.c (.ptr 0 0))), (3, some (.c (.ptr 1 0))), (5, some (.c (.t none (.v (.int .i64 ((m : Int)))))))], [(0, some (.box [.t none (.sl 3 (enS3 encS encI encB) (rs)), .t none (.sl 2 (enS2 encI (enSl 1 encI)) (fs))])), (1, some (.box [.t none (.v (.int .i64 (r))), .t none (.sl 1 encI (ts))]))], 2⟩ : Nat → St) (fun m => m ≤ fs.length ∧ ∀ j z, j < m → fs[j]? = some z → (fun x => decide (cmpF x (r, ts) = 0)) z = false) (fun m => fs.length - m) 0 ⟨⟨rfl, ⟨rfl, ⟨rfl, trivial⟩⟩⟩, ⟨rfl, ⟨rfl, trivial⟩⟩, rfl⟩ (by exact ⟨Nat.zero_le _, fun j z h => by omega⟩) ?_
 rintro m hI ih0
 try dsimp only at hI ih0
 obtain ⟨i1, i2⟩ := hI
 refine t_seq ?_
 refine tsr ?_
 refine r_op oM ?_
 refine r_op (oF 1) ?_
 refine r_op oL ?_
 refine r_op (o_len rfl rfl rfl) ?_
 refine r_op oB ?_
 refine r_end ?_
 refine t_cond rfl (fun h1 => ?_) (fun h1 => ?_)
 ·
  have h1' := of_decide_eq_true h1
  refine t_skip ?_
  refine t_seq ?_
  refine t_block ?_
  refine t_seq ?_
  refine t_draw (fun _ => true) (by kernel_rfl) ?_
  refine dT 0 rfl (pF 1) ?_
  refine dT 1 rfl pL ?_
  refine dT 2 rfl pM ?_
  obtain ⟨z2, hz3, b4⟩ := at_get (xs := fs) (n := (m : Int)) (by omega) (by omega)
  refine dT 3 rfl (p_index (by kernel_rfl) rfl rfl b4 hz3) ?_
  refine dT 4 rfl (p_loadA (n := 2) (by kernel_rfl) (by kernel_rfl) rfl rfl) ?_
  refine dT 5 rfl (pC 2) ?_
  refine dO 6 rfl (o_call 2 2 false (Go.Proofs.enters_of Tryz.func20 (by kernel_rfl) rfl) (c_spec_CompareFacts (z2.1) (z2.2) (r) (ts) (by (have e1 := sz_at (f := (fun (x : Int × (List (Int))) => (x.2).length)) (l := fs) (m := m) (by assumption); (try dsimp only at e1); omega)) (by omega)) rfl (.cons rfl (.agg (.cons .t0 (.cons .t0 .nil))) (.cons rfl (.agg (.cons .t0 (.cons .t0 .nil))) .nil)) rfl rfl rfl) ?_
  refine dT 7 rfl pB ?_
  refine d_end (by kernel_rfl) ?_
  refine t_cond rfl (fun h5 => ?_) (fun h5 => ?_)
  ·
   have h5' := of_decide_eq_true h5
   refine tsr ?_
   refine r_op oM ?_
   refine r_op oA ?_
   refine r_end ?_
   refine t_ret Tryz.func71 (.tmp rfl .nil) rfl fun E S w u hI hd => ?_
   refine post_mk hI hd ?_ trivial rfl rfl rfl <;> clear hI hd <;> (try clear ih0)
   all_goals (rw [idx_hit i2 (by assumption) (by assumption)])
  ·
   have h5' := of_decide_eq_false h5
   refine t_skip ?_
   refine t_endblock ?_
   refine t_region ?_
   refine r_op oM ?_
   refine r_op oB ?_
   refine r_op oA ?_
   refine r_end ?_
   refine t_le ?_ (ih0 (m + 1) (by (try dsimp only); omega) (by (try dsimp only); exact ⟨by omega, no_step i2 (by assumption) rfl (by assumption)⟩))
   exact ⟨⟨rfl, ⟨rfl, ⟨(eqI (wr64 (by omega) (by omega))), trivial⟩⟩⟩, ⟨rfl, ⟨rfl, trivial⟩⟩, rfl⟩
 ·
  have h1' := of_decide_eq_false h1
  refine t_exit rfl ?_
  refine tsr ?_
  refine r_op oA ?_
  refine r_end ?_
  refine t_ret Tryz.func71 (.tmp rfl .nil) rfl fun E S w u hI hd => ?_
  refine post_mk hI hd ?_ trivial rfl rfl rfl <;> clear hI hd <;> (try clear ih0)
  all_goals (rw [idx_none i2 (by omega)])
set_option maxHeartbeats 1000000 in
set_option maxRecDepth 10000 in
theorem c_spec_l5Fact (r : Int) (ts : List Int) (hl : ts.length ≤ 1048576) : Pu Tryz.prog 132 [.agg [.t none (.v (.int .i64 (r))), .t none (.sl 1 encI (ts))]] [(2, some (.row none 3 true 1 encI (ts)))] 3 (.agg [.t none (.v (.int .i64 (r))), .own 2]) := by
 refine pu_enter Tryz.func132 rfl (Nat.le_of_ble_eq_true rfl) fun w S => ?_
 refine tsr ?_
 refine r_op (o_box 0 rfl rfl rfl rfl) ?_
 refine r_op (o_alloc 1 (zs := [.int .i64 (0), .slice none 0 0]) rfl rfl (by kernel_rfl) rfl) ?_
 refine r_end ?_
 refine t_seq ?_
 refine t_draw (fun i => !(Nat.beq i 5 || Nat.beq i 7)) (by kernel_rfl) ?_
 refine dT 3 rfl (pF 1) ?_
 refine dT 4 rfl pL ?_
 refine d_two 0 2 rfl rfl (by kernel_rfl) rfl rfl (oF 0) (o_lit0 2 (e := 3) (sz := 1) (zs := [.int .i64 (0)]) encI rfl rfl (by kernel_rfl) rfl) ?_ ?_
 ·
  refine d_two 1 2 rfl rfl (by kernel_rfl) rfl rfl oL (o_lit0 2 (e := 3) (sz := 1) (zs := [.int .i64 (0)]) encI rfl rfl (by kernel_rfl) rfl) ?_ ?_
  ·
   refine dO 2 rfl (o_lit0 2 (e := 3) (sz := 1) (zs := [.int .i64 (0)]) encI rfl rfl (by kernel_rfl) rfl) ?_
   refine dO 5 rfl (o_appendS 2 (e := 3) (sz := 1) (by' := 8) rfl (by kernel_rfl) rfl rfl rfl rfl (fun _ _ => ⟨_, rfl⟩) (by (simp; omega)) (by (simp; omega))) ?_
   refine dT 6 rfl (p_build (pl := [(0, 1), (1, 1)]) (zs := [.int .i64 (0), .slice none 0 0]) (by kernel_rfl) (by kernel_rfl) rfl rfl rfl) ?_
   refine dO 7 rfl (oS 2) ?_
   refine d_end (by kernel_rfl) ?_
   refine t_ret Tryz.func132 (.cells (n := 2) (by kernel_rfl) (by kernel_rfl) rfl rfl rfl .nil) rfl fun E S w u hI hd => ?_
   refine post_mk hI hd ?_ ⟨eqR ?_, trivial⟩ rfl rfl rfl <;> clear hI hd
   all_goals (rfl)
  ·
   refine d_two 1 5 rfl rfl (by kernel_rfl) rfl rfl oL (o_appendS 2 (e := 3) (sz := 1) (by' := 8) rfl (by kernel_rfl) rfl rfl rfl rfl (fun _ _ => ⟨_, rfl⟩) (by (simp; omega)) (by (simp; omega))) ?_ ?_
   ·
    refine dO 5 rfl (o_appendS 2 (e := 3) (sz := 1) (by' := 8) rfl (by kernel_rfl) rfl rfl rfl rfl (fun _ _ => ⟨_, rfl⟩) (by (simp; omega)) (by (simp; omega))) ?_
    refine dT 6 rfl (p_build (pl := [(0, 1), (1, 1)]) (zs := [.int .i64 (0), .slice none 0 0]) (by kernel_rfl) (by kernel_rfl) rfl rfl rfl) ?_
    refine dO 7 rfl (oS 2) ?_
    refine d_end (by kernel_rfl) ?_
    refine t_ret Tryz.func132 (.cells (n := 2) (by kernel_rfl) (by kernel_rfl) rfl rfl rfl .nil) rfl fun E S w u hI hd => ?_
    refine post_mk hI hd ?_ ⟨eqR ?_, trivial⟩ rfl rfl rfl <;> clear hI hd
    all_goals (rfl)
   ·
    refine dT 1 rfl pL ?_
    refine dT 6 rfl (p_build (pl := [(0, 1), (1, 1)]) (zs := [.int .i64 (0), .slice none 0 0]) (by kernel_rfl) (by kernel_rfl) rfl rfl rfl) ?_
    refine dO 7 rfl (oS 2) ?_
    refine d_end (by kernel_rfl) ?_
    refine t_ret Tryz.func132 (.cells (n := 2) (by kernel_rfl) (by kernel_rfl) rfl rfl rfl .nil) rfl fun E S w u hI hd => ?_
    refine post_mk hI hd ?_ ⟨eqR ?_, trivial⟩ rfl rfl rfl <;> clear hI hd
    all_goals (rfl)
 ·
  refine d_two 0 5 rfl rfl (by kernel_rfl) rfl rfl (oF 0) (o_appendS 2 (e := 3) (sz := 1) (by' := 8) rfl (by kernel_rfl) rfl rfl rfl rfl (fun _ _ => ⟨_, rfl⟩) (by (simp; omega)) (by (simp; omega))) ?_ ?_
  ·
   refine d_two 1 5 rfl rfl (by kernel_rfl) rfl rfl oL (o_appendS 2 (e := 3) (sz := 1) (by' := 8) rfl (by kernel_rfl) rfl rfl rfl rfl (fun _ _ => ⟨_, rfl⟩) (by (simp; omega)) (by (simp; omega))) ?_ ?_
   ·
    refine dO 5 rfl (o_appendS 2 (e := 3) (sz := 1) (by' := 8) rfl (by kernel_rfl) rfl rfl rfl rfl (fun _ _ => ⟨_, rfl⟩) (by (simp; omega)) (by (simp; omega))) ?_
    refine dT 6 rfl (p_build (pl := [(0, 1), (1, 1)]) (zs := [.int .i64 (0), .slice none 0 0]) (by kernel_rfl) (by kernel_rfl) rfl rfl rfl) ?_
    refine dO 7 rfl (oS 2) ?_
    refine d_end (by kernel_rfl) ?_
    refine t_ret Tryz.func132 (.cells (n := 2) (by kernel_rfl) (by kernel_rfl) rfl rfl rfl .nil) rfl fun E S w u hI hd => ?_
    refine post_mk hI hd ?_ ⟨eqR ?_, trivial⟩ rfl rfl rfl <;> clear hI hd
    all_goals (rfl)
   ·
    refine dT 1 rfl pL ?_
    refine dT 6 rfl (p_build (pl := [(0, 1), (1, 1)]) (zs := [.int .i64 (0), .slice none 0 0]) (by kernel_rfl) (by kernel_rfl) rfl rfl rfl) ?_
    refine dO 7 rfl (oS 2) ?_
    refine d_end (by kernel_rfl) ?_
    refine t_ret Tryz.func132 (.cells (n := 2) (by kernel_rfl) (by kernel_rfl) rfl rfl rfl .nil) rfl fun E S w u hI hd => ?_
    refine post_mk hI hd ?_ ⟨eqR ?_, trivial⟩ rfl rfl rfl <;> clear hI hd
    all_goals (rfl)
  ·
   refine dT 0 rfl (pF 0) ?_
   refine dT 1 rfl pL ?_
   refine dT 6 rfl (p_build (pl := [(0, 1), (1, 1)]) (zs := [.int .i64 (0), .slice none 0 0]) (by kernel_rfl) (by kernel_rfl) rfl rfl rfl) ?_
   refine dO 7 rfl (oS 2) ?_
   refine d_end (by kernel_rfl) ?_
   refine t_ret Tryz.func132 (.cells (n := 2) (by kernel_rfl) (by kernel_rfl) rfl rfl rfl .nil) rfl fun E S w u hI hd => ?_
   refine post_mk hI hd ?_ ⟨eqR ?_, trivial⟩ rfl rfl rfl <;> clear hI hd
   all_goals (rfl)
set_option maxHeartbeats 1000000 in
set_option maxRecDepth 10000 in
theorem c_spec_l5Put (rs : Rels) (fs : Atoms) (r : Int) (ts : List Int) (hfs : szS (fun (x : Int × (List (Int))) => (x.2).length) fs ≤ 1048576) (hts : ts.length ≤ 1048576) : Pu Tryz.prog 93 [.agg [.t none (.sl 3 (enS3 encS encI encB) (rs)), .t none (.sl 2 (enS2 encI (enSl 1 encI)) (fs))], .agg [.t none (.v (.int .i64 (r))), .t none (.sl 1 encI (ts))]] [] 0 (.agg [.t none (.sl 3 (enS3 encS encI encB) (rs)), .t none (.sl 2 (enS2 encI (enSl 1 encI)) (putF fs (r, ts)))]) := by
 refine pu_enter Tryz.func93 rfl (Nat.le_of_ble_eq_true rfl) fun w S => ?_
 have gl := sz_len (f := (fun (x : Int × (List (Int))) => (x.2).length)) (l := fs)
 refine tsr ?_
 refine r_op (o_box 0 rfl rfl rfl rfl) ?_
 refine r_op (o_box 1 rfl rfl rfl rfl) ?_
 refine r_op (o_alloc 2 (zs := [.slice none 0 0, .slice none 0 0]) rfl rfl (by kernel_rfl) rfl) ?_
 refine r_end ?_
 refine t_seq ?_
 refine tsr ?_
 refine r_op (oC 2) ?_
 refine r_op (oC 2) ?_
 refine r_op (o_call 3 3 false (Go.Proofs.enters_of Tryz.func71 (by kernel_rfl) rfl) (c_spec_l5Place (rs) (fs) (r) (ts) (by omega) (by omega)) rfl (.cons rfl (.agg (.cons .t0 (.cons .t0 .nil))) (.cons rfl (.agg (.cons .t0 (.cons .t0 .nil))) .nil)) rfl rfl rfl) ?_
 refine r_op oB ?_
 refine r_end ?_
 refine t_cond rfl (fun h1 => ?_) (fun h1 => ?_)
 ·
  have h1' := of_decide_eq_true h1
  refine tsr ?_
  refine r_op (oC 2) ?_
  refine r_op (oS 2) ?_
  refine r_end ?_
  refine t_ret Tryz.func93 (.cells (n := 2) (by kernel_rfl) (by kernel_rfl) rfl rfl rfl .nil) rfl fun E S w u hI hd => ?_
  refine post_mk hI hd ?_ trivial rfl rfl rfl <;> clear hI hd <;> (try clear ih0)
  all_goals (refine instE ?_ ?_ <;> first | rfl | exact (putF_there (by assumption)).symm)
 ·
  have h1' := of_decide_eq_false h1
  refine t_skip ?_
  refine tsr ?_
  refine r_op oA ?_
  refine r_end ?_
  refine t_seq ?_
  refine t_block ?_
  refine t_loopL (fun m => ⟨[(2, some (.c (.ptr 0 0))), (3, some (.c (.ptr 1 0))), (4, some (.c (.ptr 2 0))), (5, some (.c (.t none (.v (.int .i64 ((m : Int)))))))], [(0, some (.box [.t none (.sl 3 (enS3 encS encI encB) (rs)), .t none (.sl 2 (enS2 encI (enSl 1 encI)) (fs))])), (1, some (.box [.t none (.v (.int .i64 (r))), .t none (.sl 1 encI (ts))])), (2, some (.box [.t none (.v (.slice none 0 0)), .t none (.v (.slice none 0 0))]))], 3⟩ : Nat → St) (fun m => m ≤ fs.length ∧ ∀ j y, j < m → fs[j]? = some y → cmpF y (r, ts) < 0) (fun m => fs.length - m) 0 ⟨⟨rfl, ⟨rfl, ⟨rfl, ⟨rfl, trivial⟩⟩⟩⟩, ⟨rfl, ⟨rfl, ⟨rfl, trivial⟩⟩⟩, rfl⟩ (by exact ⟨Nat.zero_le _, fun j y h => by omega⟩) ?_
  rintro m hI ih0
  try dsimp only at hI ih0
  obtain ⟨i1, i2⟩ := hI
  refine t_seq ?_
  refine t_seq ?_
  refine t_draw (fun _ => true) (by kernel_rfl) ?_
  refine dT 0 rfl pM ?_
  refine dT 1 rfl (pF 1) ?_
  refine dT 2 rfl pL ?_
  refine dT 3 rfl (p_len rfl rfl) ?_
  refine dT 4 rfl pB ?_
  refine dT 5 rfl pM ?_
  refine dH 6 rfl (fun _ => pF 1) (fun g2 => ?_) (fun g2 => ?_)
  ·
   have g2' := of_decide_eq_true g2
   refine dH 7 rfl (fun _ => pL) (fun _ => ?_) (nc g2)
   refine dH 8 rfl (fun _ => pM) (fun _ => ?_) (nc g2)
   obtain ⟨z3, hz4, b5⟩ := at_get (xs := fs) (n := (m : Int)) (by omega) (by omega)
   refine dH 9 rfl (fun _ => p_index (by kernel_rfl) rfl rfl b5 hz4) (fun _ => ?_) (nc g2)
   refine dH 10 rfl (fun _ => p_loadA (n := 2) (by kernel_rfl) (by kernel_rfl) rfl rfl) (fun _ => ?_) (nc g2)
   refine dH 11 rfl (fun _ => pC 2) (fun _ => ?_) (nc g2)
   refine d_onlyG 12 rfl rfl (by kernel_rfl) rfl rfl rfl (fun _ => (o_call 3 3 false (Go.Proofs.enters_of Tryz.func20 (by kernel_rfl) rfl) (c_spec_CompareFacts (z3.1) (z3.2) (r) (ts) (by (have e1 := sz_at (f := (fun (x : Int × (List (Int))) => (x.2).length)) (l := fs) (m := m) (by assumption); (try dsimp only at e1); omega)) (by omega)) rfl (.cons rfl (.agg (.cons .t0 (.cons .t0 .nil))) (.cons rfl (.agg (.cons .t0 (.cons .t0 .nil))) .nil)) rfl rfl rfl)) (fun _ => ?_) (nc g2)
   refine dH 13 rfl (fun _ => pB) (fun _ => ?_) (nc g2)
   refine dT 14 rfl (p_pickT rfl g2 rfl) ?_
   refine d_end (by kernel_rfl) ?_
   refine t_cond rfl (fun h6 => ?_) (fun h6 => ?_)
   ·
    have h6' := of_decide_eq_true h6
    refine t_skip ?_
    refine t_block ?_
    refine t_region ?_
    refine r_op oM ?_
    refine r_op oB ?_
    refine r_op oA ?_
    refine r_end ?_
    refine t_endblock ?_
    refine t_le ?_ (ih0 (m + 1) (by (try dsimp only); omega) (by (try dsimp only); exact ⟨by omega, ltF_step i2 hz4 rfl (by assumption)⟩))
    exact ⟨⟨rfl, ⟨rfl, ⟨rfl, ⟨(eqI (wr64 (by omega) (by omega))), trivial⟩⟩⟩⟩, ⟨rfl, ⟨rfl, ⟨rfl, trivial⟩⟩⟩, rfl⟩
   ·
    have h6' := of_decide_eq_false h6
    refine t_exit rfl ?_
    refine t_seq ?_
    refine t_draw (fun i => !(Nat.beq i 7)) (by kernel_rfl) ?_
    refine dT 0 rfl (pC 2) ?_
    refine dT 3 rfl (pF 1) ?_
    refine dT 4 rfl pL ?_
    refine dT 5 rfl pM ?_
    refine dT 6 rfl (p_sub (by kernel_rfl) rfl (.l rfl (by omega) (by omega))) ?_
    refine dO 1 rfl (o_call 3 6 false (Go.Proofs.enters_of Tryz.func132 (by kernel_rfl) rfl) (c_spec_l5Fact (r) (ts) (by omega)) rfl (.cons rfl (.agg (.cons .t0 (.cons .t0 .nil))) .nil) rfl rfl rfl) ?_
    refine dO 2 rfl (o_litN 6 (e := 36) (sz := 2) (zs := [.int .i64 (0), .slice none 0 0]) (enc := (enS2 encI (enSl 1 encI))) [((r), (ts))] rfl rfl (by kernel_rfl) rfl rfl rfl rfl rfl rfl rfl rfl (.cons .sc (.take (.own rfl) rfl .nil)) rfl) ?_
    refine d_half 6 rfl (frz_pu rfl) ?_
    refine dO 7 rfl (o_appendR 6 (e := 36) (sz := 2) (by' := 32) rfl (by kernel_rfl) rfl rfl rfl rfl (by (simp only [List.length_append, List.length_take, List.length_drop, List.length_cons, List.length_nil]; omega)) (by (simp only [List.length_append, List.length_take, List.length_drop, List.length_cons, List.length_nil]; omega))) ?_
    refine dT 8 rfl pA ?_
    refine d_end (by kernel_rfl) ?_
    refine t_seq ?_
    refine t_draw (fun i => !(Nat.beq i 7 || Nat.beq i 9 || Nat.beq i 11)) (by kernel_rfl) ?_
    refine d_takeP 0 rfl rfl (by kernel_rfl) (by kernel_rfl) (by kernel_rfl) (pw_fieldb (off := 0) (by kernel_rfl) rfl) ?_
    refine dT 3 rfl (pF 1) ?_
    refine dT 4 rfl pL ?_
    refine dT 5 rfl pM ?_
    refine dT 6 rfl (p_sub (by kernel_rfl) rfl (.h rfl (by omega) (by omega))) ?_
    refine d_takeP 8 rfl rfl (by kernel_rfl) (by kernel_rfl) (by kernel_rfl) (pw_move rfl) ?_
    refine d_two 1 2 rfl rfl (by kernel_rfl) rfl rfl oL (o_lit0 7 (e := 36) (sz := 2) (zs := [.int .i64 (0), .slice none 0 0]) (enS2 encI (enSl 1 encI)) rfl rfl (by kernel_rfl) rfl) ?_ ?_
    ·
     refine dO 2 rfl (o_lit0 7 (e := 36) (sz := 2) (zs := [.int .i64 (0), .slice none 0 0]) (enS2 encI (enSl 1 encI)) rfl rfl (by kernel_rfl) rfl) ?_
     refine d_half 7 rfl (frz_pu rfl) ?_
     refine dO 7 rfl (o_appendR 7 (e := 36) (sz := 2) (by' := 32) rfl (by kernel_rfl) rfl rfl rfl rfl (by (simp only [List.length_append, List.length_take, List.length_drop, List.length_cons, List.length_nil]; omega)) (by (simp only [List.length_append, List.length_take, List.length_drop, List.length_cons, List.length_nil]; omega))) ?_
     refine d_freeze 6 rfl (frz_pu rfl) ?_
     refine dO 9 rfl (o_appendR 7 (e := 36) (sz := 2) (by' := 32) rfl (by kernel_rfl) rfl rfl rfl rfl (by (simp only [List.length_append, List.length_take, List.length_drop, List.length_cons, List.length_nil]; omega)) (by (simp only [List.length_append, List.length_take, List.length_drop, List.length_cons, List.length_nil]; omega))) ?_
     refine dT 10 rfl (p_build (pl := [(0, 1), (1, 1)]) (zs := [.slice none 0 0, .slice none 0 0]) (by kernel_rfl) (by kernel_rfl) rfl rfl rfl) ?_
     refine dO 11 rfl (oS 2) ?_
     refine d_end (by kernel_rfl) ?_
     refine gt_freeze 7 rfl (frz_pu rfl) ?_
     refine t_ret Tryz.func93 (.cells (n := 2) (by kernel_rfl) (by kernel_rfl) rfl rfl rfl .nil) rfl fun E S w u hI hd => ?_
     refine post_mk hI hd ?_ trivial rfl rfl rfl <;> clear hI hd <;> (try clear ih0)
     all_goals (refine instE ?_ ?_ <;> first | rfl | (rw [putF_new (m := m) (by assumption) i2 i1 (fun y hy => by (have e7 := Option.some.inj (hy.symm.trans hz4); subst e7; assumption))]; simp))
    ·
     refine d_half 7 rfl (frz_pu rfl) ?_
     refine d_two 1 7 rfl rfl (by kernel_rfl) rfl rfl oL (o_appendR 7 (e := 36) (sz := 2) (by' := 32) rfl (by kernel_rfl) rfl rfl rfl rfl (by (simp only [List.length_append, List.length_take, List.length_drop, List.length_cons, List.length_nil]; omega)) (by (simp only [List.length_append, List.length_take, List.length_drop, List.length_cons, List.length_nil]; omega))) ?_ ?_
     ·
      refine dO 7 rfl (o_appendR 7 (e := 36) (sz := 2) (by' := 32) rfl (by kernel_rfl) rfl rfl rfl rfl (by (simp only [List.length_append, List.length_take, List.length_drop, List.length_cons, List.length_nil]; omega)) (by (simp only [List.length_append, List.length_take, List.length_drop, List.length_cons, List.length_nil]; omega))) ?_
      refine d_freeze 6 rfl (frz_pu rfl) ?_
      refine dO 9 rfl (o_appendR 7 (e := 36) (sz := 2) (by' := 32) rfl (by kernel_rfl) rfl rfl rfl rfl (by (simp only [List.length_append, List.length_take, List.length_drop, List.length_cons, List.length_nil]; omega)) (by (simp only [List.length_append, List.length_take, List.length_drop, List.length_cons, List.length_nil]; omega))) ?_
      refine dT 10 rfl (p_build (pl := [(0, 1), (1, 1)]) (zs := [.slice none 0 0, .slice none 0 0]) (by kernel_rfl) (by kernel_rfl) rfl rfl rfl) ?_
      refine dO 11 rfl (oS 2) ?_
      refine d_end (by kernel_rfl) ?_
      refine gt_freeze 7 rfl (frz_pu rfl) ?_
      refine t_ret Tryz.func93 (.cells (n := 2) (by kernel_rfl) (by kernel_rfl) rfl rfl rfl .nil) rfl fun E S w u hI hd => ?_
      refine post_mk hI hd ?_ trivial rfl rfl rfl <;> clear hI hd <;> (try clear ih0)
      all_goals (refine instE ?_ ?_ <;> first | rfl | (rw [putF_new (m := m) (by assumption) i2 i1 (fun y hy => by (have e7 := Option.some.inj (hy.symm.trans hz4); subst e7; assumption))]; simp))
     ·
      refine d_freeze 6 rfl (frz_pu rfl) ?_
      refine d_two 1 9 rfl rfl (by kernel_rfl) rfl rfl oL (o_appendR 7 (e := 36) (sz := 2) (by' := 32) rfl (by kernel_rfl) rfl rfl rfl rfl (by (simp only [List.length_append, List.length_take, List.length_drop, List.length_cons, List.length_nil]; omega)) (by (simp only [List.length_append, List.length_take, List.length_drop, List.length_cons, List.length_nil]; omega))) ?_ ?_
      ·
       refine dO 9 rfl (o_appendR 7 (e := 36) (sz := 2) (by' := 32) rfl (by kernel_rfl) rfl rfl rfl rfl (by (simp only [List.length_append, List.length_take, List.length_drop, List.length_cons, List.length_nil]; omega)) (by (simp only [List.length_append, List.length_take, List.length_drop, List.length_cons, List.length_nil]; omega))) ?_
       refine dT 10 rfl (p_build (pl := [(0, 1), (1, 1)]) (zs := [.slice none 0 0, .slice none 0 0]) (by kernel_rfl) (by kernel_rfl) rfl rfl rfl) ?_
       refine dO 11 rfl (oS 2) ?_
       refine d_end (by kernel_rfl) ?_
       refine gt_freeze 7 rfl (frz_pu rfl) ?_
       refine t_ret Tryz.func93 (.cells (n := 2) (by kernel_rfl) (by kernel_rfl) rfl rfl rfl .nil) rfl fun E S w u hI hd => ?_
       refine post_mk hI hd ?_ trivial rfl rfl rfl <;> clear hI hd <;> (try clear ih0)
       all_goals (refine instE ?_ ?_ <;> first | rfl | (rw [putF_new (m := m) (by assumption) i2 i1 (fun y hy => by (have e7 := Option.some.inj (hy.symm.trans hz4); subst e7; assumption))]; simp))
      ·
       refine dT 1 rfl pL ?_
       refine dT 10 rfl (p_build (pl := [(0, 1), (1, 1)]) (zs := [.slice none 0 0, .slice none 0 0]) (by kernel_rfl) (by kernel_rfl) rfl rfl rfl) ?_
       refine dO 11 rfl (oS 2) ?_
       refine d_end (by kernel_rfl) ?_
       refine gt_freeze 7 rfl (frz_pu rfl) ?_
       refine t_ret Tryz.func93 (.cells (n := 2) (by kernel_rfl) (by kernel_rfl) rfl rfl rfl .nil) rfl fun E S w u hI hd => ?_
       refine post_mk hI hd ?_ trivial rfl rfl rfl <;> clear hI hd <;> (try clear ih0)
       all_goals (refine instE ?_ ?_ <;> first | rfl | (rw [putF_new (m := m) (by assumption) i2 i1 (fun y hy => by (have e7 := Option.some.inj (hy.symm.trans hz4); subst e7; assumption))]; simp))
  ·
   have g2' := of_decide_eq_false g2
   refine dG 7 (ncf g2) (fun _ => ?_)
   refine dG 8 (ncf g2) (fun _ => ?_)
   refine dG 9 (ncf g2) (fun _ => ?_)
   refine dG 10 (ncf g2) (fun _ => ?_)
   refine dG 11 (ncf g2) (fun _ => ?_)
   refine dG 12 (ncf g2) (fun _ => ?_)
   refine dG 13 (ncf g2) (fun _ => ?_)
   refine dT 14 rfl (p_pickF rfl g2 rfl) ?_
   refine d_end (by kernel_rfl) ?_
   refine t_cond rfl (ncf rfl) (fun _ => ?_)
   refine t_exit rfl ?_
   refine t_seq ?_
   refine t_draw (fun i => !(Nat.beq i 7)) (by kernel_rfl) ?_
   refine dT 0 rfl (pC 2) ?_
   refine dT 3 rfl (pF 1) ?_
   refine dT 4 rfl pL ?_
   refine dT 5 rfl pM ?_
   refine dT 6 rfl (p_sub (by kernel_rfl) rfl (.l rfl (by omega) (by omega))) ?_
   refine dO 1 rfl (o_call 3 6 false (Go.Proofs.enters_of Tryz.func132 (by kernel_rfl) rfl) (c_spec_l5Fact (r) (ts) (by omega)) rfl (.cons rfl (.agg (.cons .t0 (.cons .t0 .nil))) .nil) rfl rfl rfl) ?_
   refine dO 2 rfl (o_litN 6 (e := 36) (sz := 2) (zs := [.int .i64 (0), .slice none 0 0]) (enc := (enS2 encI (enSl 1 encI))) [((r), (ts))] rfl rfl (by kernel_rfl) rfl rfl rfl rfl rfl rfl rfl rfl (.cons .sc (.take (.own rfl) rfl .nil)) rfl) ?_
   refine d_half 6 rfl (frz_pu rfl) ?_
   refine dO 7 rfl (o_appendR 6 (e := 36) (sz := 2) (by' := 32) rfl (by kernel_rfl) rfl rfl rfl rfl (by (simp only [List.length_append, List.length_take, List.length_drop, List.length_cons, List.length_nil]; omega)) (by (simp only [List.length_append, List.length_take, List.length_drop, List.length_cons, List.length_nil]; omega))) ?_
   refine dT 8 rfl pA ?_
   refine d_end (by kernel_rfl) ?_
   refine t_seq ?_
   refine t_draw (fun i => !(Nat.beq i 7 || Nat.beq i 9 || Nat.beq i 11)) (by kernel_rfl) ?_
   refine d_takeP 0 rfl rfl (by kernel_rfl) (by kernel_rfl) (by kernel_rfl) (pw_fieldb (off := 0) (by kernel_rfl) rfl) ?_
   refine dT 3 rfl (pF 1) ?_
   refine dT 4 rfl pL ?_
   refine dT 5 rfl pM ?_
   refine dT 6 rfl (p_sub (by kernel_rfl) rfl (.h rfl (by omega) (by omega))) ?_
   refine d_takeP 8 rfl rfl (by kernel_rfl) (by kernel_rfl) (by kernel_rfl) (pw_move rfl) ?_
   refine d_two 1 2 rfl rfl (by kernel_rfl) rfl rfl oL (o_lit0 7 (e := 36) (sz := 2) (zs := [.int .i64 (0), .slice none 0 0]) (enS2 encI (enSl 1 encI)) rfl rfl (by kernel_rfl) rfl) ?_ ?_
   ·
    refine dO 2 rfl (o_lit0 7 (e := 36) (sz := 2) (zs := [.int .i64 (0), .slice none 0 0]) (enS2 encI (enSl 1 encI)) rfl rfl (by kernel_rfl) rfl) ?_
    refine d_half 7 rfl (frz_pu rfl) ?_
    refine dO 7 rfl (o_appendR 7 (e := 36) (sz := 2) (by' := 32) rfl (by kernel_rfl) rfl rfl rfl rfl (by (simp only [List.length_append, List.length_take, List.length_drop, List.length_cons, List.length_nil]; omega)) (by (simp only [List.length_append, List.length_take, List.length_drop, List.length_cons, List.length_nil]; omega))) ?_
    refine d_freeze 6 rfl (frz_pu rfl) ?_
    refine dO 9 rfl (o_appendR 7 (e := 36) (sz := 2) (by' := 32) rfl (by kernel_rfl) rfl rfl rfl rfl (by (simp only [List.length_append, List.length_take, List.length_drop, List.length_cons, List.length_nil]; omega)) (by (simp only [List.length_append, List.length_take, List.length_drop, List.length_cons, List.length_nil]; omega))) ?_
    refine dT 10 rfl (p_build (pl := [(0, 1), (1, 1)]) (zs := [.slice none 0 0, .slice none 0 0]) (by kernel_rfl) (by kernel_rfl) rfl rfl rfl) ?_
    refine dO 11 rfl (oS 2) ?_
    refine d_end (by kernel_rfl) ?_
    refine gt_freeze 7 rfl (frz_pu rfl) ?_
    refine t_ret Tryz.func93 (.cells (n := 2) (by kernel_rfl) (by kernel_rfl) rfl rfl rfl .nil) rfl fun E S w u hI hd => ?_
    refine post_mk hI hd ?_ trivial rfl rfl rfl <;> clear hI hd <;> (try clear ih0)
    all_goals (refine instE ?_ ?_ <;> first | rfl | (rw [putF_new (m := m) (by assumption) i2 i1 (fun y hy => by (have e7 := (List.getElem?_eq_some_iff.1 hy).1; omega))]; simp))
   ·
    refine d_half 7 rfl (frz_pu rfl) ?_
    refine d_two 1 7 rfl rfl (by kernel_rfl) rfl rfl oL (o_appendR 7 (e := 36) (sz := 2) (by' := 32) rfl (by kernel_rfl) rfl rfl rfl rfl (by (simp only [List.length_append, List.length_take, List.length_drop, List.length_cons, List.length_nil]; omega)) (by (simp only [List.length_append, List.length_take, List.length_drop, List.length_cons, List.length_nil]; omega))) ?_ ?_
    ·
     refine dO 7 rfl (o_appendR 7 (e := 36) (sz := 2) (by' := 32) rfl (by kernel_rfl) rfl rfl rfl rfl (by (simp only [List.length_append, List.length_take, List.length_drop, List.length_cons, List.length_nil]; omega)) (by (simp only [List.length_append, List.length_take, List.length_drop, List.length_cons, List.length_nil]; omega))) ?_
     refine d_freeze 6 rfl (frz_pu rfl) ?_
     refine dO 9 rfl (o_appendR 7 (e := 36) (sz := 2) (by' := 32) rfl (by kernel_rfl) rfl rfl rfl rfl (by (simp only [List.length_append, List.length_take, List.length_drop, List.length_cons, List.length_nil]; omega)) (by (simp only [List.length_append, List.length_take, List.length_drop, List.length_cons, List.length_nil]; omega))) ?_
     refine dT 10 rfl (p_build (pl := [(0, 1), (1, 1)]) (zs := [.slice none 0 0, .slice none 0 0]) (by kernel_rfl) (by kernel_rfl) rfl rfl rfl) ?_
     refine dO 11 rfl (oS 2) ?_
     refine d_end (by kernel_rfl) ?_
     refine gt_freeze 7 rfl (frz_pu rfl) ?_
     refine t_ret Tryz.func93 (.cells (n := 2) (by kernel_rfl) (by kernel_rfl) rfl rfl rfl .nil) rfl fun E S w u hI hd => ?_
     refine post_mk hI hd ?_ trivial rfl rfl rfl <;> clear hI hd <;> (try clear ih0)
     all_goals (refine instE ?_ ?_ <;> first | rfl | (rw [putF_new (m := m) (by assumption) i2 i1 (fun y hy => by (have e7 := (List.getElem?_eq_some_iff.1 hy).1; omega))]; simp))
    ·
     refine d_freeze 6 rfl (frz_pu rfl) ?_
     refine d_two 1 9 rfl rfl (by kernel_rfl) rfl rfl oL (o_appendR 7 (e := 36) (sz := 2) (by' := 32) rfl (by kernel_rfl) rfl rfl rfl rfl (by (simp only [List.length_append, List.length_take, List.length_drop, List.length_cons, List.length_nil]; omega)) (by (simp only [List.length_append, List.length_take, List.length_drop, List.length_cons, List.length_nil]; omega))) ?_ ?_
     ·
      refine dO 9 rfl (o_appendR 7 (e := 36) (sz := 2) (by' := 32) rfl (by kernel_rfl) rfl rfl rfl rfl (by (simp only [List.length_append, List.length_take, List.length_drop, List.length_cons, List.length_nil]; omega)) (by (simp only [List.length_append, List.length_take, List.length_drop, List.length_cons, List.length_nil]; omega))) ?_
      refine dT 10 rfl (p_build (pl := [(0, 1), (1, 1)]) (zs := [.slice none 0 0, .slice none 0 0]) (by kernel_rfl) (by kernel_rfl) rfl rfl rfl) ?_
      refine dO 11 rfl (oS 2) ?_
      refine d_end (by kernel_rfl) ?_
      refine gt_freeze 7 rfl (frz_pu rfl) ?_
      refine t_ret Tryz.func93 (.cells (n := 2) (by kernel_rfl) (by kernel_rfl) rfl rfl rfl .nil) rfl fun E S w u hI hd => ?_
      refine post_mk hI hd ?_ trivial rfl rfl rfl <;> clear hI hd <;> (try clear ih0)
      all_goals (refine instE ?_ ?_ <;> first | rfl | (rw [putF_new (m := m) (by assumption) i2 i1 (fun y hy => by (have e7 := (List.getElem?_eq_some_iff.1 hy).1; omega))]; simp))
     ·
      refine dT 1 rfl pL ?_
      refine dT 10 rfl (p_build (pl := [(0, 1), (1, 1)]) (zs := [.slice none 0 0, .slice none 0 0]) (by kernel_rfl) (by kernel_rfl) rfl rfl rfl) ?_
      refine dO 11 rfl (oS 2) ?_
      refine d_end (by kernel_rfl) ?_
      refine gt_freeze 7 rfl (frz_pu rfl) ?_
      refine t_ret Tryz.func93 (.cells (n := 2) (by kernel_rfl) (by kernel_rfl) rfl rfl rfl .nil) rfl fun E S w u hI hd => ?_
      refine post_mk hI hd ?_ trivial rfl rfl rfl <;> clear hI hd <;> (try clear ih0)
      all_goals (refine instE ?_ ?_ <;> first | rfl | (rw [putF_new (m := m) (by assumption) i2 i1 (fun y hy => by (have e7 := (List.getElem?_eq_some_iff.1 hy).1; omega))]; simp))
set_option maxHeartbeats 1000000 in
set_option maxRecDepth 10000 in
theorem c_spec_l5Copy (rs : Rels) (fs : Atoms) (hrs : rs.length ≤ 1048576) (hfs : szS (fun (x : Int × (List (Int))) => (x.2).length) fs ≤ 1048576) : Pu Tryz.prog 87 [.agg [.t none (.sl 3 (enS3 encS encI encB) (rs)), .t none (.sl 2 (enS2 encI (enSl 1 encI)) (fs))]] [(2, some (.row none 94 true 3 (enS3 encS encI encB) (rs))), (4, some (.row none 36 true 2 (enS2 encI (enSl 1 encI)) (fs)))] 5 (.agg [.own 2, .own 4]) := by
 refine pu_enter Tryz.func87 rfl (Nat.le_of_ble_eq_true rfl) fun w S => ?_
 have gl := sz_len (f := (fun (x : Int × (List (Int))) => (x.2).length)) (l := fs)
 refine tsr ?_
 refine r_op (o_box 0 rfl rfl rfl rfl) ?_
 refine r_op (o_alloc 1 (zs := [.slice none 0 0, .slice none 0 0]) rfl rfl (by kernel_rfl) rfl) ?_
 refine etr ?_
 refine r_op (o_lit0 2 (e := 94) (sz := 3) (zs := [.string (mkS ([])), .int .i64 (0), .bool (false)]) (enS3 encS encI encB) rfl rfl (by kernel_rfl) rfl) ?_
 refine r_op (oF 0) ?_
 refine r_op oL ?_
 refine r_op (o_appendS 2 (e := 94) (sz := 3) (by' := 32) rfl (by kernel_rfl) rfl rfl rfl rfl (fun _ j => by rcases j with _ | _ | j <;> exact ⟨_, rfl⟩) (by (simp; omega)) (by (simp; omega))) ?_
 refine r_op (o_build rfl (pl := [(0, 1), (1, 1)]) (zs := [.slice none 0 0, .slice none 0 0]) (by kernel_rfl) (by kernel_rfl) rfl rfl rfl) ?_
 refine r_op (o_alloc 3 (zs := [.slice none 0 0, .slice none 0 0]) rfl rfl (by kernel_rfl) rfl) ?_
 refine r_op (oS 2) ?_
 refine r_end ?_
 refine t_seq ?_
 refine tsr ?_
 refine r_op oA ?_
 refine r_end ?_
 refine t_block ?_
 refine gt_nilb 4 (b := 3) (o := 1) (et := 36) (sz := 2) true (enS2 encI (enSl 1 encI)) rfl rfl rfl ?_
 refine t_loopL (fun m => ⟨[(1, some (.c (.ptr 0 0))), (2, some (.c (.ptr 1 0))), (3, some (.c (.ptr 3 0))), (4, some (.c (.t none (.v (.int .i64 ((m : Int)))))))], [(0, some (.box [.t none (.sl 3 (enS3 encS encI encB) (rs)), .t none (.sl 2 (enS2 encI (enSl 1 encI)) (fs))])), (1, some (.box [.t none (.v (.slice none 0 0)), .t none (.v (.slice none 0 0))])), (2, some (.row none 94 true 3 (enS3 encS encI encB) ([] ++ rs))), (3, some (.box [.own 2, .own 4])), (4, some (.row none 36 true 2 (enS2 encI (enSl 1 encI)) (fs.take m)))], 5⟩ : Nat → St) (fun m => m ≤ fs.length) (fun m => fs.length - m) 0 ⟨⟨rfl, ⟨rfl, ⟨rfl, ⟨rfl, trivial⟩⟩⟩⟩, ⟨rfl, ⟨rfl, ⟨rfl, ⟨rfl, ⟨rfl, trivial⟩⟩⟩⟩⟩, rfl⟩ (by exact Nat.zero_le _) ?_
 rintro m hI ih0
 try dsimp only at hI ih0
 have i1 := hI
 refine t_seq ?_
 refine tsr ?_
 refine r_op oM ?_
 refine r_op (oF 1) ?_
 refine r_op oL ?_
 refine r_op (o_len rfl rfl rfl) ?_
 refine r_op oB ?_
 refine r_end ?_
 refine t_cond rfl (fun h1 => ?_) (fun h1 => ?_)
 ·
  have h1' := of_decide_eq_true h1
  refine t_skip ?_
  refine t_seq ?_
  refine t_block ?_
  refine t_draw (fun i => !(Nat.beq i 9 || Nat.beq i 11)) (by kernel_rfl) ?_
  refine dT 0 rfl (pF 1) ?_
  refine dT 1 rfl pL ?_
  refine dT 2 rfl (pF 1) ?_
  refine dT 3 rfl pL ?_
  refine dT 4 rfl pM ?_
  obtain ⟨z2, hz3, b4⟩ := at_get (xs := fs) (n := (m : Int)) (by omega) (by omega)
  refine dT 5 rfl (p_index (by kernel_rfl) rfl rfl b4 hz3) ?_
  refine dT 6 rfl (p_loadA (n := 2) (by kernel_rfl) (by kernel_rfl) rfl rfl) ?_
  refine dO 7 rfl (o_call 5 8 false (Go.Proofs.enters_of Tryz.func132 (by kernel_rfl) rfl) (c_spec_l5Fact (z2.1) (z2.2) (by (have e1 := sz_at (f := (fun (x : Int × (List (Int))) => (x.2).length)) (l := fs) (m := m) (by assumption); (try dsimp only at e1); omega))) rfl (.cons rfl (.agg (.cons .t0 (.cons .t0 .nil))) .nil) rfl rfl rfl) ?_
  refine dO 8 rfl (o_litS 8 (e := 36) (sz := 2) (zs := [.int .i64 (0), .slice none 0 0]) rfl rfl (by kernel_rfl) rfl rfl rfl rfl rfl) ?_
  refine dO 9 rfl (o_append 4 (e := 36) (sz := 2) (by' := 32) (((z2.1), (z2.2))) rfl (by kernel_rfl) rfl rfl rfl rfl rfl rfl (.cons .sc (.take (.own rfl) rfl .nil)) rfl (by (simp; omega)) (by (simp; omega))) ?_
  refine dT 10 rfl (pF 1) ?_
  refine dO 11 rfl (oS 1) ?_
  refine d_end (by kernel_rfl) ?_
  refine t_endblock ?_
  refine t_region ?_
  refine r_op oM ?_
  refine r_op oB ?_
  refine r_op oA ?_
  refine r_end ?_
  refine t_le ?_ (ih0 (m + 1) (by (try dsimp only); omega) (by (try dsimp only); omega))
  exact ⟨⟨rfl, ⟨rfl, ⟨rfl, ⟨(eqI (wr64 (by omega) (by omega))), trivial⟩⟩⟩⟩, ⟨rfl, ⟨rfl, ⟨rfl, ⟨rfl, ⟨(eqR (take_snoc hz3)), trivial⟩⟩⟩⟩⟩, rfl⟩
 ·
  have h1' := of_decide_eq_false h1
  refine t_exit rfl ?_
  refine tsr ?_
  refine r_op (oC 2) ?_
  refine r_op (oS 2) ?_
  refine r_end ?_
  refine t_ret Tryz.func87 (.cells (n := 2) (by kernel_rfl) (by kernel_rfl) rfl rfl rfl .nil) rfl fun E S w u hI hd => ?_
  refine post_mk hI hd ?_ ⟨eqR ?_, ⟨eqR ?_, trivial⟩⟩ rfl rfl rfl <;> clear hI hd <;> (try clear ih0)
  all_goals first | rfl | ((rw [List.take_of_length_le (by omega)]))
set_option maxHeartbeats 1000000 in
set_option maxRecDepth 10000 in
theorem c_spec_l5Source (code : List Int) (i h most : Int) (hc : code.length ≤ 1048576) (hi0 : 0 ≤ i) (hi1 : i ≤ code.length) (hm : 0 ≤ most ∧ most ≤ 5) : MuG Tryz.prog 78 [.c (.ptr 0 0), .c (.t none (.v (.int .i64 (most))))] [.t none (.sl 1 encU (code)), .t none (.v (.int .i64 (i))), .t none (.v (.int .i64 (h)))] (fun (⟨fs, i2, h2⟩ : Atoms × Int × Int) => fs.length ≤ 5 ∧ (∀ a ∈ fs, factL a) ∧ 0 ≤ i2 ∧ i2 ≤ code.length) (fun (⟨fs, i2, h2⟩ : Atoms × Int × Int) => [.t none (.sl 1 encU (code)), .t none (.v (.int .i64 (i2))), .t none (.v (.int .i64 (h2)))]) (fun (⟨fs, i2, h2⟩ : Atoms × Int × Int) => [(3, some (.row none 94 true 3 (enS3 encS encI encB) (sigs5))), (4, some (.row none 36 true 2 (enS2 encI (enSl 1 encI)) (fs)))]) 5 (fun (⟨fs, i2, h2⟩ : Atoms × Int × Int) => .agg [.own 3, .own 4]) := by
 refine mu_enterG Tryz.func78 rfl (Nat.le_of_ble_eq_true rfl) fun v0 w S M hM => ?_
 refine tsr ?_
 refine r_op (o_alloc 1 (zs := [.slice none 0 0, .slice none 0 0]) rfl rfl (by kernel_rfl) rfl) ?_
 refine etr ?_
 refine r_op (o_call 2 3 false (Go.Proofs.enters_of Tryz.func133 (by kernel_rfl) rfl) (c_spec_l3Sigs ) rfl .nil rfl rfl rfl) ?_
 refine r_op (o_build rfl (pl := [(0, 1), (1, 1)]) (zs := [.slice none 0 0, .slice none 0 0]) (by kernel_rfl) (by kernel_rfl) rfl rfl rfl) ?_
 refine r_op (o_alloc 3 (zs := [.slice none 0 0, .slice none 0 0]) rfl rfl (by kernel_rfl) rfl) ?_
 refine r_op (oS 2) ?_
 refine r_end ?_
 refine t_seq ?_
 refine tsr ?_
 refine r_op oM ?_
 refine r_op oM ?_
 refine r_op oB ?_
 refine r_opX (o_callGM 0 4 5 (pv := some (v0)) (Go.Proofs.enters_of Tryz.func81 (by kernel_rfl) rfl) (c_spec_l1Below (code) (i) (h) (IntKind.i64.wrap (most + 1)) (by omega) (by omega) (by omega) (by (simp only [IntKind.wrap_i64] at *; omega)) (by (simp only [IntKind.wrap_i64] at *; omega))) rfl rfl (.cur rfl (.cons rfl .nil)) rfl (fun ⟨_, _, _⟩ => rfl) (fun _ => rfl) (fun ⟨_, _, _⟩ => rfl) rfl rfl) ?_
 rintro ⟨⟨x1, i22, h23⟩, hq4⟩
 try dsimp only at hq4
 try dsimp only
 obtain ⟨q5, q6⟩ := hq4
 refine r_op oA ?_
 refine r_end ?_
 refine t_block ?_
 refine gt_freeze 2 rfl (frz_cur (i := 2) hM rfl rfl rfl) ?_
 refine gt_nilB 3 1 (sz := 2) (enS2 encI (enSl 1 encI)) rfl rfl ?_
 refine t_loopL (fun (kk, fs, i3, h3) => ⟨[(0, some (.c (.ptr 0 0))), (4, some (.c (.ptr 1 0))), (5, some (.c (.ptr 3 0))), (6, some (.c (.t none (.v (.int .i64 (kk))))))], [(0, some (.pbox (v0) [.t none (.sl 1 encU (code)), .t none (.v (.int .i64 (i3))), .t none (.v (.int .i64 (h3)))])), (1, some (.box [.t none (.v (.slice none 0 0)), .t none (.v (.slice none 0 0))])), (3, some (.box [.t none (.sl 3 (enS3 encS encI encB) (sigs5)), .t none (.sl 2 (enS2 encI (enSl 1 encI)) (fs))]))], 5⟩ : Int × Atoms × Int × Int → St) (fun (kk, fs, i3, h3) => (0 ≤ kk ∧ kk ≤ 5) ∧ ((fs.length : Int) + kk ≤ 5) ∧ (fs.length ≤ 5) ∧ (∀ a ∈ fs, factL a) ∧ (0 ≤ i3 ∧ i3 ≤ code.length)) (fun (kk, fs, i3, h3) => kk.toNat) ((x1), [], (i22), (h23)) ⟨⟨rfl, ⟨rfl, ⟨rfl, ⟨rfl, trivial⟩⟩⟩⟩, ⟨rfl, ⟨rfl, ⟨rfl, trivial⟩⟩⟩, rfl⟩ (by exact ⟨(by (try dsimp only); ((try simp only [IntKind.wrap_i64] at *); omega)), (by (try dsimp only); (try simp only [List.length_nil]); ((try simp only [IntKind.wrap_i64] at *); omega)), (by simp), (fun a ha => by simp at ha), (by (try dsimp only); omega)⟩) ?_
 rintro ⟨kk, fs, i3, h3⟩ hI ih0
 try dsimp only at hI ih0
 obtain ⟨b1, b2, b3, b4, b5⟩ := hI
 refine t_seq ?_
 refine tsr ?_
 refine r_op oM ?_
 refine r_op oB ?_
 refine r_end ?_
 refine t_cond rfl (fun h7 => ?_) (fun h7 => ?_)
 ·
  have h7' := of_decide_eq_true h7
  refine t_skip ?_
  refine t_seq ?_
  refine t_block ?_
  refine t_draw (fun i => !(Nat.beq i 3 || Nat.beq i 4 || Nat.beq i 6)) (by kernel_rfl) ?_
  refine d_takeP 1 rfl rfl (by kernel_rfl) (by kernel_rfl) (by kernel_rfl) (pw_move rfl) ?_
  refine dT 2 rfl pM ?_
  refine d_twoX 0 3 rfl rfl (by kernel_rfl) rfl rfl (osX (oC 2)) (o_callGM 0 5 6 (pv := some (v0)) (Go.Proofs.enters_of Tryz.func81 (by kernel_rfl) rfl) (c_spec_l1Below (code) (i3) (h3) (2) (by omega) (by omega) (by omega) (by omega) (by omega)) rfl rfl (.cur rfl (.cons rfl .nil)) rfl (fun ⟨_, _, _⟩ => rfl) (fun _ => rfl) (fun ⟨_, _, _⟩ => rfl) rfl rfl) ?_ ?_
  ·
   rintro ⟨⟩
   refine dOX 3 rfl (o_callGM 0 5 6 (pv := some (v0)) (Go.Proofs.enters_of Tryz.func81 (by kernel_rfl) rfl) (c_spec_l1Below (code) (i3) (h3) (2) (by omega) (by omega) (by omega) (by omega) (by omega)) rfl rfl (.cur rfl (.cons rfl .nil)) rfl (fun ⟨_, _, _⟩ => rfl) (fun _ => rfl) (fun ⟨_, _, _⟩ => rfl) rfl rfl) ?_
   rintro ⟨⟨x14, i215, h216⟩, hq17⟩
   try dsimp only at hq17
   try dsimp only
   obtain ⟨q18, q19⟩ := hq17
   refine dOX 4 rfl (o_callGM 0 6 11 (pv := some (v0)) (Go.Proofs.enters_of Tryz.func134 (by kernel_rfl) rfl) (c_spec_l4Fact ((code)) ((i215)) ((h216)) ((x14)) (0) (by omega) (by omega) (by omega) (by omega) (by omega)) rfl rfl (.cur rfl (.cons rfl (.cons rfl .nil))) rfl (fun ⟨_, _, _⟩ => rfl) (fun _ => rfl) (fun ⟨_, _, _⟩ => rfl) rfl rfl) ?_
   rintro ⟨⟨ts20, i221, h222⟩, hq23⟩
   try dsimp only at hq23
   try dsimp only
   obtain ⟨q24, q25, q26⟩ := hq23
   have t1 : 1 ≤ ts20.length ∧ ts20.length ≤ 2 := (by assumption); have t2 : ∀ x ∈ ts20, -256 ≤ x ∧ x ≤ 2 := (by assumption); have t3 : ∀ x ∈ ts20, -256 ≤ x ∧ x ≤ 256 := fun x hx => by have := t2 x hx; omega
   refine d_freeze 10 rfl (frz_cur (i := 10) hM rfl rfl rfl) ?_
   refine dO 5 rfl (o_call 11 11 true (Go.Proofs.enters_of Tryz.func93 (by kernel_rfl) rfl) (c_spec_l5Put (sigs5) (fs) (((x14))) ((ts20)) (by (have e7 := szF_L b4; omega)) (by omega)) rfl (.cons rfl (.agg (.cons .t0 (.cons .t0 .nil))) (.cons rfl (.agg (.cons .t0 (.cons .t0 .nil))) .nil)) rfl rfl rfl) ?_
   refine dO 6 rfl (oS 2) ?_
   refine d_end (by kernel_rfl) ?_
   refine t_endblock ?_
   refine t_region ?_
   refine r_op oM ?_
   refine r_op oB ?_
   refine r_op oA ?_
   refine r_end ?_
   refine t_le ?_ (ih0 (IntKind.i64.wrap (kk - 1), putF (fs) ((((x14))), ((ts20))), (i221), (h222)) (by (try dsimp only); ((try simp only [IntKind.wrap_i64] at *); omega)) (by (try dsimp only); exact ⟨(by ((try simp only [IntKind.wrap_i64] at *); omega)), putF_kk b2 (by ((try simp only [IntKind.wrap_i64] at *); omega)), putF_5 b2 (by omega), putF_all b4 ⟨by (try dsimp only); ((try simp only [IntKind.wrap_i64] at *); omega), by (try dsimp only); omega, t3⟩, by omega⟩))
   exact ⟨⟨rfl, ⟨rfl, ⟨rfl, ⟨rfl, trivial⟩⟩⟩⟩, ⟨rfl, ⟨rfl, ⟨rfl, trivial⟩⟩⟩, rfl⟩
  ·
   rintro ⟨⟨x8, i29, h210⟩, hq11⟩
   try dsimp only at hq11
   try dsimp only
   obtain ⟨q12, q13⟩ := hq11
   refine d_twoX 0 4 rfl rfl (by kernel_rfl) rfl rfl (osX (oC 2)) (o_callGM 0 6 11 (pv := some (v0)) (Go.Proofs.enters_of Tryz.func134 (by kernel_rfl) rfl) (c_spec_l4Fact ((code)) ((i29)) ((h210)) ((x8)) (0) (by omega) (by omega) (by omega) (by omega) (by omega)) rfl rfl (.cur rfl (.cons rfl (.cons rfl .nil))) rfl (fun ⟨_, _, _⟩ => rfl) (fun _ => rfl) (fun ⟨_, _, _⟩ => rfl) rfl rfl) ?_ ?_
   ·
    rintro ⟨⟩
    refine dOX 4 rfl (o_callGM 0 6 11 (pv := some (v0)) (Go.Proofs.enters_of Tryz.func134 (by kernel_rfl) rfl) (c_spec_l4Fact ((code)) ((i29)) ((h210)) ((x8)) (0) (by omega) (by omega) (by omega) (by omega) (by omega)) rfl rfl (.cur rfl (.cons rfl (.cons rfl .nil))) rfl (fun ⟨_, _, _⟩ => rfl) (fun _ => rfl) (fun ⟨_, _, _⟩ => rfl) rfl rfl) ?_
    rintro ⟨⟨ts34, i235, h236⟩, hq37⟩
    try dsimp only at hq37
    try dsimp only
    obtain ⟨q38, q39, q40⟩ := hq37
    have t1 : 1 ≤ ts34.length ∧ ts34.length ≤ 2 := (by assumption); have t2 : ∀ x ∈ ts34, -256 ≤ x ∧ x ≤ 2 := (by assumption); have t3 : ∀ x ∈ ts34, -256 ≤ x ∧ x ≤ 256 := fun x hx => by have := t2 x hx; omega
    refine d_freeze 10 rfl (frz_cur (i := 10) hM rfl rfl rfl) ?_
    refine dO 5 rfl (o_call 11 11 true (Go.Proofs.enters_of Tryz.func93 (by kernel_rfl) rfl) (c_spec_l5Put (sigs5) (fs) (((x8))) ((ts34)) (by (have e7 := szF_L b4; omega)) (by omega)) rfl (.cons rfl (.agg (.cons .t0 (.cons .t0 .nil))) (.cons rfl (.agg (.cons .t0 (.cons .t0 .nil))) .nil)) rfl rfl rfl) ?_
    refine dO 6 rfl (oS 2) ?_
    refine d_end (by kernel_rfl) ?_
    refine t_endblock ?_
    refine t_region ?_
    refine r_op oM ?_
    refine r_op oB ?_
    refine r_op oA ?_
    refine r_end ?_
    refine t_le ?_ (ih0 (IntKind.i64.wrap (kk - 1), putF (fs) ((((x8))), ((ts34))), (i235), (h236)) (by (try dsimp only); ((try simp only [IntKind.wrap_i64] at *); omega)) (by (try dsimp only); exact ⟨(by ((try simp only [IntKind.wrap_i64] at *); omega)), putF_kk b2 (by ((try simp only [IntKind.wrap_i64] at *); omega)), putF_5 b2 (by omega), putF_all b4 ⟨by (try dsimp only); ((try simp only [IntKind.wrap_i64] at *); omega), by (try dsimp only); omega, t3⟩, by omega⟩))
    exact ⟨⟨rfl, ⟨rfl, ⟨rfl, ⟨rfl, trivial⟩⟩⟩⟩, ⟨rfl, ⟨rfl, ⟨rfl, trivial⟩⟩⟩, rfl⟩
   ·
    rintro ⟨⟨ts27, i228, h229⟩, hq30⟩
    try dsimp only at hq30
    try dsimp only
    obtain ⟨q31, q32, q33⟩ := hq30
    have t1 : 1 ≤ ts27.length ∧ ts27.length ≤ 2 := (by assumption); have t2 : ∀ x ∈ ts27, -256 ≤ x ∧ x ≤ 2 := (by assumption); have t3 : ∀ x ∈ ts27, -256 ≤ x ∧ x ≤ 256 := fun x hx => by have := t2 x hx; omega
    refine dT 0 rfl (pC 2) ?_
    refine d_freeze 10 rfl (frz_cur (i := 10) hM rfl rfl rfl) ?_
    refine dO 5 rfl (o_call 11 11 true (Go.Proofs.enters_of Tryz.func93 (by kernel_rfl) rfl) (c_spec_l5Put (sigs5) (fs) (((x8))) ((ts27)) (by (have e7 := szF_L b4; omega)) (by omega)) rfl (.cons rfl (.agg (.cons .t0 (.cons .t0 .nil))) (.cons rfl (.agg (.cons .t0 (.cons .t0 .nil))) .nil)) rfl rfl rfl) ?_
    refine dO 6 rfl (oS 2) ?_
    refine d_end (by kernel_rfl) ?_
    refine t_endblock ?_
    refine t_region ?_
    refine r_op oM ?_
    refine r_op oB ?_
    refine r_op oA ?_
    refine r_end ?_
    refine t_le ?_ (ih0 (IntKind.i64.wrap (kk - 1), putF (fs) ((((x8))), ((ts27))), (i228), (h229)) (by (try dsimp only); ((try simp only [IntKind.wrap_i64] at *); omega)) (by (try dsimp only); exact ⟨(by ((try simp only [IntKind.wrap_i64] at *); omega)), putF_kk b2 (by ((try simp only [IntKind.wrap_i64] at *); omega)), putF_5 b2 (by omega), putF_all b4 ⟨by (try dsimp only); ((try simp only [IntKind.wrap_i64] at *); omega), by (try dsimp only); omega, t3⟩, by omega⟩))
    exact ⟨⟨rfl, ⟨rfl, ⟨rfl, ⟨rfl, trivial⟩⟩⟩⟩, ⟨rfl, ⟨rfl, ⟨rfl, trivial⟩⟩⟩, rfl⟩
 ·
  have h7' := of_decide_eq_false h7
  refine t_exit rfl ?_
  refine tsr ?_
  refine r_op (oC 2) ?_
  refine r_op (o_call 5 10 false (Go.Proofs.enters_of Tryz.func87 (by kernel_rfl) rfl) (c_spec_l5Copy (sigs5) (fs) (by (rw [sigs5_len]; omega)) (by (have e7 := szF_L b4; omega))) rfl (.cons rfl (.agg (.cons .t0 (.cons .t0 .nil))) .nil) rfl rfl rfl) ?_
  refine r_op (oS 2) ?_
  refine r_end ?_
  refine gt_mv 3 7 rfl rfl rfl ?_
  refine gt_mv 4 9 rfl rfl rfl ?_
  refine t_ret Tryz.func78 (.cells (n := 2) (by kernel_rfl) (by kernel_rfl) rfl rfl rfl .nil) rfl fun E S w u hI hd => ?_
  refine post_mkG (⟨(fs), i3, h3⟩) ?_ hI hd ?_ ⟨rfl, ⟨rfl, ⟨rfl, trivial⟩⟩⟩ rfl rfl <;> clear hI hd <;> (try clear ih0)
  · (try dsimp only) <;> (exact ⟨by omega, b4, by omega⟩)
  · rfl
set_option maxHeartbeats 1000000 in
set_option maxRecDepth 10000 in
theorem c_spec_l5Target (code : List Int) (i h most n : Int) (hc : code.length ≤ 1048576) (hi0 : 0 ≤ i) (hi1 : i ≤ code.length) (hm : 0 ≤ most ∧ most ≤ 5) (hn : 0 ≤ n ∧ n ≤ 256) : MuG Tryz.prog 158 [.c (.ptr 0 0), .c (.t none (.v (.int .i64 (most)))), .c (.t none (.v (.int .i64 (n))))] [.t none (.sl 1 encU (code)), .t none (.v (.int .i64 (i))), .t none (.v (.int .i64 (h)))] (fun (⟨fs, i2, h2⟩ : Atoms × Int × Int) => fs.length ≤ 5 ∧ (∀ a ∈ fs, factL a) ∧ 0 ≤ i2 ∧ i2 ≤ code.length) (fun (⟨fs, i2, h2⟩ : Atoms × Int × Int) => [.t none (.sl 1 encU (code)), .t none (.v (.int .i64 (i2))), .t none (.v (.int .i64 (h2)))]) (fun (⟨fs, i2, h2⟩ : Atoms × Int × Int) => [(3, some (.row none 94 true 3 (enS3 encS encI encB) (sigs5))), (4, some (.row none 36 true 2 (enS2 encI (enSl 1 encI)) (fs)))]) 5 (fun (⟨fs, i2, h2⟩ : Atoms × Int × Int) => .agg [.own 3, .own 4]) := by
 refine mu_enterG Tryz.func158 rfl (Nat.le_of_ble_eq_true rfl) fun v0 w S M hM => ?_
 refine tsr ?_
 refine r_op (o_alloc 1 (zs := [.slice none 0 0, .slice none 0 0]) rfl rfl (by kernel_rfl) rfl) ?_
 refine etr ?_
 refine r_op (o_call 2 3 false (Go.Proofs.enters_of Tryz.func133 (by kernel_rfl) rfl) (c_spec_l3Sigs ) rfl .nil rfl rfl rfl) ?_
 refine r_op (o_build rfl (pl := [(0, 1), (1, 1)]) (zs := [.slice none 0 0, .slice none 0 0]) (by kernel_rfl) (by kernel_rfl) rfl rfl rfl) ?_
 refine r_op (o_alloc 3 (zs := [.slice none 0 0, .slice none 0 0]) rfl rfl (by kernel_rfl) rfl) ?_
 refine r_op (oS 2) ?_
 refine r_end ?_
 refine t_seq ?_
 refine tsr ?_
 refine r_op oM ?_
 refine r_op oM ?_
 refine r_op oB ?_
 refine r_opX (o_callGM 0 4 5 (pv := some (v0)) (Go.Proofs.enters_of Tryz.func81 (by kernel_rfl) rfl) (c_spec_l1Below (code) (i) (h) (IntKind.i64.wrap (most + 1)) (by omega) (by omega) (by omega) (by (simp only [IntKind.wrap_i64] at *; omega)) (by (simp only [IntKind.wrap_i64] at *; omega))) rfl rfl (.cur rfl (.cons rfl .nil)) rfl (fun ⟨_, _, _⟩ => rfl) (fun _ => rfl) (fun ⟨_, _, _⟩ => rfl) rfl rfl) ?_
 rintro ⟨⟨x1, i22, h23⟩, hq4⟩
 try dsimp only at hq4
 try dsimp only
 obtain ⟨q5, q6⟩ := hq4
 refine r_op oA ?_
 refine r_end ?_
 refine t_block ?_
 refine gt_freeze 2 rfl (frz_cur (i := 2) hM rfl rfl rfl) ?_
 refine gt_nilB 3 1 (sz := 2) (enS2 encI (enSl 1 encI)) rfl rfl ?_
 refine t_loopL (fun (kk, fs, i3, h3) => ⟨[(0, some (.c (.ptr 0 0))), (2, some (.c (.t none (.v (.int .i64 (n)))))), (6, some (.c (.ptr 1 0))), (7, some (.c (.ptr 3 0))), (8, some (.c (.t none (.v (.int .i64 (kk))))))], [(0, some (.pbox (v0) [.t none (.sl 1 encU (code)), .t none (.v (.int .i64 (i3))), .t none (.v (.int .i64 (h3)))])), (1, some (.box [.t none (.v (.slice none 0 0)), .t none (.v (.slice none 0 0))])), (3, some (.box [.t none (.sl 3 (enS3 encS encI encB) (sigs5)), .t none (.sl 2 (enS2 encI (enSl 1 encI)) (fs))]))], 5⟩ : Int × Atoms × Int × Int → St) (fun (kk, fs, i3, h3) => (0 ≤ kk ∧ kk ≤ 5) ∧ ((fs.length : Int) + kk ≤ 5) ∧ (fs.length ≤ 5) ∧ (∀ a ∈ fs, factL a) ∧ (0 ≤ i3 ∧ i3 ≤ code.length)) (fun (kk, fs, i3, h3) => kk.toNat) ((x1), [], (i22), (h23)) ⟨⟨rfl, ⟨rfl, ⟨rfl, ⟨rfl, ⟨rfl, trivial⟩⟩⟩⟩⟩, ⟨rfl, ⟨rfl, ⟨rfl, trivial⟩⟩⟩, rfl⟩ (by exact ⟨(by (try dsimp only); ((try simp only [IntKind.wrap_i64] at *); omega)), (by (try dsimp only); (try simp only [List.length_nil]); ((try simp only [IntKind.wrap_i64] at *); omega)), (by simp), (fun a ha => by simp at ha), (by (try dsimp only); omega)⟩) ?_
 rintro ⟨kk, fs, i3, h3⟩ hI ih0
 try dsimp only at hI ih0
 obtain ⟨b1, b2, b3, b4, b5⟩ := hI
 refine t_seq ?_
 refine tsr ?_
 refine r_op oM ?_
 refine r_op oB ?_
 refine r_end ?_
 refine t_cond rfl (fun h7 => ?_) (fun h7 => ?_)
 ·
  have h7' := of_decide_eq_true h7
  refine t_skip ?_
  refine t_seq ?_
  refine t_block ?_
  refine t_draw (fun i => !(Nat.beq i 3 || Nat.beq i 6 || Nat.beq i 8)) (by kernel_rfl) ?_
  refine d_takeP 1 rfl rfl (by kernel_rfl) (by kernel_rfl) (by kernel_rfl) (pw_move rfl) ?_
  refine dT 2 rfl pM ?_
  refine d_takeP 5 rfl rfl (by kernel_rfl) (by kernel_rfl) (by kernel_rfl) (pw_move rfl) ?_
  refine d_twoX 0 3 rfl rfl (by kernel_rfl) rfl rfl (osX (oC 2)) (o_callGM 0 5 6 (pv := some (v0)) (Go.Proofs.enters_of Tryz.func81 (by kernel_rfl) rfl) (c_spec_l1Below (code) (i3) (h3) (3) (by omega) (by omega) (by omega) (by omega) (by omega)) rfl rfl (.cur rfl (.cons rfl .nil)) rfl (fun ⟨_, _, _⟩ => rfl) (fun _ => rfl) (fun ⟨_, _, _⟩ => rfl) rfl rfl) ?_ ?_
  ·
   rintro ⟨⟩
   refine dOX 3 rfl (o_callGM 0 5 6 (pv := some (v0)) (Go.Proofs.enters_of Tryz.func81 (by kernel_rfl) rfl) (c_spec_l1Below (code) (i3) (h3) (3) (by omega) (by omega) (by omega) (by omega) (by omega)) rfl rfl (.cur rfl (.cons rfl .nil)) rfl (fun ⟨_, _, _⟩ => rfl) (fun _ => rfl) (fun ⟨_, _, _⟩ => rfl) rfl rfl) ?_
   rintro ⟨⟨x14, i215, h216⟩, hq17⟩
   try dsimp only at hq17
   try dsimp only
   obtain ⟨q18, q19⟩ := hq17
   refine dT 4 rfl pB ?_
   refine dOX 6 rfl (o_callGM 0 6 11 (pv := some (v0)) (Go.Proofs.enters_of Tryz.func134 (by kernel_rfl) rfl) (c_spec_l4Fact ((code)) ((i215)) ((h216)) (IntKind.i64.wrap (2 + (x14))) (n) (by omega) (by omega) (by omega) (by (simp only [IntKind.wrap_i64] at *; omega)) (by omega)) rfl rfl (.cur rfl (.cons rfl (.cons rfl .nil))) rfl (fun ⟨_, _, _⟩ => rfl) (fun _ => rfl) (fun ⟨_, _, _⟩ => rfl) rfl rfl) ?_
   rintro ⟨⟨ts20, i221, h222⟩, hq23⟩
   try dsimp only at hq23
   try dsimp only
   obtain ⟨q24, q25, q26⟩ := hq23
   have t1 : 1 ≤ ts20.length ∧ ts20.length ≤ 2 := (by assumption); have t2 : ∀ x ∈ ts20, -256 ≤ x ∧ x ≤ 2 := (by assumption); have t3 : ∀ x ∈ ts20, -256 ≤ x ∧ x ≤ 256 := fun x hx => by have := t2 x hx; omega
   refine d_freeze 10 rfl (frz_cur (i := 10) hM rfl rfl rfl) ?_
   refine dO 7 rfl (o_call 11 11 true (Go.Proofs.enters_of Tryz.func93 (by kernel_rfl) rfl) (c_spec_l5Put (sigs5) (fs) ((IntKind.i64.wrap (2 + (x14)))) ((ts20)) (by (have e7 := szF_L b4; omega)) (by omega)) rfl (.cons rfl (.agg (.cons .t0 (.cons .t0 .nil))) (.cons rfl (.agg (.cons .t0 (.cons .t0 .nil))) .nil)) rfl rfl rfl) ?_
   refine dO 8 rfl (oS 2) ?_
   refine d_end (by kernel_rfl) ?_
   refine t_endblock ?_
   refine t_region ?_
   refine r_op oM ?_
   refine r_op oB ?_
   refine r_op oA ?_
   refine r_end ?_
   refine t_le ?_ (ih0 (IntKind.i64.wrap (kk - 1), putF (fs) (((IntKind.i64.wrap (2 + (x14)))), ((ts20))), (i221), (h222)) (by (try dsimp only); ((try simp only [IntKind.wrap_i64] at *); omega)) (by (try dsimp only); exact ⟨(by ((try simp only [IntKind.wrap_i64] at *); omega)), putF_kk b2 (by ((try simp only [IntKind.wrap_i64] at *); omega)), putF_5 b2 (by omega), putF_all b4 ⟨by (try dsimp only); ((try simp only [IntKind.wrap_i64] at *); omega), by (try dsimp only); omega, t3⟩, by omega⟩))
   exact ⟨⟨rfl, ⟨rfl, ⟨rfl, ⟨rfl, ⟨rfl, trivial⟩⟩⟩⟩⟩, ⟨rfl, ⟨rfl, ⟨rfl, trivial⟩⟩⟩, rfl⟩
  ·
   rintro ⟨⟨x8, i29, h210⟩, hq11⟩
   try dsimp only at hq11
   try dsimp only
   obtain ⟨q12, q13⟩ := hq11
   refine dT 4 rfl pB ?_
   refine d_twoX 0 6 rfl rfl (by kernel_rfl) rfl rfl (osX (oC 2)) (o_callGM 0 6 11 (pv := some (v0)) (Go.Proofs.enters_of Tryz.func134 (by kernel_rfl) rfl) (c_spec_l4Fact ((code)) ((i29)) ((h210)) (IntKind.i64.wrap (2 + (x8))) (n) (by omega) (by omega) (by omega) (by (simp only [IntKind.wrap_i64] at *; omega)) (by omega)) rfl rfl (.cur rfl (.cons rfl (.cons rfl .nil))) rfl (fun ⟨_, _, _⟩ => rfl) (fun _ => rfl) (fun ⟨_, _, _⟩ => rfl) rfl rfl) ?_ ?_
   ·
    rintro ⟨⟩
    refine dOX 6 rfl (o_callGM 0 6 11 (pv := some (v0)) (Go.Proofs.enters_of Tryz.func134 (by kernel_rfl) rfl) (c_spec_l4Fact ((code)) ((i29)) ((h210)) (IntKind.i64.wrap (2 + (x8))) (n) (by omega) (by omega) (by omega) (by (simp only [IntKind.wrap_i64] at *; omega)) (by omega)) rfl rfl (.cur rfl (.cons rfl (.cons rfl .nil))) rfl (fun ⟨_, _, _⟩ => rfl) (fun _ => rfl) (fun ⟨_, _, _⟩ => rfl) rfl rfl) ?_
    rintro ⟨⟨ts34, i235, h236⟩, hq37⟩
    try dsimp only at hq37
    try dsimp only
    obtain ⟨q38, q39, q40⟩ := hq37
    have t1 : 1 ≤ ts34.length ∧ ts34.length ≤ 2 := (by assumption); have t2 : ∀ x ∈ ts34, -256 ≤ x ∧ x ≤ 2 := (by assumption); have t3 : ∀ x ∈ ts34, -256 ≤ x ∧ x ≤ 256 := fun x hx => by have := t2 x hx; omega
    refine d_freeze 10 rfl (frz_cur (i := 10) hM rfl rfl rfl) ?_
    refine dO 7 rfl (o_call 11 11 true (Go.Proofs.enters_of Tryz.func93 (by kernel_rfl) rfl) (c_spec_l5Put (sigs5) (fs) ((IntKind.i64.wrap (2 + (x8)))) ((ts34)) (by (have e7 := szF_L b4; omega)) (by omega)) rfl (.cons rfl (.agg (.cons .t0 (.cons .t0 .nil))) (.cons rfl (.agg (.cons .t0 (.cons .t0 .nil))) .nil)) rfl rfl rfl) ?_
    refine dO 8 rfl (oS 2) ?_
    refine d_end (by kernel_rfl) ?_
    refine t_endblock ?_
    refine t_region ?_
    refine r_op oM ?_
    refine r_op oB ?_
    refine r_op oA ?_
    refine r_end ?_
    refine t_le ?_ (ih0 (IntKind.i64.wrap (kk - 1), putF (fs) (((IntKind.i64.wrap (2 + (x8)))), ((ts34))), (i235), (h236)) (by (try dsimp only); ((try simp only [IntKind.wrap_i64] at *); omega)) (by (try dsimp only); exact ⟨(by ((try simp only [IntKind.wrap_i64] at *); omega)), putF_kk b2 (by ((try simp only [IntKind.wrap_i64] at *); omega)), putF_5 b2 (by omega), putF_all b4 ⟨by (try dsimp only); ((try simp only [IntKind.wrap_i64] at *); omega), by (try dsimp only); omega, t3⟩, by omega⟩))
    exact ⟨⟨rfl, ⟨rfl, ⟨rfl, ⟨rfl, ⟨rfl, trivial⟩⟩⟩⟩⟩, ⟨rfl, ⟨rfl, ⟨rfl, trivial⟩⟩⟩, rfl⟩
   ·
    rintro ⟨⟨ts27, i228, h229⟩, hq30⟩
    try dsimp only at hq30
    try dsimp only
    obtain ⟨q31, q32, q33⟩ := hq30
    have t1 : 1 ≤ ts27.length ∧ ts27.length ≤ 2 := (by assumption); have t2 : ∀ x ∈ ts27, -256 ≤ x ∧ x ≤ 2 := (by assumption); have t3 : ∀ x ∈ ts27, -256 ≤ x ∧ x ≤ 256 := fun x hx => by have := t2 x hx; omega
    refine dT 0 rfl (pC 2) ?_
    refine d_freeze 10 rfl (frz_cur (i := 10) hM rfl rfl rfl) ?_
    refine dO 7 rfl (o_call 11 11 true (Go.Proofs.enters_of Tryz.func93 (by kernel_rfl) rfl) (c_spec_l5Put (sigs5) (fs) ((IntKind.i64.wrap (2 + (x8)))) ((ts27)) (by (have e7 := szF_L b4; omega)) (by omega)) rfl (.cons rfl (.agg (.cons .t0 (.cons .t0 .nil))) (.cons rfl (.agg (.cons .t0 (.cons .t0 .nil))) .nil)) rfl rfl rfl) ?_
    refine dO 8 rfl (oS 2) ?_
    refine d_end (by kernel_rfl) ?_
    refine t_endblock ?_
    refine t_region ?_
    refine r_op oM ?_
    refine r_op oB ?_
    refine r_op oA ?_
    refine r_end ?_
    refine t_le ?_ (ih0 (IntKind.i64.wrap (kk - 1), putF (fs) (((IntKind.i64.wrap (2 + (x8)))), ((ts27))), (i228), (h229)) (by (try dsimp only); ((try simp only [IntKind.wrap_i64] at *); omega)) (by (try dsimp only); exact ⟨(by ((try simp only [IntKind.wrap_i64] at *); omega)), putF_kk b2 (by ((try simp only [IntKind.wrap_i64] at *); omega)), putF_5 b2 (by omega), putF_all b4 ⟨by (try dsimp only); ((try simp only [IntKind.wrap_i64] at *); omega), by (try dsimp only); omega, t3⟩, by omega⟩))
    exact ⟨⟨rfl, ⟨rfl, ⟨rfl, ⟨rfl, ⟨rfl, trivial⟩⟩⟩⟩⟩, ⟨rfl, ⟨rfl, ⟨rfl, trivial⟩⟩⟩, rfl⟩
 ·
  have h7' := of_decide_eq_false h7
  refine t_exit rfl ?_
  refine tsr ?_
  refine r_op (oC 2) ?_
  refine r_op (o_call 5 10 false (Go.Proofs.enters_of Tryz.func87 (by kernel_rfl) rfl) (c_spec_l5Copy (sigs5) (fs) (by (rw [sigs5_len]; omega)) (by (have e7 := szF_L b4; omega))) rfl (.cons rfl (.agg (.cons .t0 (.cons .t0 .nil))) .nil) rfl rfl rfl) ?_
  refine r_op (oS 2) ?_
  refine r_end ?_
  refine gt_mv 3 7 rfl rfl rfl ?_
  refine gt_mv 4 9 rfl rfl rfl ?_
  refine t_ret Tryz.func158 (.cells (n := 2) (by kernel_rfl) (by kernel_rfl) rfl rfl rfl .nil) rfl fun E S w u hI hd => ?_
  refine post_mkG (⟨(fs), i3, h3⟩) ?_ hI hd ?_ ⟨rfl, ⟨rfl, ⟨rfl, trivial⟩⟩⟩ rfl rfl <;> clear hI hd <;> (try clear ih0)
  · (try dsimp only) <;> (exact ⟨by omega, b4, by omega⟩)
  · rfl
set_option maxHeartbeats 1000000 in
set_option maxRecDepth 10000 in
theorem c_spec_l11Inst (code : List Int) (i h : Int) (hc : code.length ≤ 1048576) (hi0 : 0 ≤ i) (hi1 : i ≤ code.length) : MuG Tryz.prog 105 [.c (.ptr 0 0)] [.t none (.sl 1 encU (code)), .t none (.v (.int .i64 (i))), .t none (.v (.int .i64 (h)))] (fun (⟨rs, fs, i2, h2⟩ : Rels × Atoms × Int × Int) => instL rs fs ∧ 0 ≤ i2 ∧ i2 ≤ code.length) (fun (⟨rs, fs, i2, h2⟩ : Rels × Atoms × Int × Int) => [.t none (.sl 1 encU (code)), .t none (.v (.int .i64 (i2))), .t none (.v (.int .i64 (h2)))]) (fun (⟨rs, fs, i2, h2⟩ : Rels × Atoms × Int × Int) => []) 1 (fun (⟨rs, fs, i2, h2⟩ : Rels × Atoms × Int × Int) => .agg [.t none (.sl 3 (enS3 encS encI encB) (rs)), .t none (.sl 2 (enS2 encI (enSl 1 encI)) (fs))]) := by
 refine mu_enterG Tryz.func105 rfl (Nat.le_of_ble_eq_true rfl) fun v0 w S M hM => ?_
 refine tsr ?_
 refine r_op (o_alloc 1 (zs := [.slice none 0 0, .slice none 0 0]) rfl rfl (by kernel_rfl) rfl) ?_
 refine etr ?_
 refine r_op oM ?_
 refine r_opX (o_callGM 0 2 7 (pv := some (v0)) (Go.Proofs.enters_of Tryz.func78 (by kernel_rfl) rfl) (c_spec_l5Source (code) (i) (h) (3) (by omega) (by omega) (by omega) (by omega)) rfl rfl (.cur rfl (.cons rfl .nil)) rfl (fun ⟨_, _, _⟩ => rfl) (fun _ => rfl) (fun ⟨_, _, _⟩ => rfl) rfl rfl) ?_
 rintro ⟨⟨fs1, i22, h23⟩, hq4⟩
 try dsimp only at hq4
 try dsimp only
 obtain ⟨q5, q6, q7⟩ := hq4
 refine r_op (o_alloc 7 (zs := [.slice none 0 0, .slice none 0 0]) rfl rfl (by kernel_rfl) rfl) ?_
 refine r_op (oS 2) ?_
 refine etr ?_
 refine r_op oM ?_
 refine r_opX (o_callGM 0 8 13 (pv := some (v0)) (Go.Proofs.enters_of Tryz.func158 (by kernel_rfl) rfl) (c_spec_l5Target ((code)) ((i22)) ((h23)) (4) (3) (by omega) (by omega) (by omega) (by omega) (by omega)) rfl rfl (.cur rfl (.cons rfl (.cons rfl .nil))) rfl (fun ⟨_, _, _⟩ => rfl) (fun _ => rfl) (fun ⟨_, _, _⟩ => rfl) rfl rfl) ?_
 rintro ⟨⟨fs8, i29, h210⟩, hq11⟩
 try dsimp only at hq11
 try dsimp only
 obtain ⟨q12, q13, q14⟩ := hq11
 have b4f : ∀ a ∈ fs8, factL a := (by assumption)
 refine r_op (o_alloc 13 (zs := [.slice none 0 0, .slice none 0 0]) rfl rfl (by kernel_rfl) rfl) ?_
 refine r_op (oS 2) ?_
 refine r_end ?_
 refine t_seq ?_
 refine tsr ?_
 refine r_op oA ?_
 refine r_end ?_
 refine t_block ?_
 refine gt_freeze 5 rfl (frz_cur (i := 5) hM rfl rfl rfl) ?_
 refine gt_freeze 6 rfl (frz_cur (i := 6) hM rfl rfl rfl) ?_
 refine gt_freeze 11 rfl (frz_cur (i := 11) hM rfl rfl rfl) ?_
 refine gt_freeze 12 rfl (frz_cur (i := 12) hM rfl rfl rfl) ?_
 refine t_loopL (fun (m, xs) => ⟨[(2, some (.c (.ptr 1 0))), (3, some (.c (.ptr 7 0))), (4, some (.c (.ptr 13 0))), (5, some (.c (.t none (.v (.int .i64 ((m : Int)))))))], [(0, some (.pbox (v0) [.t none (.sl 1 encU (((code)))), .t none (.v (.int .i64 ((i29)))), .t none (.v (.int .i64 ((h210))))])), (1, some (.box [.t none (.v (.slice none 0 0)), .t none (.v (.slice none 0 0))])), (7, some (.box [.t none (.sl 3 (enS3 encS encI encB) (sigs5)), .t none (.sl 2 (enS2 encI (enSl 1 encI)) (xs))])), (13, some (.box [.t none (.sl 3 (enS3 encS encI encB) (sigs5)), .t none (.sl 2 (enS2 encI (enSl 1 encI)) ((fs8)))]))], 14⟩ : Nat × Atoms → St) (fun (m, xs) => m ≤ fs8.length ∧ xs.length ≤ 5 + m ∧ (∀ a ∈ xs, factL a)) (fun (m, xs) => fs8.length - m) (0, (fs1)) ⟨⟨rfl, ⟨rfl, ⟨rfl, ⟨rfl, trivial⟩⟩⟩⟩, ⟨rfl, ⟨rfl, ⟨rfl, ⟨rfl, trivial⟩⟩⟩⟩, rfl⟩ (by exact ⟨Nat.zero_le _, by (try dsimp only); omega, by assumption⟩) ?_
 rintro ⟨m, xs⟩ hI ih0
 try dsimp only at hI ih0
 obtain ⟨b1, b2, b4⟩ := hI
 refine t_seq ?_
 refine tsr ?_
 refine r_op oM ?_
 refine r_op (oF 1) ?_
 refine r_op oL ?_
 refine r_op (o_len rfl rfl rfl) ?_
 refine r_op oB ?_
 refine r_end ?_
 refine t_cond rfl (fun h15 => ?_) (fun h15 => ?_)
 ·
  have h15' := of_decide_eq_true h15
  refine t_skip ?_
  refine t_seq ?_
  refine t_block ?_
  refine t_draw (fun i => !(Nat.beq i 7)) (by kernel_rfl) ?_
  refine dT 0 rfl (pC 2) ?_
  refine dT 1 rfl (pF 1) ?_
  refine dT 2 rfl pL ?_
  refine dT 3 rfl pM ?_
  obtain ⟨z16, hz17, b18⟩ := at_get (xs := (fs8)) (n := (m : Int)) (by omega) (by omega)
  refine dT 4 rfl (p_index (by kernel_rfl) rfl rfl b18 hz17) ?_
  refine dT 5 rfl (p_loadA (n := 2) (by kernel_rfl) (by kernel_rfl) rfl rfl) ?_
  refine dO 6 rfl (o_call 14 14 true (Go.Proofs.enters_of Tryz.func93 (by kernel_rfl) rfl) (c_spec_l5Put (sigs5) (xs) (z16.1) (z16.2) (by (have e7 := szF_L b4; omega)) (by (have e7 := (b4f _ (List.mem_of_getElem? (by assumption))).2.1; omega))) rfl (.cons rfl (.agg (.cons .t0 (.cons .t0 .nil))) (.cons rfl (.agg (.cons .t0 (.cons .t0 .nil))) .nil)) rfl rfl rfl) ?_
  refine dO 7 rfl (oS 2) ?_
  refine d_end (by kernel_rfl) ?_
  refine t_endblock ?_
  refine t_region ?_
  refine r_op oM ?_
  refine r_op oB ?_
  refine r_op oA ?_
  refine r_end ?_
  refine t_le ?_ (ih0 (m + 1, putF (xs) ((z16.1), (z16.2))) (by (try dsimp only); omega) (by (try dsimp only); exact ⟨by omega, Nat.le_trans (putF_len _ _) (by omega), putF_all b4 (b4f _ (List.mem_of_getElem? hz17))⟩))
  exact ⟨⟨rfl, ⟨rfl, ⟨rfl, ⟨(eqI (wr64 (by omega) (by omega))), trivial⟩⟩⟩⟩, ⟨rfl, ⟨rfl, ⟨rfl, ⟨rfl, trivial⟩⟩⟩⟩, rfl⟩
 ·
  have h15' := of_decide_eq_false h15
  refine t_exit rfl ?_
  refine tsr ?_
  refine r_op (oC 2) ?_
  refine r_op (o_call 14 19 false (Go.Proofs.enters_of Tryz.func87 (by kernel_rfl) rfl) (c_spec_l5Copy (sigs5) (xs) (by (rw [sigs5_len]; omega)) (by (have e7 := szF_L b4; omega))) rfl (.cons rfl (.agg (.cons .t0 (.cons .t0 .nil))) .nil) rfl rfl rfl) ?_
  refine r_op (oS 2) ?_
  refine r_end ?_
  refine gt_freeze 16 rfl (frz_cur (i := 16) hM rfl rfl rfl) ?_
  refine gt_freeze 18 rfl (frz_cur (i := 18) hM rfl rfl rfl) ?_
  refine t_ret Tryz.func105 (.cells (n := 2) (by kernel_rfl) (by kernel_rfl) rfl rfl rfl .nil) rfl fun E S w u hI hd => ?_
  refine post_mkG (⟨(sigs5), (xs), (i29), (h210)⟩) ?_ hI hd ?_ ⟨rfl, trivial⟩ rfl rfl <;> clear hI hd <;> (try clear ih0)
  · (try dsimp only) <;> (exact ⟨⟨by decide, relS, by omega, b4⟩, by omega⟩)
  · rfl
set_option maxHeartbeats 1000000 in
set_option maxRecDepth 10000 in
theorem c_spec_l9Known (code : List Int) (i h : Int) (hc : code.length ≤ 1048576) (hi0 : 0 ≤ i) (hi1 : i ≤ code.length) : MuG Tryz.prog 159 [.c (.ptr 0 0)] [.t none (.sl 1 encU (code)), .t none (.v (.int .i64 (i))), .t none (.v (.int .i64 (h)))] (fun (⟨b, hs, e, lv, rv, i2, h2⟩ : Atoms × Atoms × Bool × Int × Int × Int × Int) => depL (b, hs, e, lv, rv) ∧ hs.length ≤ 2 ∧ 0 ≤ i2 ∧ i2 ≤ code.length) (fun (⟨b, hs, e, lv, rv, i2, h2⟩ : Atoms × Atoms × Bool × Int × Int × Int × Int) => [.t none (.sl 1 encU (code)), .t none (.v (.int .i64 (i2))), .t none (.v (.int .i64 (h2)))]) (fun (⟨b, hs, e, lv, rv, i2, h2⟩ : Atoms × Atoms × Bool × Int × Int × Int × Int) => [(2, some (.row none 40 true 2 (enS2 encI (enSl 1 encI)) (b))), (3, some (.row none 40 true 2 (enS2 encI (enSl 1 encI)) (hs)))]) 4 (fun (⟨b, hs, e, lv, rv, i2, h2⟩ : Atoms × Atoms × Bool × Int × Int × Int × Int) => .agg [.own 2, .own 3, .t none (.v (.bool (e))), .t none (.v (.int .i64 (lv))), .t none (.v (.int .i64 (rv)))]) := by
 refine mu_enterG Tryz.func159 rfl (Nat.le_of_ble_eq_true rfl) fun v0 w S M hM => ?_
 refine tsr ?_
 refine r_op (o_alloc 1 (zs := [.slice none 0 0, .slice none 0 0, .bool (false), .int .i64 (0), .int .i64 (0)]) rfl rfl (by kernel_rfl) rfl) ?_
 refine etr ?_
 refine r_op (o_litN 2 (e := 3) (sz := 1) (zs := [.int .i64 (0)]) (enc := encI) [0, 1] rfl rfl (by kernel_rfl) rfl rfl rfl rfl rfl rfl rfl rfl (.cons .sc (.cons .sc .nil)) rfl) ?_
 refine r_op (o_build rfl (pl := [(0, 1), (1, 1)]) (zs := [.int .i64 (0), .slice none 0 0]) (by kernel_rfl) (by kernel_rfl) rfl rfl rfl) ?_
 refine r_op (o_alloc 3 (zs := [.int .i64 (0), .slice none 0 0]) rfl rfl (by kernel_rfl) rfl) ?_
 refine r_op (oS 2) ?_
 refine r_end ?_
 refine t_seq ?_
 refine tsr ?_
 refine r_op oM ?_
 refine r_opX (o_callGM 0 4 5 (pv := some (v0)) (Go.Proofs.enters_of Tryz.func81 (by kernel_rfl) rfl) (c_spec_l1Below (code) (i) (h) (9) (by omega) (by omega) (by omega) (by omega) (by omega)) rfl rfl (.cur rfl (.cons rfl .nil)) rfl (fun ⟨_, _, _⟩ => rfl) (fun _ => rfl) (fun ⟨_, _, _⟩ => rfl) rfl rfl) ?_
 rintro ⟨⟨x1, i22, h23⟩, hq4⟩
 try dsimp only at hq4
 try dsimp only
 obtain ⟨q5, q6⟩ := hq4
 refine r_end ?_
 refine t_block ?_
 refine tsr ?_
 refine r_op oB ?_
 refine r_op oA ?_
 refine r_end ?_
 refine t_cond rfl (fun h7 => ?_) (fun h7 => ?_)
 ·
  have h7' := of_decide_eq_true h7
  refine tsr ?_
  refine r_op (oC 2) ?_
  refine r_op (o_litN 5 (e := 40) (sz := 2) (zs := [.int .i64 (0), .slice none 0 0]) (enc := (enS2 encI (enSl 1 encI))) [(0, [0, 1])] rfl rfl (by kernel_rfl) rfl rfl rfl rfl rfl rfl rfl rfl (.cons .sc (.take (.own rfl) rfl .nil)) rfl) ?_
  refine r_op (o_litN 6 (e := 3) (sz := 1) (zs := [.int .i64 (0)]) (enc := encI) [0, 2] rfl rfl (by kernel_rfl) rfl rfl rfl rfl rfl rfl rfl rfl (.cons .sc (.cons .sc .nil)) rfl) ?_
  refine r_op (o_build rfl (pl := [(0, 1), (1, 1)]) (zs := [.int .i64 (0), .slice none 0 0]) (by kernel_rfl) (by kernel_rfl) rfl rfl rfl) ?_
  refine r_op (o_litN 7 (e := 3) (sz := 1) (zs := [.int .i64 (0)]) (enc := encI) [2, 1] rfl rfl (by kernel_rfl) rfl rfl rfl rfl rfl rfl rfl rfl (.cons .sc (.cons .sc .nil)) rfl) ?_
  refine r_op (o_build rfl (pl := [(0, 1), (1, 1)]) (zs := [.int .i64 (0), .slice none 0 0]) (by kernel_rfl) (by kernel_rfl) rfl rfl rfl) ?_
  refine r_op (o_litN 8 (e := 40) (sz := 2) (zs := [.int .i64 (0), .slice none 0 0]) (enc := (enS2 encI (enSl 1 encI))) [(2, [0, 2]), (3, [2, 1])] rfl rfl (by kernel_rfl) rfl rfl rfl rfl rfl rfl rfl rfl (.cons .sc (.take (.own rfl) rfl (.cons .sc (.take (.own rfl) rfl .nil)))) rfl) ?_
  refine r_op (o_build rfl (pl := [(0, 1), (1, 1), (2, 1), (3, 1), (4, 1)]) (zs := [.slice none 0 0, .slice none 0 0, .bool (false), .int .i64 (0), .int .i64 (0)]) (by kernel_rfl) (by kernel_rfl) rfl rfl rfl) ?_
  refine r_op (oS 5) ?_
  refine r_end ?_
  refine gt_mv 2 5 rfl rfl rfl ?_
  refine gt_mv 3 8 rfl rfl rfl ?_
  refine t_ret Tryz.func159 (.cells (n := 5) (by kernel_rfl) (by kernel_rfl) rfl rfl rfl .nil) rfl fun E S w u hI hd => ?_
  refine post_mkG (⟨[(0, [0, 1])], [(2, [0, 2]), (3, [2, 1])], false, 0, 0, (i22), (h23)⟩) ?_ hI hd ?_ ⟨rfl, ⟨rfl, ⟨rfl, trivial⟩⟩⟩ rfl rfl <;> clear hI hd
  · (try dsimp only) <;> (exact ⟨by simp [depL, atomL], by simp, by omega⟩)
  · rfl
 ·
  have h7' := of_decide_eq_false h7
  refine tsr ?_
  refine r_op oB ?_
  refine r_op oA ?_
  refine r_end ?_
  refine t_cond rfl (fun h8 => ?_) (fun h8 => ?_)
  ·
   have h8' := of_decide_eq_true h8
   refine tsr ?_
   refine r_op (oC 2) ?_
   refine r_op (o_litN 5 (e := 40) (sz := 2) (zs := [.int .i64 (0), .slice none 0 0]) (enc := (enS2 encI (enSl 1 encI))) [(0, [0, 1])] rfl rfl (by kernel_rfl) rfl rfl rfl rfl rfl rfl rfl rfl (.cons .sc (.take (.own rfl) rfl .nil)) rfl) ?_
   refine r_op (o_litN 6 (e := 3) (sz := 1) (zs := [.int .i64 (0)]) (enc := encI) [0, 1] rfl rfl (by kernel_rfl) rfl rfl rfl rfl rfl rfl rfl rfl (.cons .sc (.cons .sc .nil)) rfl) ?_
   refine r_op (o_build rfl (pl := [(0, 1), (1, 1)]) (zs := [.int .i64 (0), .slice none 0 0]) (by kernel_rfl) (by kernel_rfl) rfl rfl rfl) ?_
   refine r_op (o_litN 7 (e := 40) (sz := 2) (zs := [.int .i64 (0), .slice none 0 0]) (enc := (enS2 encI (enSl 1 encI))) [(2, [0, 1])] rfl rfl (by kernel_rfl) rfl rfl rfl rfl rfl rfl rfl rfl (.cons .sc (.take (.own rfl) rfl .nil)) rfl) ?_
   refine r_op (o_build rfl (pl := [(0, 1), (1, 1), (2, 1), (3, 1), (4, 1)]) (zs := [.slice none 0 0, .slice none 0 0, .bool (false), .int .i64 (0), .int .i64 (0)]) (by kernel_rfl) (by kernel_rfl) rfl rfl rfl) ?_
   refine r_op (oS 5) ?_
   refine r_end ?_
   refine gt_mv 2 5 rfl rfl rfl ?_
   refine gt_mv 3 7 rfl rfl rfl ?_
   refine t_ret Tryz.func159 (.cells (n := 5) (by kernel_rfl) (by kernel_rfl) rfl rfl rfl .nil) rfl fun E S w u hI hd => ?_
   refine post_mkG (⟨[(0, [0, 1])], [(2, [0, 1])], false, 0, 0, (i22), (h23)⟩) ?_ hI hd ?_ ⟨rfl, ⟨rfl, ⟨rfl, trivial⟩⟩⟩ rfl rfl <;> clear hI hd
   · (try dsimp only) <;> (exact ⟨by simp [depL, atomL], by simp, by omega⟩)
   · rfl
  ·
   have h8' := of_decide_eq_false h8
   refine tsr ?_
   refine r_op oB ?_
   refine r_op oA ?_
   refine r_end ?_
   refine t_cond rfl (fun h9 => ?_) (fun h9 => ?_)
   ·
    have h9' := of_decide_eq_true h9
    refine tsr ?_
    refine r_op (o_lit1 5 (e := 3) (sz := 1) (zs := [.int .i64 (0)]) (enc := encI) (0) rfl rfl (by kernel_rfl) rfl rfl rfl rfl rfl rfl (.cons .sc .nil)) ?_
    refine r_op (o_build rfl (pl := [(0, 1), (1, 1)]) (zs := [.int .i64 (0), .slice none 0 0]) (by kernel_rfl) (by kernel_rfl) rfl rfl rfl) ?_
    refine r_op (o_litN 6 (e := 40) (sz := 2) (zs := [.int .i64 (0), .slice none 0 0]) (enc := (enS2 encI (enSl 1 encI))) [(1, [0])] rfl rfl (by kernel_rfl) rfl rfl rfl rfl rfl rfl rfl rfl (.cons .sc (.take (.own rfl) rfl .nil)) rfl) ?_
    refine r_op (o_litN 7 (e := 3) (sz := 1) (zs := [.int .i64 (0)]) (enc := encI) [0, 1] rfl rfl (by kernel_rfl) rfl rfl rfl rfl rfl rfl rfl rfl (.cons .sc (.cons .sc .nil)) rfl) ?_
    refine r_op (o_build rfl (pl := [(0, 1), (1, 1)]) (zs := [.int .i64 (0), .slice none 0 0]) (by kernel_rfl) (by kernel_rfl) rfl rfl rfl) ?_
    refine r_op (o_litN 8 (e := 40) (sz := 2) (zs := [.int .i64 (0), .slice none 0 0]) (enc := (enS2 encI (enSl 1 encI))) [(2, [0, 1])] rfl rfl (by kernel_rfl) rfl rfl rfl rfl rfl rfl rfl rfl (.cons .sc (.take (.own rfl) rfl .nil)) rfl) ?_
    refine r_op (o_build rfl (pl := [(0, 1), (1, 1), (2, 1), (3, 1), (4, 1)]) (zs := [.slice none 0 0, .slice none 0 0, .bool (false), .int .i64 (0), .int .i64 (0)]) (by kernel_rfl) (by kernel_rfl) rfl rfl rfl) ?_
    refine r_op (oS 5) ?_
    refine r_end ?_
    refine gt_mv 2 6 rfl rfl rfl ?_
    refine gt_mv 3 8 rfl rfl rfl ?_
    refine t_ret Tryz.func159 (.cells (n := 5) (by kernel_rfl) (by kernel_rfl) rfl rfl rfl .nil) rfl fun E S w u hI hd => ?_
    refine post_mkG (⟨[(1, [0])], [(2, [0, 1])], false, 0, 0, (i22), (h23)⟩) ?_ hI hd ?_ ⟨rfl, ⟨rfl, ⟨rfl, trivial⟩⟩⟩ rfl rfl <;> clear hI hd
    · (try dsimp only) <;> (exact ⟨by simp [depL, atomL], by simp, by omega⟩)
    · rfl
   ·
    have h9' := of_decide_eq_false h9
    refine tsr ?_
    refine r_op oB ?_
    refine r_op oA ?_
    refine r_end ?_
    refine t_cond rfl (fun h10 => ?_) (fun h10 => ?_)
    ·
     have h10' := of_decide_eq_true h10
     refine tsr ?_
     refine r_op (o_litN 5 (e := 3) (sz := 1) (zs := [.int .i64 (0)]) (enc := encI) [0, 1] rfl rfl (by kernel_rfl) rfl rfl rfl rfl rfl rfl rfl rfl (.cons .sc (.cons .sc .nil)) rfl) ?_
     refine r_op (o_build rfl (pl := [(0, 1), (1, 1)]) (zs := [.int .i64 (0), .slice none 0 0]) (by kernel_rfl) (by kernel_rfl) rfl rfl rfl) ?_
     refine r_op (o_litN 6 (e := 3) (sz := 1) (zs := [.int .i64 (0)]) (enc := encI) [0, 2] rfl rfl (by kernel_rfl) rfl rfl rfl rfl rfl rfl rfl rfl (.cons .sc (.cons .sc .nil)) rfl) ?_
     refine r_op (o_build rfl (pl := [(0, 1), (1, 1)]) (zs := [.int .i64 (0), .slice none 0 0]) (by kernel_rfl) (by kernel_rfl) rfl rfl rfl) ?_
     refine r_op (o_litN 7 (e := 40) (sz := 2) (zs := [.int .i64 (0), .slice none 0 0]) (enc := (enS2 encI (enSl 1 encI))) [(2, [0, 1]), (2, [0, 2])] rfl rfl (by kernel_rfl) rfl rfl rfl rfl rfl rfl rfl rfl (.cons .sc (.take (.own rfl) rfl (.cons .sc (.take (.own rfl) rfl .nil)))) rfl) ?_
     refine r_op (o_build rfl (pl := [(0, 1), (1, 1), (2, 1), (3, 1), (4, 1)]) (zs := [.slice none 0 0, .slice none 0 0, .bool (false), .int .i64 (0), .int .i64 (0)]) (by kernel_rfl) (by kernel_rfl) rfl rfl rfl) ?_
     refine r_op (oS 5) ?_
     refine r_end ?_
     refine gt_nilb 8 (b := 1) (o := 1) (et := 40) (sz := 2) true (enS2 encI (enSl 1 encI)) rfl rfl rfl ?_
     refine gt_mv 2 7 rfl rfl rfl ?_
     refine gt_mv 3 8 rfl rfl rfl ?_
     refine t_ret Tryz.func159 (.cells (n := 5) (by kernel_rfl) (by kernel_rfl) rfl rfl rfl .nil) rfl fun E S w u hI hd => ?_
     refine post_mkG (⟨[(2, [0, 1]), (2, [0, 2])], [], true, 1, 2, (i22), (h23)⟩) ?_ hI hd ?_ ⟨rfl, ⟨rfl, ⟨rfl, trivial⟩⟩⟩ rfl rfl <;> clear hI hd
     · (try dsimp only) <;> (exact ⟨by simp [depL, atomL], by simp, by omega⟩)
     · rfl
    ·
     have h10' := of_decide_eq_false h10
     refine tsr ?_
     refine r_op oB ?_
     refine r_op oA ?_
     refine r_end ?_
     refine t_cond rfl (fun h11 => ?_) (fun h11 => ?_)
     ·
      have h11' := of_decide_eq_true h11
      refine tsr ?_
      refine r_op (o_litN 5 (e := 3) (sz := 1) (zs := [.int .i64 (0)]) (enc := encI) [0, 1] rfl rfl (by kernel_rfl) rfl rfl rfl rfl rfl rfl rfl rfl (.cons .sc (.cons .sc .nil)) rfl) ?_
      refine r_op (o_build rfl (pl := [(0, 1), (1, 1)]) (zs := [.int .i64 (0), .slice none 0 0]) (by kernel_rfl) (by kernel_rfl) rfl rfl rfl) ?_
      refine r_op (o_litN 6 (e := 3) (sz := 1) (zs := [.int .i64 (0)]) (enc := encI) [1, 2] rfl rfl (by kernel_rfl) rfl rfl rfl rfl rfl rfl rfl rfl (.cons .sc (.cons .sc .nil)) rfl) ?_
      refine r_op (o_build rfl (pl := [(0, 1), (1, 1)]) (zs := [.int .i64 (0), .slice none 0 0]) (by kernel_rfl) (by kernel_rfl) rfl rfl rfl) ?_
      refine r_op (o_litN 7 (e := 40) (sz := 2) (zs := [.int .i64 (0), .slice none 0 0]) (enc := (enS2 encI (enSl 1 encI))) [(2, [0, 1]), (3, [1, 2])] rfl rfl (by kernel_rfl) rfl rfl rfl rfl rfl rfl rfl rfl (.cons .sc (.take (.own rfl) rfl (.cons .sc (.take (.own rfl) rfl .nil)))) rfl) ?_
      refine r_op (o_lit1 8 (e := 3) (sz := 1) (zs := [.int .i64 (0)]) (enc := encI) (0) rfl rfl (by kernel_rfl) rfl rfl rfl rfl rfl rfl (.cons .sc .nil)) ?_
      refine r_op (o_build rfl (pl := [(0, 1), (1, 1)]) (zs := [.int .i64 (0), .slice none 0 0]) (by kernel_rfl) (by kernel_rfl) rfl rfl rfl) ?_
      refine r_op (o_litN 9 (e := 40) (sz := 2) (zs := [.int .i64 (0), .slice none 0 0]) (enc := (enS2 encI (enSl 1 encI))) [(4, [0])] rfl rfl (by kernel_rfl) rfl rfl rfl rfl rfl rfl rfl rfl (.cons .sc (.take (.own rfl) rfl .nil)) rfl) ?_
      refine r_op (o_build rfl (pl := [(0, 1), (1, 1), (2, 1), (3, 1), (4, 1)]) (zs := [.slice none 0 0, .slice none 0 0, .bool (false), .int .i64 (0), .int .i64 (0)]) (by kernel_rfl) (by kernel_rfl) rfl rfl rfl) ?_
      refine r_op (oS 5) ?_
      refine r_end ?_
      refine gt_mv 2 7 rfl rfl rfl ?_
      refine gt_mv 3 9 rfl rfl rfl ?_
      refine t_ret Tryz.func159 (.cells (n := 5) (by kernel_rfl) (by kernel_rfl) rfl rfl rfl .nil) rfl fun E S w u hI hd => ?_
      refine post_mkG (⟨[(2, [0, 1]), (3, [1, 2])], [(4, [0])], false, 0, 0, (i22), (h23)⟩) ?_ hI hd ?_ ⟨rfl, ⟨rfl, ⟨rfl, trivial⟩⟩⟩ rfl rfl <;> clear hI hd
      · (try dsimp only) <;> (exact ⟨by simp [depL, atomL], by simp, by omega⟩)
      · rfl
     ·
      have h11' := of_decide_eq_false h11
      refine tsr ?_
      refine r_op oB ?_
      refine r_op oA ?_
      refine r_end ?_
      refine t_cond rfl (fun h12 => ?_) (fun h12 => ?_)
      ·
       have h12' := of_decide_eq_true h12
       refine tsr ?_
       refine r_op (o_lit1 5 (e := 3) (sz := 1) (zs := [.int .i64 (0)]) (enc := encI) (0) rfl rfl (by kernel_rfl) rfl rfl rfl rfl rfl rfl (.cons .sc .nil)) ?_
       refine r_op (o_build rfl (pl := [(0, 1), (1, 1)]) (zs := [.int .i64 (0), .slice none 0 0]) (by kernel_rfl) (by kernel_rfl) rfl rfl rfl) ?_
       refine r_op (o_litN 6 (e := 40) (sz := 2) (zs := [.int .i64 (0), .slice none 0 0]) (enc := (enS2 encI (enSl 1 encI))) [(4, [0])] rfl rfl (by kernel_rfl) rfl rfl rfl rfl rfl rfl rfl rfl (.cons .sc (.take (.own rfl) rfl .nil)) rfl) ?_
       refine r_op (o_litN 7 (e := 3) (sz := 1) (zs := [.int .i64 (0)]) (enc := encI) [0, 1] rfl rfl (by kernel_rfl) rfl rfl rfl rfl rfl rfl rfl rfl (.cons .sc (.cons .sc .nil)) rfl) ?_
       refine r_op (o_build rfl (pl := [(0, 1), (1, 1)]) (zs := [.int .i64 (0), .slice none 0 0]) (by kernel_rfl) (by kernel_rfl) rfl rfl rfl) ?_
       refine r_op (o_litN 8 (e := 40) (sz := 2) (zs := [.int .i64 (0), .slice none 0 0]) (enc := (enS2 encI (enSl 1 encI))) [(3, [0, 1])] rfl rfl (by kernel_rfl) rfl rfl rfl rfl rfl rfl rfl rfl (.cons .sc (.take (.own rfl) rfl .nil)) rfl) ?_
       refine r_op (o_build rfl (pl := [(0, 1), (1, 1), (2, 1), (3, 1), (4, 1)]) (zs := [.slice none 0 0, .slice none 0 0, .bool (false), .int .i64 (0), .int .i64 (0)]) (by kernel_rfl) (by kernel_rfl) rfl rfl rfl) ?_
       refine r_op (oS 5) ?_
       refine r_end ?_
       refine gt_mv 2 6 rfl rfl rfl ?_
       refine gt_mv 3 8 rfl rfl rfl ?_
       refine t_ret Tryz.func159 (.cells (n := 5) (by kernel_rfl) (by kernel_rfl) rfl rfl rfl .nil) rfl fun E S w u hI hd => ?_
       refine post_mkG (⟨[(4, [0])], [(3, [0, 1])], false, 0, 0, (i22), (h23)⟩) ?_ hI hd ?_ ⟨rfl, ⟨rfl, ⟨rfl, trivial⟩⟩⟩ rfl rfl <;> clear hI hd
       · (try dsimp only) <;> (exact ⟨by simp [depL, atomL], by simp, by omega⟩)
       · rfl
      ·
       have h12' := of_decide_eq_false h12
       refine tsr ?_
       refine r_op oB ?_
       refine r_op oA ?_
       refine r_end ?_
       refine t_cond rfl (fun h13 => ?_) (fun h13 => ?_)
       ·
        have h13' := of_decide_eq_true h13
        refine tsr ?_
        refine r_op (o_litN 5 (e := 3) (sz := 1) (zs := [.int .i64 (0)]) (enc := encI) [0, 1] rfl rfl (by kernel_rfl) rfl rfl rfl rfl rfl rfl rfl rfl (.cons .sc (.cons .sc .nil)) rfl) ?_
        refine r_op (o_build rfl (pl := [(0, 1), (1, 1)]) (zs := [.int .i64 (0), .slice none 0 0]) (by kernel_rfl) (by kernel_rfl) rfl rfl rfl) ?_
        refine r_op (o_litN 6 (e := 40) (sz := 2) (zs := [.int .i64 (0), .slice none 0 0]) (enc := (enS2 encI (enSl 1 encI))) [(2, [0, 1])] rfl rfl (by kernel_rfl) rfl rfl rfl rfl rfl rfl rfl rfl (.cons .sc (.take (.own rfl) rfl .nil)) rfl) ?_
        refine r_op (o_lit1 7 (e := 3) (sz := 1) (zs := [.int .i64 (0)]) (enc := encI) (1) rfl rfl (by kernel_rfl) rfl rfl rfl rfl rfl rfl (.cons .sc .nil)) ?_
        refine r_op (o_build rfl (pl := [(0, 1), (1, 1)]) (zs := [.int .i64 (0), .slice none 0 0]) (by kernel_rfl) (by kernel_rfl) rfl rfl rfl) ?_
        refine r_op (o_litN 8 (e := 40) (sz := 2) (zs := [.int .i64 (0), .slice none 0 0]) (enc := (enS2 encI (enSl 1 encI))) [(4, [1])] rfl rfl (by kernel_rfl) rfl rfl rfl rfl rfl rfl rfl rfl (.cons .sc (.take (.own rfl) rfl .nil)) rfl) ?_
        refine r_op (o_build rfl (pl := [(0, 1), (1, 1), (2, 1), (3, 1), (4, 1)]) (zs := [.slice none 0 0, .slice none 0 0, .bool (false), .int .i64 (0), .int .i64 (0)]) (by kernel_rfl) (by kernel_rfl) rfl rfl rfl) ?_
        refine r_op (oS 5) ?_
        refine r_end ?_
        refine gt_mv 2 6 rfl rfl rfl ?_
        refine gt_mv 3 8 rfl rfl rfl ?_
        refine t_ret Tryz.func159 (.cells (n := 5) (by kernel_rfl) (by kernel_rfl) rfl rfl rfl .nil) rfl fun E S w u hI hd => ?_
        refine post_mkG (⟨[(2, [0, 1])], [(4, [1])], false, 0, 0, (i22), (h23)⟩) ?_ hI hd ?_ ⟨rfl, ⟨rfl, ⟨rfl, trivial⟩⟩⟩ rfl rfl <;> clear hI hd
        · (try dsimp only) <;> (exact ⟨by simp [depL, atomL], by simp, by omega⟩)
        · rfl
       ·
        have h13' := of_decide_eq_false h13
        refine tsr ?_
        refine r_op oB ?_
        refine r_op oA ?_
        refine r_end ?_
        refine t_cond rfl (fun h14 => ?_) (fun h14 => ?_)
        ·
         have h14' := of_decide_eq_true h14
         refine tsr ?_
         refine r_op (o_litN 5 (e := 3) (sz := 1) (zs := [.int .i64 (0)]) (enc := encI) [0, 1] rfl rfl (by kernel_rfl) rfl rfl rfl rfl rfl rfl rfl rfl (.cons .sc (.cons .sc .nil)) rfl) ?_
         refine r_op (o_build rfl (pl := [(0, 1), (1, 1)]) (zs := [.int .i64 (0), .slice none 0 0]) (by kernel_rfl) (by kernel_rfl) rfl rfl rfl) ?_
         refine r_op (o_litN 6 (e := 40) (sz := 2) (zs := [.int .i64 (0), .slice none 0 0]) (enc := (enS2 encI (enSl 1 encI))) [(2, [0, 1])] rfl rfl (by kernel_rfl) rfl rfl rfl rfl rfl rfl rfl rfl (.cons .sc (.take (.own rfl) rfl .nil)) rfl) ?_
         refine r_op (o_litN 7 (e := 3) (sz := 1) (zs := [.int .i64 (0)]) (enc := encI) [1, 2] rfl rfl (by kernel_rfl) rfl rfl rfl rfl rfl rfl rfl rfl (.cons .sc (.cons .sc .nil)) rfl) ?_
         refine r_op (o_build rfl (pl := [(0, 1), (1, 1)]) (zs := [.int .i64 (0), .slice none 0 0]) (by kernel_rfl) (by kernel_rfl) rfl rfl rfl) ?_
         refine r_op (o_litN 8 (e := 40) (sz := 2) (zs := [.int .i64 (0), .slice none 0 0]) (enc := (enS2 encI (enSl 1 encI))) [(2, [1, 2])] rfl rfl (by kernel_rfl) rfl rfl rfl rfl rfl rfl rfl rfl (.cons .sc (.take (.own rfl) rfl .nil)) rfl) ?_
         refine r_op (o_build rfl (pl := [(0, 1), (1, 1), (2, 1), (3, 1), (4, 1)]) (zs := [.slice none 0 0, .slice none 0 0, .bool (false), .int .i64 (0), .int .i64 (0)]) (by kernel_rfl) (by kernel_rfl) rfl rfl rfl) ?_
         refine r_op (oS 5) ?_
         refine r_end ?_
         refine gt_mv 2 6 rfl rfl rfl ?_
         refine gt_mv 3 8 rfl rfl rfl ?_
         refine t_ret Tryz.func159 (.cells (n := 5) (by kernel_rfl) (by kernel_rfl) rfl rfl rfl .nil) rfl fun E S w u hI hd => ?_
         refine post_mkG (⟨[(2, [0, 1])], [(2, [1, 2])], false, 0, 0, (i22), (h23)⟩) ?_ hI hd ?_ ⟨rfl, ⟨rfl, ⟨rfl, trivial⟩⟩⟩ rfl rfl <;> clear hI hd
         · (try dsimp only) <;> (exact ⟨by simp [depL, atomL], by simp, by omega⟩)
         · rfl
        ·
         have h14' := of_decide_eq_false h14
         refine t_skip ?_
         refine t_endblock ?_
         refine tsr ?_
         refine r_op (o_litN 5 (e := 3) (sz := 1) (zs := [.int .i64 (0)]) (enc := encI) [0, 1] rfl rfl (by kernel_rfl) rfl rfl rfl rfl rfl rfl rfl rfl (.cons .sc (.cons .sc .nil)) rfl) ?_
         refine r_op (o_build rfl (pl := [(0, 1), (1, 1)]) (zs := [.int .i64 (0), .slice none 0 0]) (by kernel_rfl) (by kernel_rfl) rfl rfl rfl) ?_
         refine r_op (o_litN 6 (e := 3) (sz := 1) (zs := [.int .i64 (0)]) (enc := encI) [1, 0] rfl rfl (by kernel_rfl) rfl rfl rfl rfl rfl rfl rfl rfl (.cons .sc (.cons .sc .nil)) rfl) ?_
         refine r_op (o_build rfl (pl := [(0, 1), (1, 1)]) (zs := [.int .i64 (0), .slice none 0 0]) (by kernel_rfl) (by kernel_rfl) rfl rfl rfl) ?_
         refine r_op (o_litN 7 (e := 40) (sz := 2) (zs := [.int .i64 (0), .slice none 0 0]) (enc := (enS2 encI (enSl 1 encI))) [(3, [0, 1]), (3, [1, 0])] rfl rfl (by kernel_rfl) rfl rfl rfl rfl rfl rfl rfl rfl (.cons .sc (.take (.own rfl) rfl (.cons .sc (.take (.own rfl) rfl .nil)))) rfl) ?_
         refine r_op (o_build rfl (pl := [(0, 1), (1, 1), (2, 1), (3, 1), (4, 1)]) (zs := [.slice none 0 0, .slice none 0 0, .bool (false), .int .i64 (0), .int .i64 (0)]) (by kernel_rfl) (by kernel_rfl) rfl rfl rfl) ?_
         refine r_op (oS 5) ?_
         refine r_end ?_
         refine gt_nilb 8 (b := 1) (o := 1) (et := 40) (sz := 2) true (enS2 encI (enSl 1 encI)) rfl rfl rfl ?_
         refine gt_mv 2 7 rfl rfl rfl ?_
         refine gt_mv 3 8 rfl rfl rfl ?_
         refine t_ret Tryz.func159 (.cells (n := 5) (by kernel_rfl) (by kernel_rfl) rfl rfl rfl .nil) rfl fun E S w u hI hd => ?_
         refine post_mkG (⟨[(3, [0, 1]), (3, [1, 0])], [], true, 0, 1, (i22), (h23)⟩) ?_ hI hd ?_ ⟨rfl, ⟨rfl, ⟨rfl, trivial⟩⟩⟩ rfl rfl <;> clear hI hd
         · (try dsimp only) <;> (exact ⟨by simp [depL, atomL], by simp, by omega⟩)
         · rfl
set_option maxHeartbeats 1000000 in
set_option maxRecDepth 10000 in
theorem c_spec_l9Atom (code : List Int) (i h r vars : Int) (hc : code.length ≤ 1048576) (hi0 : 0 ≤ i) (hi1 : i ≤ code.length) (hr : 0 ≤ r ∧ r ≤ 4) (hv : 1 ≤ vars ∧ vars ≤ 5) : MuG Tryz.prog 160 [.c (.ptr 0 0), .c (.t none (.v (.int .i64 (r)))), .c (.t none (.v (.int .i64 (vars))))] [.t none (.sl 1 encU (code)), .t none (.v (.int .i64 (i))), .t none (.v (.int .i64 (h)))] (fun (⟨ts, i2, h2⟩ : (List Int) × Int × Int) => (1 ≤ ts.length ∧ ts.length ≤ 2) ∧ (∀ x ∈ ts, -3 ≤ x ∧ x ≤ 4) ∧ 0 ≤ i2 ∧ i2 ≤ code.length) (fun (⟨ts, i2, h2⟩ : (List Int) × Int × Int) => [.t none (.sl 1 encU (code)), .t none (.v (.int .i64 (i2))), .t none (.v (.int .i64 (h2)))]) (fun (⟨ts, i2, h2⟩ : (List Int) × Int × Int) => [(4, some (.row none 3 true 1 encI (ts)))]) 5 (fun (⟨ts, i2, h2⟩ : (List Int) × Int × Int) => .agg [.t none (.v (.int .i64 (r))), .own 4]) := by
 refine mu_enterG Tryz.func160 rfl (Nat.le_of_ble_eq_true rfl) fun v0 w S M hM => ?_
 have ar := arS_le hr
 refine tsr ?_
 refine r_op (o_alloc 1 (zs := [.int .i64 (0), .slice none 0 0]) rfl rfl (by kernel_rfl) rfl) ?_
 refine etr ?_
 refine r_op (o_call 2 3 false (Go.Proofs.enters_of Tryz.func133 (by kernel_rfl) rfl) (c_spec_l3Sigs ) rfl .nil rfl rfl rfl) ?_
 refine r_op oA ?_
 refine etr ?_
 refine r_op oM ?_
 refine r_op (o_build rfl (pl := [(0, 1), (1, 1)]) (zs := [.int .i64 (0), .slice none 0 0]) (by kernel_rfl) (by kernel_rfl) rfl rfl rfl) ?_
 refine r_op (o_alloc 3 (zs := [.int .i64 (0), .slice none 0 0]) rfl rfl (by kernel_rfl) rfl) ?_
 refine r_op (oS 2) ?_
 refine r_end ?_
 refine t_seq ?_
 refine t_block ?_
 refine gt_nilb 4 (b := 3) (o := 1) (et := 3) (sz := 1) true encI rfl rfl rfl ?_
 refine t_loopL (fun (ts, i3, h3) => ⟨[(0, some (.c (.ptr 0 0))), (1, some (.c (.t none (.v (.int .i64 (r)))))), (2, some (.c (.t none (.v (.int .i64 (vars)))))), (6, some (.c (.ptr 1 0))), (7, some (.c (.own 2))), (8, some (.c (.ptr 3 0)))], [(0, some (.pbox (v0) [.t none (.sl 1 encU (code)), .t none (.v (.int .i64 (i3))), .t none (.v (.int .i64 (h3)))])), (1, some (.box [.t none (.v (.int .i64 (0))), .t none (.v (.slice none 0 0))])), (2, some (.row none 94 true 3 (enS3 encS encI encB) (sigs5))), (3, some (.box [.t none (.v (.int .i64 (r))), .own 4])), (4, some (.row none 3 true 1 encI (ts)))], 5⟩ : List Int × Int × Int → St) (fun (ts, i3, h3) => ((ts.length : Int) ≤ arS r) ∧ (∀ x ∈ ts, -3 ≤ x ∧ x ≤ 4) ∧ (0 ≤ i3 ∧ i3 ≤ code.length)) (fun (ts, i3, h3) => 2 - ts.length) ([], i, h) ⟨⟨rfl, ⟨rfl, ⟨rfl, ⟨rfl, ⟨rfl, ⟨rfl, trivial⟩⟩⟩⟩⟩⟩, ⟨rfl, ⟨rfl, ⟨rfl, ⟨rfl, ⟨rfl, trivial⟩⟩⟩⟩⟩, rfl⟩ (by exact ⟨by simp; omega, fun x hx => by simp at hx, by omega⟩) ?_
 rintro ⟨ts, i3, h3⟩ hI ih0
 try dsimp only at hI ih0
 obtain ⟨j1, j2, j3⟩ := hI
 refine t_seq ?_
 refine t_seq ?_
 refine t_draw (fun _ => true) (by kernel_rfl) ?_
 refine dT 0 rfl (pF 1) ?_
 refine dT 1 rfl pL ?_
 refine dT 2 rfl (p_leno rfl rfl rfl) ?_
 refine dT 3 rfl pM ?_
 refine dT 4 rfl pM ?_
 obtain ⟨z1, hz2, b3⟩ := at_get (xs := sigs5) (n := r) (by omega) (by (rw [sigs5_len]; omega))
 refine dT 5 rfl (p_indexo (by kernel_rfl) rfl rfl rfl b3 (at_lt b3 hz2)) ?_
 refine dT 6 rfl (p_fieldo (off := 1) (by kernel_rfl) rfl) ?_
 refine dT 7 rfl (p_load1o (by kernel_rfl) rfl rfl rfl hz2) ?_
 refine dT 8 rfl pB ?_
 refine d_end (by kernel_rfl) ?_
 refine t_cond rfl (fun h4 => ?_) (fun h4 => ?_)
 ·
  have h4' := of_decide_eq_true h4
  refine t_skip ?_
  refine t_block ?_
  refine tsr ?_
  refine r_op oM ?_
  refine r_opX (o_callGM 0 5 6 (pv := some (v0)) (Go.Proofs.enters_of Tryz.func61 (by kernel_rfl) rfl) (c_spec_l1Once (code) (i3) (h3) (14) (by omega) (by omega) (by omega) (by omega) (by omega)) rfl rfl (.cur rfl (.cons rfl .nil)) rfl (fun ⟨_, _, _⟩ => rfl) (fun _ => rfl) (fun ⟨_, _, _⟩ => rfl) rfl rfl) ?_
  rintro ⟨⟨b5, i26, h27⟩, hq8⟩
  try dsimp only at hq8
  try dsimp only
  refine r_end ?_
  refine t_cond rfl (fun h10 => ?_) (fun h10 => ?_)
  ·
   have h10' := h10
   refine t_draw (fun i => !(Nat.beq i 3 || Nat.beq i 6 || Nat.beq i 8)) (by kernel_rfl) ?_
   refine d_takeP 0 rfl rfl (by kernel_rfl) (by kernel_rfl) (by kernel_rfl) (pw_fieldb (off := 1) (by kernel_rfl) rfl) ?_
   refine dT 2 rfl pM ?_
   refine d_twoX 1 3 rfl rfl (by kernel_rfl) rfl rfl (osX oL) (o_callGM 0 6 7 (pv := some (v0)) (Go.Proofs.enters_of Tryz.func81 (by kernel_rfl) rfl) (c_spec_l1Below ((code)) ((i26)) ((h27)) (3) (by omega) (by omega) (by omega) (by omega) (by omega)) rfl rfl (.cur rfl (.cons rfl .nil)) rfl (fun ⟨_, _, _⟩ => rfl) (fun _ => rfl) (fun ⟨_, _, _⟩ => rfl) rfl rfl) ?_ ?_
   ·
    rintro ⟨⟩
    refine dOX 3 rfl (o_callGM 0 6 7 (pv := some (v0)) (Go.Proofs.enters_of Tryz.func81 (by kernel_rfl) rfl) (c_spec_l1Below ((code)) ((i26)) ((h27)) (3) (by omega) (by omega) (by omega) (by omega) (by omega)) rfl rfl (.cur rfl (.cons rfl .nil)) rfl (fun ⟨_, _, _⟩ => rfl) (fun _ => rfl) (fun ⟨_, _, _⟩ => rfl) rfl rfl) ?_
    rintro ⟨⟨x17, i218, h219⟩, hq20⟩
    try dsimp only at hq20
    try dsimp only
    obtain ⟨q21, q22⟩ := hq20
    refine dT 4 rfl pB ?_
    refine dO 5 rfl (o_litS 7 (e := 3) (sz := 1) (zs := [.int .i64 (0)]) rfl rfl (by kernel_rfl) rfl rfl rfl rfl rfl) ?_
    refine dO 6 rfl (o_append 4 (e := 3) (sz := 1) (by' := 8) (IntKind.i64.wrap ((-1) - (x17))) rfl (by kernel_rfl) rfl rfl rfl rfl rfl rfl (.cons .sc .nil) rfl (by omega) (by omega)) ?_
    refine dT 7 rfl (pF 1) ?_
    refine dO 8 rfl (oS 1) ?_
    refine d_end (by kernel_rfl) ?_
    refine t_endblock ?_
    have sg := sig_at hz2
    refine t_le ?_ (ih0 (ts ++ [IntKind.i64.wrap ((-1) - (x17))], (i218), (h219)) (by (try dsimp only); (simp; omega)) (by (try dsimp only); exact ⟨by (simp only [List.length_append, List.length_singleton]; omega), mem_snoc j2 (by (try simp only [IntKind.wrap_i64]); omega), by omega⟩))
    exact ⟨⟨rfl, ⟨rfl, ⟨rfl, ⟨rfl, ⟨rfl, ⟨rfl, trivial⟩⟩⟩⟩⟩⟩, ⟨rfl, ⟨rfl, ⟨rfl, ⟨rfl, ⟨rfl, trivial⟩⟩⟩⟩⟩, rfl⟩
   ·
    rintro ⟨⟨x11, i212, h213⟩, hq14⟩
    try dsimp only at hq14
    try dsimp only
    obtain ⟨q15, q16⟩ := hq14
    refine dT 1 rfl pL ?_
    refine dT 4 rfl pB ?_
    refine dO 5 rfl (o_litS 7 (e := 3) (sz := 1) (zs := [.int .i64 (0)]) rfl rfl (by kernel_rfl) rfl rfl rfl rfl rfl) ?_
    refine dO 6 rfl (o_append 4 (e := 3) (sz := 1) (by' := 8) (IntKind.i64.wrap ((-1) - (x11))) rfl (by kernel_rfl) rfl rfl rfl rfl rfl rfl (.cons .sc .nil) rfl (by omega) (by omega)) ?_
    refine dT 7 rfl (pF 1) ?_
    refine dO 8 rfl (oS 1) ?_
    refine d_end (by kernel_rfl) ?_
    refine t_endblock ?_
    have sg := sig_at hz2
    refine t_le ?_ (ih0 (ts ++ [IntKind.i64.wrap ((-1) - (x11))], (i212), (h213)) (by (try dsimp only); (simp; omega)) (by (try dsimp only); exact ⟨by (simp only [List.length_append, List.length_singleton]; omega), mem_snoc j2 (by (try simp only [IntKind.wrap_i64]); omega), by omega⟩))
    exact ⟨⟨rfl, ⟨rfl, ⟨rfl, ⟨rfl, ⟨rfl, ⟨rfl, trivial⟩⟩⟩⟩⟩⟩, ⟨rfl, ⟨rfl, ⟨rfl, ⟨rfl, ⟨rfl, trivial⟩⟩⟩⟩⟩, rfl⟩
  ·
   have h10' := h10
   refine t_draw (fun i => !(Nat.beq i 4 || Nat.beq i 6 || Nat.beq i 8)) (by kernel_rfl) ?_
   refine d_takeP 0 rfl rfl (by kernel_rfl) (by kernel_rfl) (by kernel_rfl) (pw_fieldb (off := 1) (by kernel_rfl) rfl) ?_
   refine dT 2 rfl pM ?_
   refine dT 3 rfl pM ?_
   refine d_twoX 1 4 rfl rfl (by kernel_rfl) rfl rfl (osX oL) (o_callGM 0 6 7 (pv := some (v0)) (Go.Proofs.enters_of Tryz.func81 (by kernel_rfl) rfl) (c_spec_l1Below ((code)) ((i26)) ((h27)) (vars) (by omega) (by omega) (by omega) (by omega) (by omega)) rfl rfl (.cur rfl (.cons rfl .nil)) rfl (fun ⟨_, _, _⟩ => rfl) (fun _ => rfl) (fun ⟨_, _, _⟩ => rfl) rfl rfl) ?_ ?_
   ·
    rintro ⟨⟩
    refine dOX 4 rfl (o_callGM 0 6 7 (pv := some (v0)) (Go.Proofs.enters_of Tryz.func81 (by kernel_rfl) rfl) (c_spec_l1Below ((code)) ((i26)) ((h27)) (vars) (by omega) (by omega) (by omega) (by omega) (by omega)) rfl rfl (.cur rfl (.cons rfl .nil)) rfl (fun ⟨_, _, _⟩ => rfl) (fun _ => rfl) (fun ⟨_, _, _⟩ => rfl) rfl rfl) ?_
    rintro ⟨⟨x29, i230, h231⟩, hq32⟩
    try dsimp only at hq32
    try dsimp only
    obtain ⟨q33, q34⟩ := hq32
    refine dO 5 rfl (o_litS 7 (e := 3) (sz := 1) (zs := [.int .i64 (0)]) rfl rfl (by kernel_rfl) rfl rfl rfl rfl rfl) ?_
    refine dO 6 rfl (o_append 4 (e := 3) (sz := 1) (by' := 8) ((x29)) rfl (by kernel_rfl) rfl rfl rfl rfl rfl rfl (.cons .sc .nil) rfl (by omega) (by omega)) ?_
    refine dT 7 rfl (pF 1) ?_
    refine dO 8 rfl (oS 1) ?_
    refine d_end (by kernel_rfl) ?_
    refine t_endblock ?_
    have sg := sig_at hz2
    refine t_le ?_ (ih0 (ts ++ [(x29)], (i230), (h231)) (by (try dsimp only); (simp; omega)) (by (try dsimp only); exact ⟨by (simp only [List.length_append, List.length_singleton]; omega), mem_snoc j2 (by (try simp only [IntKind.wrap_i64]); omega), by omega⟩))
    exact ⟨⟨rfl, ⟨rfl, ⟨rfl, ⟨rfl, ⟨rfl, ⟨rfl, trivial⟩⟩⟩⟩⟩⟩, ⟨rfl, ⟨rfl, ⟨rfl, ⟨rfl, ⟨rfl, trivial⟩⟩⟩⟩⟩, rfl⟩
   ·
    rintro ⟨⟨x23, i224, h225⟩, hq26⟩
    try dsimp only at hq26
    try dsimp only
    obtain ⟨q27, q28⟩ := hq26
    refine dT 1 rfl pL ?_
    refine dO 5 rfl (o_litS 7 (e := 3) (sz := 1) (zs := [.int .i64 (0)]) rfl rfl (by kernel_rfl) rfl rfl rfl rfl rfl) ?_
    refine dO 6 rfl (o_append 4 (e := 3) (sz := 1) (by' := 8) ((x23)) rfl (by kernel_rfl) rfl rfl rfl rfl rfl rfl (.cons .sc .nil) rfl (by omega) (by omega)) ?_
    refine dT 7 rfl (pF 1) ?_
    refine dO 8 rfl (oS 1) ?_
    refine d_end (by kernel_rfl) ?_
    refine t_endblock ?_
    have sg := sig_at hz2
    refine t_le ?_ (ih0 (ts ++ [(x23)], (i224), (h225)) (by (try dsimp only); (simp; omega)) (by (try dsimp only); exact ⟨by (simp only [List.length_append, List.length_singleton]; omega), mem_snoc j2 (by (try simp only [IntKind.wrap_i64]); omega), by omega⟩))
    exact ⟨⟨rfl, ⟨rfl, ⟨rfl, ⟨rfl, ⟨rfl, ⟨rfl, trivial⟩⟩⟩⟩⟩⟩, ⟨rfl, ⟨rfl, ⟨rfl, ⟨rfl, ⟨rfl, trivial⟩⟩⟩⟩⟩, rfl⟩
 ·
  have h4' := of_decide_eq_false h4
  refine t_exit rfl ?_
  refine tsr ?_
  refine r_op (oC 2) ?_
  refine r_op (oS 2) ?_
  refine r_end ?_
  refine t_ret Tryz.func160 (.cells (n := 2) (by kernel_rfl) (by kernel_rfl) rfl rfl rfl .nil) rfl fun E S w u hI hd => ?_
  refine post_mkG (⟨ts, i3, h3⟩) ?_ hI hd ?_ ⟨rfl, ⟨rfl, trivial⟩⟩ rfl rfl <;> clear hI hd <;> (try clear ih0)
  · (try dsimp only) <;> ((have sg := sig_at hz2); exact ⟨by omega, j2, by omega⟩)
  · rfl
set_option maxHeartbeats 1000000 in
set_option maxRecDepth 10000 in
theorem c_spec_l4Put (U : Nat → Value) (l : List Int) (x : Int) (hl : l.length ≤ 1099511627776) : Mu Tryz.prog 127 [.c (.own 0), .c (.t none (.v (.int .i64 (x))))] [(0, some (.row (some (U 0)) 3 true 1 encI (l)))] 1 [(0, some (.row none 3 true 1 encI (putI l x)))] 1 (.c (.own 0)) := by
 refine mu_enter Tryz.func127 rfl (Nat.le_of_ble_eq_true rfl) fun w S M => ?_
 refine tsr ?_
 refine r_op oA ?_
 refine etr ?_
 refine r_op oA ?_
 refine r_end ?_
 refine t_seq ?_
 refine t_block ?_
 refine t_loopL (fun m => ⟨[(0, some (.c (.own 0))), (1, some (.c (.t none (.v (.int .i64 (x)))))), (4, some (.c (.t none (.v (.slice none 0 0))))), (5, some (.c (.t none (.v (.int .i64 ((m : Int)))))))], [(0, some (.row (some (U 0)) 3 true 1 encI (l)))], 1⟩ : Nat → St) (fun m => m ≤ l.length ∧ ∀ j y, j < m → l[j]? = some y → y < x) (fun m => l.length - m) 0 ⟨⟨rfl, ⟨rfl, ⟨rfl, ⟨rfl, trivial⟩⟩⟩⟩, ⟨rfl, trivial⟩, rfl⟩ (by exact ⟨Nat.zero_le _, fun j z h => by omega⟩) ?_
 rintro m hI ih0
 try dsimp only at hI ih0
 obtain ⟨i1, i2⟩ := hI
 refine t_seq ?_
 refine tsr ?_
 refine r_op oM ?_
 refine r_op oM ?_
 refine r_op (o_leno rfl rfl rfl rfl) ?_
 refine r_op oB ?_
 refine r_op oM ?_
 refine r_guard rfl rfl rfl (fun g1 => ?_) (fun g1 => ?_)
 ·
  have g1' := of_decide_eq_true g1
  refine r_op oM ?_
  refine r_guard rfl rfl rfl (fun _ => ?_) (nc g1)
  refine r_op oM ?_
  refine r_guard rfl rfl rfl (fun _ => ?_) (nc g1)
  obtain ⟨z2, hz3, b4⟩ := at_get (xs := l) (n := (m : Int)) (by omega) (by omega)
  refine r_op (o_indexo rfl (by kernel_rfl) rfl rfl rfl b4 (at_lt b4 hz3)) ?_
  refine r_guard rfl rfl rfl (fun _ => ?_) (nc g1)
  refine r_op (o_load1o rfl (by kernel_rfl) rfl rfl rfl hz3) ?_
  refine r_guard rfl rfl rfl (fun _ => ?_) (nc g1)
  refine r_op oM ?_
  refine r_guard rfl rfl rfl (fun _ => ?_) (nc g1)
  refine r_op oB ?_
  refine r_op (o_pickT rfl rfl g1 rfl) ?_
  refine r_end ?_
  refine t_cond rfl (fun h5 => ?_) (fun h5 => ?_)
  ·
   have h5' := of_decide_eq_true h5
   refine t_skip ?_
   refine t_block ?_
   refine t_region ?_
   refine r_op oM ?_
   refine r_op oB ?_
   refine r_op oA ?_
   refine r_end ?_
   refine t_endblock ?_
   refine t_le ?_ (ih0 (m + 1) (by (try dsimp only); omega) (by (try dsimp only); exact ⟨by omega, lt_step i2 (by assumption) rfl (by omega)⟩))
   exact ⟨⟨rfl, ⟨rfl, ⟨rfl, ⟨(eqI (wr64 (by omega) (by omega))), trivial⟩⟩⟩⟩, ⟨rfl, trivial⟩, rfl⟩
  ·
   have h5' := of_decide_eq_false h5
   refine t_exit rfl ?_
   refine t_seq ?_
   refine tsr ?_
   refine r_op oM ?_
   refine r_op oM ?_
   refine r_op (o_leno rfl rfl rfl rfl) ?_
   refine r_op oB ?_
   refine r_op oM ?_
   refine r_guard rfl rfl rfl (fun g6 => ?_) (fun g6 => ?_)
   ·
    have g6' := of_decide_eq_true g6
    refine r_op oM ?_
    refine r_guard rfl rfl rfl (fun _ => ?_) (nc g6)
    refine r_op oM ?_
    refine r_guard rfl rfl rfl (fun _ => ?_) (nc g6)
    refine r_op (o_indexo rfl (by kernel_rfl) rfl rfl rfl b4 (at_lt b4 hz3)) ?_
    refine r_guard rfl rfl rfl (fun _ => ?_) (nc g6)
    refine r_op (o_load1o rfl (by kernel_rfl) rfl rfl rfl hz3) ?_
    refine r_guard rfl rfl rfl (fun _ => ?_) (nc g6)
    refine r_op oM ?_
    refine r_guard rfl rfl rfl (fun _ => ?_) (nc g6)
    refine r_op oB ?_
    refine r_op (o_pickT rfl rfl g6 rfl) ?_
    refine r_end ?_
    refine t_cond rfl (fun h7 => ?_) (fun h7 => ?_)
    ·
     have h7' := of_decide_eq_true h7
     refine tsr ?_
     refine r_op oM ?_
     refine r_op oA ?_
     refine r_end ?_
     refine gt_unpin 0 rfl ?_
     refine t_ret Tryz.func127 (.tmp rfl .nil) rfl fun E S w u hI hd => ?_
     refine postM_mk hI hd ?_ ⟨eqR ?_, trivial⟩ rfl rfl <;> clear hI hd <;> (try clear ih0)
     all_goals first | rfl | ((rw [putI_there i2 (by assumption) (by omega)]; done))
    ·
     have h7' := of_decide_eq_false h7
     refine t_skip ?_
     refine tsr ?_
     refine r_op oM ?_
     refine r_op (o_lit1 1 (e := 3) (sz := 1) (zs := [.int .i64 (0)]) (enc := encI) (x) rfl rfl (by kernel_rfl) rfl rfl rfl rfl rfl rfl (.cons .sc .nil)) ?_
     refine r_op oM ?_
     refine r_op oM ?_
     refine r_op (o_subo rfl (by kernel_rfl) rfl rfl (.l rfl (by omega) (by omega))) ?_
     refine r_op (o_appendS 1 (e := 3) (sz := 1) (by' := 8) rfl (by kernel_rfl) rfl rfl rfl rfl (fun _ _ => ⟨_, rfl⟩) (by (simp only [List.length_append, List.length_take, List.length_drop, List.length_cons, List.length_nil]; omega)) (by (simp only [List.length_append, List.length_take, List.length_drop, List.length_cons, List.length_nil]; omega))) ?_
     refine r_op oA ?_
     refine etr ?_
     refine r_op (o_lit0 2 (e := 3) (sz := 1) (zs := [.int .i64 (0)]) encI rfl rfl (by kernel_rfl) rfl) ?_
     refine r_op oM ?_
     refine r_op oM ?_
     refine r_op (o_subo rfl (by kernel_rfl) rfl rfl (.h rfl (by omega) (by omega))) ?_
     refine r_op (o_appendS 2 (e := 3) (sz := 1) (by' := 8) rfl (by kernel_rfl) rfl rfl rfl rfl (fun _ _ => ⟨_, rfl⟩) (by (simp only [List.length_append, List.length_take, List.length_drop, List.length_cons, List.length_nil]; omega)) (by (simp only [List.length_append, List.length_take, List.length_drop, List.length_cons, List.length_nil]; omega))) ?_
     refine r_op oM ?_
     refine r_op (o_appendO 2 (e := 3) (sz := 1) (by' := 8) rfl (by kernel_rfl) rfl rfl rfl rfl rfl (by decide) (fun _ _ => ⟨_, rfl⟩) (by (simp only [List.length_append, List.length_take, List.length_drop, List.length_cons, List.length_nil]; omega)) (by (simp only [List.length_append, List.length_take, List.length_drop, List.length_cons, List.length_nil]; omega))) ?_
     refine r_op oA ?_
     refine r_end ?_
     refine gt_as0 4 2 rfl rfl ?_
     refine t_ret Tryz.func127 (.tmp rfl .nil) rfl fun E S w u hI hd => ?_
     refine postM_mk hI hd ?_ ⟨eqR ?_, trivial⟩ rfl rfl <;> clear hI hd <;> (try clear ih0)
     all_goals first | rfl | ((rw [putI_new i2 i1 (fun y hy => by (have e7 := Option.some.inj (hy.symm.trans hz3); omega))]; simp))
   ·
    have g6' := of_decide_eq_false g6
    refine r_guard rfl rfl rfl (ncf g6) (fun _ => ?_)
    refine r_guard rfl rfl rfl (ncf g6) (fun _ => ?_)
    refine r_guard rfl rfl rfl (ncf g6) (fun _ => ?_)
    refine r_guard rfl rfl rfl (ncf g6) (fun _ => ?_)
    refine r_guard rfl rfl rfl (ncf g6) (fun _ => ?_)
    refine r_op (o_pickF rfl rfl g6 rfl) ?_
    refine r_end ?_
    refine t_cond rfl (ncf rfl) (fun _ => ?_)
    refine t_skip ?_
    refine tsr ?_
    refine r_op oM ?_
    refine r_op (o_lit1 1 (e := 3) (sz := 1) (zs := [.int .i64 (0)]) (enc := encI) (x) rfl rfl (by kernel_rfl) rfl rfl rfl rfl rfl rfl (.cons .sc .nil)) ?_
    refine r_op oM ?_
    refine r_op oM ?_
    refine r_op (o_subo rfl (by kernel_rfl) rfl rfl (.l rfl (by omega) (by omega))) ?_
    refine r_op (o_appendS 1 (e := 3) (sz := 1) (by' := 8) rfl (by kernel_rfl) rfl rfl rfl rfl (fun _ _ => ⟨_, rfl⟩) (by omega) (by omega)) ?_
    refine r_op oA ?_
    refine etr ?_
    refine r_op (o_lit0 2 (e := 3) (sz := 1) (zs := [.int .i64 (0)]) encI rfl rfl (by kernel_rfl) rfl) ?_
    refine r_op oM ?_
    refine r_op oM ?_
    refine r_op (o_subo rfl (by kernel_rfl) rfl rfl (.h rfl (by omega) (by omega))) ?_
    refine r_op (o_appendS 2 (e := 3) (sz := 1) (by' := 8) rfl (by kernel_rfl) rfl rfl rfl rfl (fun _ _ => ⟨_, rfl⟩) (by omega) (by omega)) ?_
    refine r_op oM ?_
    refine r_op (o_appendO 2 (e := 3) (sz := 1) (by' := 8) rfl (by kernel_rfl) rfl rfl rfl rfl rfl (by decide) (fun _ _ => ⟨_, rfl⟩) (by omega) (by omega)) ?_
    refine r_op oA ?_
    refine r_end ?_
    refine gt_as0 4 2 rfl rfl ?_
    refine t_ret Tryz.func127 (.tmp rfl .nil) rfl fun E S w u hI hd => ?_
    refine postM_mk hI hd ?_ ⟨eqR ?_, trivial⟩ rfl rfl <;> clear hI hd <;> (try clear ih0)
    all_goals first | rfl | ((rw [putI_new i2 i1 (fun y hy => by (have e7 := Option.some.inj (hy.symm.trans hz3); omega))]; simp))
 ·
  have g1' := of_decide_eq_false g1
  refine r_guard rfl rfl rfl (ncf g1) (fun _ => ?_)
  refine r_guard rfl rfl rfl (ncf g1) (fun _ => ?_)
  refine r_guard rfl rfl rfl (ncf g1) (fun _ => ?_)
  refine r_guard rfl rfl rfl (ncf g1) (fun _ => ?_)
  refine r_guard rfl rfl rfl (ncf g1) (fun _ => ?_)
  refine r_op (o_pickF rfl rfl g1 rfl) ?_
  refine r_end ?_
  refine t_cond rfl (ncf rfl) (fun _ => ?_)
  refine t_exit rfl ?_
  refine t_seq ?_
  refine tsr ?_
  refine r_op oM ?_
  refine r_op oM ?_
  refine r_op (o_leno rfl rfl rfl rfl) ?_
  refine r_op oB ?_
  refine r_op oM ?_
  refine r_guard rfl rfl rfl (fun g8 => ?_) (fun g8 => ?_)
  ·
   have g8' := of_decide_eq_true g8
   refine r_op oM ?_
   refine r_guard rfl rfl rfl (fun _ => ?_) (nc g8)
   refine r_op oM ?_
   refine r_guard rfl rfl rfl (fun _ => ?_) (nc g8)
   obtain ⟨z9, hz10, b11⟩ := at_get (xs := l) (n := (m : Int)) (by omega) (by omega)
   refine r_op (o_indexo rfl (by kernel_rfl) rfl rfl rfl b11 (at_lt b11 hz10)) ?_
   refine r_guard rfl rfl rfl (fun _ => ?_) (nc g8)
   refine r_op (o_load1o rfl (by kernel_rfl) rfl rfl rfl hz10) ?_
   refine r_guard rfl rfl rfl (fun _ => ?_) (nc g8)
   refine r_op oM ?_
   refine r_guard rfl rfl rfl (fun _ => ?_) (nc g8)
   refine r_op oB ?_
   refine r_op (o_pickT rfl rfl g8 rfl) ?_
   refine r_end ?_
   refine t_cond rfl (fun h12 => ?_) (fun h12 => ?_)
   ·
    have h12' := of_decide_eq_true h12
    refine tsr ?_
    refine r_op oM ?_
    refine r_op oA ?_
    refine r_end ?_
    refine gt_unpin 0 rfl ?_
    refine t_ret Tryz.func127 (.tmp rfl .nil) rfl fun E S w u hI hd => ?_
    refine postM_mk hI hd ?_ ⟨eqR ?_, trivial⟩ rfl rfl <;> clear hI hd <;> (try clear ih0)
    all_goals first | rfl | ((rw [putI_there i2 (by assumption) (by omega)]; done))
   ·
    have h12' := of_decide_eq_false h12
    refine t_skip ?_
    refine tsr ?_
    refine r_op oM ?_
    refine r_op (o_lit1 1 (e := 3) (sz := 1) (zs := [.int .i64 (0)]) (enc := encI) (x) rfl rfl (by kernel_rfl) rfl rfl rfl rfl rfl rfl (.cons .sc .nil)) ?_
    refine r_op oM ?_
    refine r_op oM ?_
    refine r_op (o_subo rfl (by kernel_rfl) rfl rfl (.l rfl (by omega) (by omega))) ?_
    refine r_op (o_appendS 1 (e := 3) (sz := 1) (by' := 8) rfl (by kernel_rfl) rfl rfl rfl rfl (fun _ _ => ⟨_, rfl⟩) (by omega) (by omega)) ?_
    refine r_op oA ?_
    refine etr ?_
    refine r_op (o_lit0 2 (e := 3) (sz := 1) (zs := [.int .i64 (0)]) encI rfl rfl (by kernel_rfl) rfl) ?_
    refine r_op oM ?_
    refine r_op oM ?_
    refine r_op (o_subo rfl (by kernel_rfl) rfl rfl (.h rfl (by omega) (by omega))) ?_
    refine r_op (o_appendS 2 (e := 3) (sz := 1) (by' := 8) rfl (by kernel_rfl) rfl rfl rfl rfl (fun _ _ => ⟨_, rfl⟩) (by omega) (by omega)) ?_
    refine r_op oM ?_
    refine r_op (o_appendO 2 (e := 3) (sz := 1) (by' := 8) rfl (by kernel_rfl) rfl rfl rfl rfl rfl (by decide) (fun _ _ => ⟨_, rfl⟩) (by omega) (by omega)) ?_
    refine r_op oA ?_
    refine r_end ?_
    refine gt_as0 4 2 rfl rfl ?_
    refine t_ret Tryz.func127 (.tmp rfl .nil) rfl fun E S w u hI hd => ?_
    refine postM_mk hI hd ?_ ⟨eqR ?_, trivial⟩ rfl rfl <;> clear hI hd <;> (try clear ih0)
    all_goals first | rfl | ((rw [putI_new i2 i1 (fun y hy => by (have e7 := Option.some.inj (hy.symm.trans hz10); omega))]; simp))
  ·
   have g8' := of_decide_eq_false g8
   refine r_guard rfl rfl rfl (ncf g8) (fun _ => ?_)
   refine r_guard rfl rfl rfl (ncf g8) (fun _ => ?_)
   refine r_guard rfl rfl rfl (ncf g8) (fun _ => ?_)
   refine r_guard rfl rfl rfl (ncf g8) (fun _ => ?_)
   refine r_guard rfl rfl rfl (ncf g8) (fun _ => ?_)
   refine r_op (o_pickF rfl rfl g8 rfl) ?_
   refine r_end ?_
   refine t_cond rfl (ncf rfl) (fun _ => ?_)
   refine t_skip ?_
   refine tsr ?_
   refine r_op oM ?_
   refine r_op (o_lit1 1 (e := 3) (sz := 1) (zs := [.int .i64 (0)]) (enc := encI) (x) rfl rfl (by kernel_rfl) rfl rfl rfl rfl rfl rfl (.cons .sc .nil)) ?_
   refine r_op oM ?_
   refine r_op oM ?_
   refine r_op (o_subo rfl (by kernel_rfl) rfl rfl (.l rfl (by omega) (by omega))) ?_
   refine r_op (o_appendS 1 (e := 3) (sz := 1) (by' := 8) rfl (by kernel_rfl) rfl rfl rfl rfl (fun _ _ => ⟨_, rfl⟩) (by (simp only [List.length_append, List.length_take, List.length_drop, List.length_cons, List.length_nil]; omega)) (by (simp only [List.length_append, List.length_take, List.length_drop, List.length_cons, List.length_nil]; omega))) ?_
   refine r_op oA ?_
   refine etr ?_
   refine r_op (o_lit0 2 (e := 3) (sz := 1) (zs := [.int .i64 (0)]) encI rfl rfl (by kernel_rfl) rfl) ?_
   refine r_op oM ?_
   refine r_op oM ?_
   refine r_op (o_subo rfl (by kernel_rfl) rfl rfl (.h rfl (by omega) (by omega))) ?_
   refine r_op (o_appendS 2 (e := 3) (sz := 1) (by' := 8) rfl (by kernel_rfl) rfl rfl rfl rfl (fun _ _ => ⟨_, rfl⟩) (by (simp only [List.length_append, List.length_take, List.length_drop, List.length_cons, List.length_nil]; omega)) (by (simp only [List.length_append, List.length_take, List.length_drop, List.length_cons, List.length_nil]; omega))) ?_
   refine r_op oM ?_
   refine r_op (o_appendO 2 (e := 3) (sz := 1) (by' := 8) rfl (by kernel_rfl) rfl rfl rfl rfl rfl (by decide) (fun _ _ => ⟨_, rfl⟩) (by (simp only [List.length_append, List.length_take, List.length_drop, List.length_cons, List.length_nil]; omega)) (by (simp only [List.length_append, List.length_take, List.length_drop, List.length_cons, List.length_nil]; omega))) ?_
   refine r_op oA ?_
   refine r_end ?_
   refine gt_as0 4 2 rfl rfl ?_
   refine t_ret Tryz.func127 (.tmp rfl .nil) rfl fun E S w u hI hd => ?_
   refine postM_mk hI hd ?_ ⟨eqR ?_, trivial⟩ rfl rfl <;> clear hI hd <;> (try clear ih0)
   all_goals first | rfl | ((rw [putI_new i2 i1 (fun y hy => by (have e7 := (List.getElem?_eq_some_iff.1 hy).1; omega))]; simp))
set_option maxHeartbeats 1000000 in
set_option maxRecDepth 10000 in
theorem c_spec_Variables (l : List (Int × List Int)) (hl : szS (fun (x : Int × (List (Int))) => (x.2).length) l ≤ 1048576) : Pu Tryz.prog 68 [.c (.t none (.sl 2 (enS2 encI (enSl 1 encI)) (l)))] [(0, some (.row none 3 true 1 encI (setI (varsL l))))] 1 (.c (.own 0)) := by
 refine pu_enter Tryz.func68 rfl (Nat.le_of_ble_eq_true rfl) fun w S => ?_
 have gl := sz_len (f := (fun (x : Int × (List (Int))) => (x.2).length)) (l := l); have gv := varsL_size l
 refine tsr ?_
 refine r_op oA ?_
 refine etr ?_
 refine r_op (o_lit0 0 (e := 3) (sz := 1) (zs := [.int .i64 (0)]) encI rfl rfl (by kernel_rfl) rfl) ?_
 refine r_op oA ?_
 refine r_end ?_
 refine t_seq ?_
 refine tsr ?_
 refine r_op oA ?_
 refine r_end ?_
 refine t_block ?_
 refine t_loopL (fun m => ⟨[(0, some (.c (.t none (.sl 2 (enS2 encI (enSl 1 encI)) (l))))), (2, some (.c (.t none (.v (.slice none 0 0))))), (3, some (.c (.own 0))), (4, some (.c (.t none (.v (.int .i64 ((m : Int)))))))], [(0, some (.row none 3 true 1 encI (setI (varsL (l.take m)))))], 1⟩ : Nat → St) (fun m => m ≤ l.length) (fun m => l.length - m) 0 ⟨⟨rfl, ⟨rfl, ⟨rfl, ⟨rfl, trivial⟩⟩⟩⟩, ⟨rfl, trivial⟩, rfl⟩ (by exact Nat.zero_le _) ?_
 rintro m hI ih0
 try dsimp only at hI ih0
 have i1 := hI
 refine t_seq ?_
 refine tsr ?_
 refine r_op oM ?_
 refine r_op oM ?_
 refine r_op (o_len rfl rfl rfl) ?_
 refine r_op oB ?_
 refine r_end ?_
 refine t_cond rfl (fun h1 => ?_) (fun h1 => ?_)
 ·
  have h1' := of_decide_eq_true h1
  refine t_skip ?_
  refine t_seq ?_
  refine t_block ?_
  refine tsr ?_
  refine r_op oA ?_
  refine r_end ?_
  refine t_block ?_
  refine t_loopL (fun n => ⟨[(0, some (.c (.t none (.sl 2 (enS2 encI (enSl 1 encI)) (l))))), (2, some (.c (.t none (.v (.slice none 0 0))))), (3, some (.c (.own 0))), (4, some (.c (.t none (.v (.int .i64 ((m : Int))))))), (5, some (.c (.t none (.v (.int .i64 ((n : Int)))))))], [(0, some (.row none 3 true 1 encI (setI (varsL (l.take m) ++ nonneg ((l.getD m (0, [])).2.take n)))))], 1⟩ : Nat → St) (fun n => n ≤ (l.getD m (0, [])).2.length) (fun n => (l.getD m (0, [])).2.length - n) 0 ⟨⟨rfl, ⟨rfl, ⟨rfl, ⟨rfl, ⟨rfl, trivial⟩⟩⟩⟩⟩, ⟨(eqR (by rw [nonneg_zero, List.append_nil])), trivial⟩, rfl⟩ (by exact Nat.zero_le _) ?_
  rintro n hI ih1
  try dsimp only at hI ih1
  have j1 := hI; have hzv := getA_get (l := l) (m := m) (by omega); have vp := varsL_part (n := n) hzv; (have e1 := sz_at (f := (fun (x : Int × (List (Int))) => (x.2).length)) (l := l) (m := m) hzv; (try dsimp only at e1)); have sl := setI_len (varsL (l.take m) ++ nonneg ((l.getD m (0, [])).2.take n)); rw [List.length_append] at sl
  refine t_seq ?_
  refine tsr ?_
  refine r_op oM ?_
  refine r_op oM ?_
  refine r_op oM ?_
  obtain ⟨z2, hz3, b4⟩ := at_get (xs := l) (n := (m : Int)) (by omega) (by omega)
  refine r_op (o_index rfl (by kernel_rfl) rfl rfl b4 hz3) ?_
  refine r_op (o_field rfl (off := 1) (by kernel_rfl) rfl) ?_
  refine r_op (o_load1 rfl (by kernel_rfl) rfl rfl) ?_
  refine r_op (o_len rfl rfl rfl) ?_
  refine r_op oB ?_
  refine r_end ?_
  refine t_cond rfl (fun h5 => ?_) (fun h5 => ?_)
  ·
   have h5' := of_decide_eq_true h5
   refine t_skip ?_
   refine t_seq ?_
   refine t_block ?_
   refine tsr ?_
   refine r_op oM ?_
   refine r_op oM ?_
   refine r_op (o_index rfl (by kernel_rfl) rfl rfl b4 hz3) ?_
   refine r_op (o_field rfl (off := 1) (by kernel_rfl) rfl) ?_
   refine r_op (o_load1 rfl (by kernel_rfl) rfl rfl) ?_
   refine r_op oM ?_
   obtain ⟨z6, hz7, b8⟩ := at_get (xs := z2.2) (n := (n : Int)) (by omega) (by omega)
   refine r_op (o_index rfl (by kernel_rfl) rfl rfl b8 hz7) ?_
   refine r_op (o_load1 rfl (by kernel_rfl) rfl rfl) ?_
   refine r_op oB ?_
   refine r_end ?_
   refine t_cond rfl (fun h9 => ?_) (fun h9 => ?_)
   ·
    have h9' := of_decide_eq_true h9
    refine t_region ?_
    refine r_op oM ?_
    refine r_op oM ?_
    refine r_op oM ?_
    refine r_op (o_index rfl (by kernel_rfl) rfl rfl b4 hz3) ?_
    refine r_op (o_field rfl (off := 1) (by kernel_rfl) rfl) ?_
    refine r_op (o_load1 rfl (by kernel_rfl) rfl rfl) ?_
    refine r_op oM ?_
    refine r_op (o_index rfl (by kernel_rfl) rfl rfl b8 hz7) ?_
    refine r_op (o_load1 rfl (by kernel_rfl) rfl rfl) ?_
    refine r_op (o_callC 0 (l' := putI (setI (varsL (l.take m) ++ nonneg ((l.getD m (0, [])).2.take n))) (z6)) (Go.Proofs.enters_of Tryz.func127 (by kernel_rfl) rfl) (fun U => c_spec_l4Put U  (setI (varsL (l.take m) ++ nonneg ((l.getD m (0, [])).2.take n))) (z6) (by omega)) rfl rfl (.cons rfl (.own rfl) (.cons rfl .t0 .nil))) ?_
    refine r_op oA ?_
    refine r_end ?_
    refine t_endblock ?_
    refine t_region ?_
    refine r_op oM ?_
    refine r_op oB ?_
    refine r_op oA ?_
    refine r_end ?_
    have gd3 := Option.some.inj (hzv.symm.trans hz3); have gd4 := congrArg (fun q => q.2.length) gd3; (try dsimp only at gd4); have hx9 : (l.getD m (0, [])).2[n]? = some z6 := by rw [gd3]; exact hz7
    refine t_le ?_ (ih1 (n + 1) (by (try dsimp only); omega) (by (try dsimp only); omega))
    exact ⟨⟨rfl, ⟨rfl, ⟨rfl, ⟨rfl, ⟨(eqI (wr64 (by omega) (by omega))), trivial⟩⟩⟩⟩⟩, ⟨(eqR (by (rw [nonneg_more hx9 (by omega), ← List.append_assoc, setI_snoc]; done))), trivial⟩, rfl⟩
   ·
    have h9' := of_decide_eq_false h9
    refine t_skip ?_
    refine t_endblock ?_
    refine t_region ?_
    refine r_op oM ?_
    refine r_op oB ?_
    refine r_op oA ?_
    refine r_end ?_
    have gd3 := Option.some.inj (hzv.symm.trans hz3); have gd4 := congrArg (fun q => q.2.length) gd3; (try dsimp only at gd4); have hx9 : (l.getD m (0, [])).2[n]? = some z6 := by rw [gd3]; exact hz7
    refine t_le ?_ (ih1 (n + 1) (by (try dsimp only); omega) (by (try dsimp only); omega))
    exact ⟨⟨rfl, ⟨rfl, ⟨rfl, ⟨rfl, ⟨(eqI (wr64 (by omega) (by omega))), trivial⟩⟩⟩⟩⟩, ⟨(eqR (by (rw [nonneg_same hx9 (by omega)]; done))), trivial⟩, rfl⟩
  ·
   have h5' := of_decide_eq_false h5
   refine t_exit rfl ?_
   refine t_endblock ?_
   refine t_region ?_
   refine r_op oM ?_
   refine r_op oB ?_
   refine r_op oA ?_
   refine r_end ?_
   have gd3 := Option.some.inj (hzv.symm.trans hz3)
   refine t_le ?_ (ih0 (m + 1) (by (try dsimp only); omega) (by (try dsimp only); omega))
   exact ⟨⟨rfl, ⟨rfl, ⟨rfl, ⟨(eqI (wr64 (by omega) (by omega))), trivial⟩⟩⟩⟩, ⟨(eqR (by rw [varsL_step hzv, gd3]; congr 3; exact List.take_of_length_le (by rw [gd3] at j1; omega))), trivial⟩, rfl⟩
 ·
  have h1' := of_decide_eq_false h1
  refine t_exit rfl ?_
  refine tsr ?_
  refine r_op oM ?_
  refine r_op oA ?_
  refine r_end ?_
  refine t_ret Tryz.func68 (.tmp rfl .nil) rfl fun E S w u hI hd => ?_
  refine post_mk hI hd ?_ ⟨eqR ?_, trivial⟩ rfl rfl rfl <;> clear hI hd <;> (try clear ih0) <;> (try clear ih1)
  all_goals first | rfl | ((rw [varsL_end (by omega)]))
set_option maxHeartbeats 1000000 in
set_option maxRecDepth 10000 in
theorem c_spec_l9Rule (code : List Int) (i h : Int) (hc : code.length ≤ 1048576) (hi0 : 0 ≤ i) (hi1 : i ≤ code.length) : MuG Tryz.prog 106 [.c (.ptr 0 0)] [.t none (.sl 1 encU (code)), .t none (.v (.int .i64 (i))), .t none (.v (.int .i64 (h)))] (fun (⟨b, hs, e, lv, rv, i2, h2⟩ : Atoms × Atoms × Bool × Int × Int × Int × Int) => depL (b, hs, e, lv, rv) ∧ hs.length ≤ 2 ∧ 0 ≤ i2 ∧ i2 ≤ code.length) (fun (⟨b, hs, e, lv, rv, i2, h2⟩ : Atoms × Atoms × Bool × Int × Int × Int × Int) => [.t none (.sl 1 encU (code)), .t none (.v (.int .i64 (i2))), .t none (.v (.int .i64 (h2)))]) (fun (⟨b, hs, e, lv, rv, i2, h2⟩ : Atoms × Atoms × Bool × Int × Int × Int × Int) => [(5, some (.row none 40 true 2 (enS2 encI (enSl 1 encI)) (b))), (6, some (.row none 40 true 2 (enS2 encI (enSl 1 encI)) (hs)))]) 7 (fun (⟨b, hs, e, lv, rv, i2, h2⟩ : Atoms × Atoms × Bool × Int × Int × Int × Int) => .agg [.own 5, .own 6, .t none (.v (.bool (e))), .t none (.v (.int .i64 (lv))), .t none (.v (.int .i64 (rv)))]) := by
 refine mu_enterG Tryz.func106 rfl (Nat.le_of_ble_eq_true rfl) fun v0 w S M hM => ?_
 refine tsr ?_
 refine r_op (o_alloc 1 (zs := [.slice none 0 0, .slice none 0 0, .bool (false), .int .i64 (0), .int .i64 (0)]) rfl rfl (by kernel_rfl) rfl) ?_
 refine r_end ?_
 refine t_seq ?_
 refine tsr ?_
 refine r_op oM ?_
 refine r_opX (o_callGM 0 2 3 (pv := some (v0)) (Go.Proofs.enters_of Tryz.func61 (by kernel_rfl) rfl) (c_spec_l1Once (code) (i) (h) (3) (by omega) (by omega) (by omega) (by omega) (by omega)) rfl rfl (.cur rfl (.cons rfl .nil)) rfl (fun ⟨_, _, _⟩ => rfl) (fun _ => rfl) (fun ⟨_, _, _⟩ => rfl) rfl rfl) ?_
 rintro ⟨⟨b1, i22, h23⟩, hq4⟩
 try dsimp only at hq4
 try dsimp only
 refine r_op (o_not rfl rfl) ?_
 refine r_end ?_
 refine t_cond rfl (fun h6 => ?_) (fun h6 => ?_)
 ·
  have h6' := (bnt h6)
  refine tsr ?_
  refine r_op oM ?_
  refine r_opX (o_callGM 0 3 7 (pv := some (v0)) (Go.Proofs.enters_of Tryz.func159 (by kernel_rfl) rfl) (c_spec_l9Known ((code)) ((i22)) ((h23)) (by omega) (by omega) (by omega)) rfl rfl (.cur rfl .nil) rfl (fun ⟨_, _, _, _, _, _, _⟩ => rfl) (fun _ => rfl) (fun ⟨_, _, _, _, _, _, _⟩ => rfl) rfl rfl) ?_
  rintro ⟨⟨b7, hs8, e9, lv10, rv11, i212, h213⟩, hq14⟩
  try dsimp only at hq14
  try dsimp only
  obtain ⟨q15, q16, q17⟩ := hq14
  refine r_op (oS 5) ?_
  refine r_end ?_
  refine t_ret Tryz.func106 (.cells (n := 5) (by kernel_rfl) (by kernel_rfl) rfl rfl rfl .nil) rfl fun E S w u hI hd => ?_
  refine post_mkG (⟨(b7), (hs8), (e9), (lv10), (rv11), (i212), (h213)⟩) ?_ hI hd ?_ ⟨rfl, ⟨rfl, ⟨rfl, trivial⟩⟩⟩ rfl rfl <;> clear hI hd <;> (try clear ih0) <;> (try clear ih1)
  · (try dsimp only) <;> ((exact ⟨by assumption, by assumption, by omega⟩))
  · rfl
 ·
  have h6' := (bnf h6)
  refine t_skip ?_
  refine tsr ?_
  refine r_op (o_build rfl (pl := [(0, 1), (1, 1), (2, 1), (3, 1), (4, 1)]) (zs := [.slice none 0 0, .slice none 0 0, .bool (false), .int .i64 (0), .int .i64 (0)]) (by kernel_rfl) (by kernel_rfl) rfl rfl rfl) ?_
  refine r_op (o_alloc 3 (zs := [.slice none 0 0, .slice none 0 0, .bool (false), .int .i64 (0), .int .i64 (0)]) rfl rfl (by kernel_rfl) rfl) ?_
  refine r_op (oS 5) ?_
  refine r_end ?_
  refine t_seq ?_
  refine tsr ?_
  refine r_op oM ?_
  refine r_opX (o_callGM 0 4 5 (pv := some (v0)) (Go.Proofs.enters_of Tryz.func81 (by kernel_rfl) rfl) (c_spec_l1Below ((code)) ((i22)) ((h23)) (2) (by omega) (by omega) (by omega) (by omega) (by omega)) rfl rfl (.cur rfl (.cons rfl .nil)) rfl (fun ⟨_, _, _⟩ => rfl) (fun _ => rfl) (fun ⟨_, _, _⟩ => rfl) rfl rfl) ?_
  rintro ⟨⟨x18, i219, h220⟩, hq21⟩
  try dsimp only at hq21
  try dsimp only
  obtain ⟨q22, q23⟩ := hq21
  refine r_op oB ?_
  refine r_op oA ?_
  refine r_end ?_
  refine t_block ?_
  refine gt_nilb 5 (b := 3) (o := 0) (et := 40) (sz := 2) true (enS2 encI (enSl 1 encI)) rfl rfl rfl ?_
  refine gt_nilb 6 (b := 3) (o := 1) (et := 40) (sz := 2) true (enS2 encI (enSl 1 encI)) rfl rfl rfl ?_
  refine t_loopL (fun (kk, bs, i3, h3) => ⟨[(0, some (.c (.ptr 0 0))), (2, some (.c (.ptr 1 0))), (3, some (.c (.ptr 3 0))), (4, some (.c (.t none (.v (.int .i64 (kk))))))], [(0, some (.pbox (v0) [.t none (.sl 1 encU (code)), .t none (.v (.int .i64 (i3))), .t none (.v (.int .i64 (h3)))])), (1, some (.box [.t none (.v (.slice none 0 0)), .t none (.v (.slice none 0 0)), .t none (.v (.bool (false))), .t none (.v (.int .i64 (0))), .t none (.v (.int .i64 (0)))])), (3, some (.box [.own 5, .own 6, .t none (.v (.bool (false))), .t none (.v (.int .i64 (0))), .t none (.v (.int .i64 (0)))])), (5, some (.row none 40 true 2 (enS2 encI (enSl 1 encI)) (bs))), (6, some (.row none 40 true 2 (enS2 encI (enSl 1 encI)) ([])))], 7⟩ : Int × Atoms × Int × Int → St) (fun (kk, bs, i3, h3) => (0 ≤ kk ∧ kk ≤ 2) ∧ (1 ≤ IntKind.i64.wrap (1 + (x18)) ∧ IntKind.i64.wrap (1 + (x18)) ≤ 2) ∧ ((bs.length : Int) + kk = IntKind.i64.wrap (1 + (x18))) ∧ (∀ a ∈ bs, atomL a) ∧ (0 ≤ i3 ∧ i3 ≤ code.length)) (fun (kk, bs, i3, h3) => kk.toNat) (IntKind.i64.wrap (1 + (x18)), [], (i219), (h220)) ⟨⟨rfl, ⟨rfl, ⟨rfl, ⟨rfl, trivial⟩⟩⟩⟩, ⟨rfl, ⟨rfl, ⟨rfl, ⟨rfl, ⟨rfl, trivial⟩⟩⟩⟩⟩, rfl⟩ (by exact ⟨(by (try dsimp only); ((try simp only [IntKind.wrap_i64] at *); omega)), (by (try dsimp only); ((try simp only [IntKind.wrap_i64] at *); omega)), (by (try dsimp only); simp), (fun a ha => by simp at ha), (by (try dsimp only); omega)⟩) ?_
  rintro ⟨kk, bs, i3, h3⟩ hI ih0
  try dsimp only at hI ih0
  obtain ⟨b1, b2, b3, b4, b5⟩ := hI
  refine t_seq ?_
  refine tsr ?_
  refine r_op oM ?_
  refine r_op oB ?_
  refine r_end ?_
  refine t_cond rfl (fun h24 => ?_) (fun h24 => ?_)
  ·
   have h24' := of_decide_eq_true h24
   refine t_skip ?_
   refine t_seq ?_
   refine t_block ?_
   refine t_draw (fun i => !(Nat.beq i 4 || Nat.beq i 5 || Nat.beq i 7 || Nat.beq i 9)) (by kernel_rfl) ?_
   refine d_takeP 0 rfl rfl (by kernel_rfl) (by kernel_rfl) (by kernel_rfl) (pw_fieldb (off := 0) (by kernel_rfl) rfl) ?_
   refine d_takeP 2 rfl rfl (by kernel_rfl) (by kernel_rfl) (by kernel_rfl) (pw_move rfl) ?_
   refine dT 3 rfl pM ?_
   refine d_twoX 1 4 rfl rfl (by kernel_rfl) rfl rfl (osX oL) (o_callGM 0 7 8 (pv := some (v0)) (Go.Proofs.enters_of Tryz.func81 (by kernel_rfl) rfl) (c_spec_l1Below (code) (i3) (h3) (5) (by omega) (by omega) (by omega) (by omega) (by omega)) rfl rfl (.cur rfl (.cons rfl .nil)) rfl (fun ⟨_, _, _⟩ => rfl) (fun _ => rfl) (fun ⟨_, _, _⟩ => rfl) rfl rfl) ?_ ?_
   ·
    rintro ⟨⟩
    refine dOX 4 rfl (o_callGM 0 7 8 (pv := some (v0)) (Go.Proofs.enters_of Tryz.func81 (by kernel_rfl) rfl) (c_spec_l1Below (code) (i3) (h3) (5) (by omega) (by omega) (by omega) (by omega) (by omega)) rfl rfl (.cur rfl (.cons rfl .nil)) rfl (fun ⟨_, _, _⟩ => rfl) (fun _ => rfl) (fun ⟨_, _, _⟩ => rfl) rfl rfl) ?_
    rintro ⟨⟨x31, i232, h233⟩, hq34⟩
    try dsimp only at hq34
    try dsimp only
    obtain ⟨q35, q36⟩ := hq34
    refine dOX 5 rfl (o_callGM 0 8 13 (pv := some (v0)) (Go.Proofs.enters_of Tryz.func160 (by kernel_rfl) rfl) (c_spec_l9Atom ((code)) ((i232)) ((h233)) ((x31)) (3) (by omega) (by omega) (by omega) (by omega) (by omega)) rfl rfl (.cur rfl (.cons rfl (.cons rfl .nil))) rfl (fun ⟨_, _, _⟩ => rfl) (fun _ => rfl) (fun ⟨_, _, _⟩ => rfl) rfl rfl) ?_
    rintro ⟨⟨ts37, i238, h239⟩, hq40⟩
    try dsimp only at hq40
    try dsimp only
    obtain ⟨q41, q42, q43⟩ := hq40
    have hy9 : ∀ x ∈ ts37, -3 ≤ x ∧ x ≤ 4 := (by assumption)
    refine dO 6 rfl (o_litS 13 (e := 40) (sz := 2) (zs := [.int .i64 (0), .slice none 0 0]) rfl rfl (by kernel_rfl) rfl rfl rfl rfl rfl) ?_
    refine dO 7 rfl (o_append 5 (e := 40) (sz := 2) (by' := 32) ((((x31)), (ts37))) rfl (by kernel_rfl) rfl rfl rfl rfl rfl rfl (.cons .sc (.take (.own rfl) rfl .nil)) rfl (by omega) (by omega)) ?_
    refine dT 8 rfl (pF 0) ?_
    refine dO 9 rfl (oS 1) ?_
    refine d_end (by kernel_rfl) ?_
    refine t_endblock ?_
    refine t_region ?_
    refine r_op oM ?_
    refine r_op oB ?_
    refine r_op oA ?_
    refine r_end ?_
    refine t_le ?_ (ih0 (IntKind.i64.wrap (kk - 1), bs ++ [(((x31)), (ts37))], (i238), (h239)) (by (try dsimp only); ((try simp only [IntKind.wrap_i64] at *); omega)) (by (try dsimp only); exact ⟨(by ((try simp only [IntKind.wrap_i64] at *); omega)), b2, (by (simp only [List.length_append, List.length_singleton]); ((try simp only [IntKind.wrap_i64] at *); omega)), mem_snoc b4 ⟨(by ((try simp only [IntKind.wrap_i64] at *); omega)), (by (try dsimp only); omega), (fun x hx => by have e9 := hy9 x hx; omega)⟩, by omega⟩))
    exact ⟨⟨rfl, ⟨rfl, ⟨rfl, ⟨rfl, trivial⟩⟩⟩⟩, ⟨rfl, ⟨rfl, ⟨rfl, ⟨rfl, ⟨rfl, trivial⟩⟩⟩⟩⟩, rfl⟩
   ·
    rintro ⟨⟨x25, i226, h227⟩, hq28⟩
    try dsimp only at hq28
    try dsimp only
    obtain ⟨q29, q30⟩ := hq28
    refine d_twoX 1 5 rfl rfl (by kernel_rfl) rfl rfl (osX oL) (o_callGM 0 8 13 (pv := some (v0)) (Go.Proofs.enters_of Tryz.func160 (by kernel_rfl) rfl) (c_spec_l9Atom ((code)) ((i226)) ((h227)) ((x25)) (3) (by omega) (by omega) (by omega) (by omega) (by omega)) rfl rfl (.cur rfl (.cons rfl (.cons rfl .nil))) rfl (fun ⟨_, _, _⟩ => rfl) (fun _ => rfl) (fun ⟨_, _, _⟩ => rfl) rfl rfl) ?_ ?_
    ·
     rintro ⟨⟩
     refine dOX 5 rfl (o_callGM 0 8 13 (pv := some (v0)) (Go.Proofs.enters_of Tryz.func160 (by kernel_rfl) rfl) (c_spec_l9Atom ((code)) ((i226)) ((h227)) ((x25)) (3) (by omega) (by omega) (by omega) (by omega) (by omega)) rfl rfl (.cur rfl (.cons rfl (.cons rfl .nil))) rfl (fun ⟨_, _, _⟩ => rfl) (fun _ => rfl) (fun ⟨_, _, _⟩ => rfl) rfl rfl) ?_
     rintro ⟨⟨ts51, i252, h253⟩, hq54⟩
     try dsimp only at hq54
     try dsimp only
     obtain ⟨q55, q56, q57⟩ := hq54
     have hy9 : ∀ x ∈ ts51, -3 ≤ x ∧ x ≤ 4 := (by assumption)
     refine dO 6 rfl (o_litS 13 (e := 40) (sz := 2) (zs := [.int .i64 (0), .slice none 0 0]) rfl rfl (by kernel_rfl) rfl rfl rfl rfl rfl) ?_
     refine dO 7 rfl (o_append 5 (e := 40) (sz := 2) (by' := 32) ((((x25)), (ts51))) rfl (by kernel_rfl) rfl rfl rfl rfl rfl rfl (.cons .sc (.take (.own rfl) rfl .nil)) rfl (by omega) (by omega)) ?_
     refine dT 8 rfl (pF 0) ?_
     refine dO 9 rfl (oS 1) ?_
     refine d_end (by kernel_rfl) ?_
     refine t_endblock ?_
     refine t_region ?_
     refine r_op oM ?_
     refine r_op oB ?_
     refine r_op oA ?_
     refine r_end ?_
     refine t_le ?_ (ih0 (IntKind.i64.wrap (kk - 1), bs ++ [(((x25)), (ts51))], (i252), (h253)) (by (try dsimp only); ((try simp only [IntKind.wrap_i64] at *); omega)) (by (try dsimp only); exact ⟨(by ((try simp only [IntKind.wrap_i64] at *); omega)), b2, (by (simp only [List.length_append, List.length_singleton]); ((try simp only [IntKind.wrap_i64] at *); omega)), mem_snoc b4 ⟨(by ((try simp only [IntKind.wrap_i64] at *); omega)), (by (try dsimp only); omega), (fun x hx => by have e9 := hy9 x hx; omega)⟩, by omega⟩))
     exact ⟨⟨rfl, ⟨rfl, ⟨rfl, ⟨rfl, trivial⟩⟩⟩⟩, ⟨rfl, ⟨rfl, ⟨rfl, ⟨rfl, ⟨rfl, trivial⟩⟩⟩⟩⟩, rfl⟩
    ·
     rintro ⟨⟨ts44, i245, h246⟩, hq47⟩
     try dsimp only at hq47
     try dsimp only
     obtain ⟨q48, q49, q50⟩ := hq47
     have hy9 : ∀ x ∈ ts44, -3 ≤ x ∧ x ≤ 4 := (by assumption)
     refine dT 1 rfl pL ?_
     refine dO 6 rfl (o_litS 13 (e := 40) (sz := 2) (zs := [.int .i64 (0), .slice none 0 0]) rfl rfl (by kernel_rfl) rfl rfl rfl rfl rfl) ?_
     refine dO 7 rfl (o_append 5 (e := 40) (sz := 2) (by' := 32) ((((x25)), (ts44))) rfl (by kernel_rfl) rfl rfl rfl rfl rfl rfl (.cons .sc (.take (.own rfl) rfl .nil)) rfl (by omega) (by omega)) ?_
     refine dT 8 rfl (pF 0) ?_
     refine dO 9 rfl (oS 1) ?_
     refine d_end (by kernel_rfl) ?_
     refine t_endblock ?_
     refine t_region ?_
     refine r_op oM ?_
     refine r_op oB ?_
     refine r_op oA ?_
     refine r_end ?_
     refine t_le ?_ (ih0 (IntKind.i64.wrap (kk - 1), bs ++ [(((x25)), (ts44))], (i245), (h246)) (by (try dsimp only); ((try simp only [IntKind.wrap_i64] at *); omega)) (by (try dsimp only); exact ⟨(by ((try simp only [IntKind.wrap_i64] at *); omega)), b2, (by (simp only [List.length_append, List.length_singleton]); ((try simp only [IntKind.wrap_i64] at *); omega)), mem_snoc b4 ⟨(by ((try simp only [IntKind.wrap_i64] at *); omega)), (by (try dsimp only); omega), (fun x hx => by have e9 := hy9 x hx; omega)⟩, by omega⟩))
     exact ⟨⟨rfl, ⟨rfl, ⟨rfl, ⟨rfl, trivial⟩⟩⟩⟩, ⟨rfl, ⟨rfl, ⟨rfl, ⟨rfl, ⟨rfl, trivial⟩⟩⟩⟩⟩, rfl⟩
  ·
   have h24' := of_decide_eq_false h24
   refine t_exit rfl ?_
   refine tsr ?_
   refine r_op (oF 0) ?_
   refine r_op oL ?_
   refine r_op (o_call 7 8 false (Go.Proofs.enters_of Tryz.func68 (by kernel_rfl) rfl) (c_spec_Variables (bs) (by (have e7 := szA_L b4; omega))) rfl (.cons rfl (.c (.own rfl)) .nil) rfl rfl rfl) ?_
   refine r_op oA ?_
   refine r_end ?_
   refine t_seq ?_
   refine tsr ?_
   refine r_op oM ?_
   refine r_op (o_leno rfl rfl rfl rfl) ?_
   refine r_op oB ?_
   refine r_op oM ?_
   refine r_guard rfl rfl rfl (fun g58 => ?_) (fun g58 => ?_)
   ·
    have g58' := of_decide_eq_true g58
    refine r_op oM ?_
    refine r_guard rfl rfl rfl (fun _ => ?_) (nc g58)
    refine r_opX (o_callGM 0 8 9 (pv := some (v0)) (Go.Proofs.enters_of Tryz.func61 (by kernel_rfl) rfl) (c_spec_l1Once (code) (i3) (h3) (3) (by omega) (by omega) (by omega) (by omega) (by omega)) rfl rfl (.cur rfl (.cons rfl .nil)) rfl (fun ⟨_, _, _⟩ => rfl) (fun _ => rfl) (fun ⟨_, _, _⟩ => rfl) rfl rfl) ?_
    rintro ⟨⟨b59, i260, h261⟩, hq62⟩
    try dsimp only at hq62
    try dsimp only
    refine r_op (o_pickT rfl rfl g58 rfl) ?_
    refine r_end ?_
    refine t_cond rfl (fun h64 => ?_) (fun h64 => ?_)
    ·
     have h64' := h64
     refine tsr ?_
     refine r_op (oF 2) ?_
     refine r_op (oS 1) ?_
     refine etr ?_
     refine r_op oM ?_
     obtain ⟨z65, hz66, b67⟩ := at_get (xs := setI (varsL (bs))) (n := 0) (by omega) (by omega)
     refine r_op (o_indexo rfl (by kernel_rfl) rfl rfl rfl b67 (at_lt b67 hz66)) ?_
     refine r_op (o_load1o rfl (by kernel_rfl) rfl rfl rfl hz66) ?_
     refine r_op (oF 3) ?_
     refine r_op (oS 1) ?_
     refine etr ?_
     refine r_op oM ?_
     obtain ⟨z68, hz69, b70⟩ := at_get (xs := setI (varsL (bs))) (n := 1) (by omega) (by omega)
     refine r_op (o_indexo rfl (by kernel_rfl) rfl rfl rfl b70 (at_lt b70 hz69)) ?_
     refine r_op (o_load1o rfl (by kernel_rfl) rfl rfl rfl hz69) ?_
     refine r_op (oF 4) ?_
     refine r_op (oS 1) ?_
     refine etr ?_
     refine r_op (oC 5) ?_
     refine r_op (oS 5) ?_
     refine r_end ?_
     refine t_ret Tryz.func106 (.cells (n := 5) (by kernel_rfl) (by kernel_rfl) rfl rfl rfl .nil) rfl fun E S w u hI hd => ?_
     refine post_mkG (⟨bs, [], true, z65, z68, (i260), (h261)⟩) ?_ hI hd ?_ ⟨rfl, ⟨rfl, ⟨rfl, trivial⟩⟩⟩ rfl rfl <;> clear hI hd <;> (try clear ih0) <;> (try clear ih1)
     · (try dsimp only) <;> ((refine ⟨⟨by (try dsimp only); omega, by (try dsimp only); (simp; done), b4, (by (intro a ha; simp at ha)), ?_, ?_⟩, by (simp; done), by omega⟩ <;> (try dsimp only) <;> (have e1 := vars_in b4 _ ((setI_mem _ _).1 (List.mem_of_getElem? hz66)); have e2 := vars_in b4 _ ((setI_mem _ _).1 (List.mem_of_getElem? hz69)); omega)))
     · rfl
    ·
     have h64' := h64
     refine t_skip ?_
     refine t_seq ?_
     refine tsr ?_
     refine r_op oM ?_
     refine r_opX (o_callGM 0 9 10 (pv := some (v0)) (Go.Proofs.enters_of Tryz.func81 (by kernel_rfl) rfl) (c_spec_l1Below ((code)) ((i260)) ((h261)) (2) (by omega) (by omega) (by omega) (by omega) (by omega)) rfl rfl (.cur rfl (.cons rfl .nil)) rfl (fun ⟨_, _, _⟩ => rfl) (fun _ => rfl) (fun ⟨_, _, _⟩ => rfl) rfl rfl) ?_
     rintro ⟨⟨x71, i272, h273⟩, hq74⟩
     try dsimp only at hq74
     try dsimp only
     obtain ⟨q75, q76⟩ := hq74
     refine r_op oB ?_
     refine r_op oA ?_
     refine r_end ?_
     refine t_block ?_
     refine t_loopL (fun (kk, gs, i3, h3) => ⟨[(0, some (.c (.ptr 0 0))), (2, some (.c (.ptr 1 0))), (3, some (.c (.ptr 3 0))), (6, some (.c (.t none (.v (.int .i64 (kk))))))], [(0, some (.pbox (v0) [.t none (.sl 1 encU (code)), .t none (.v (.int .i64 (i3))), .t none (.v (.int .i64 (h3)))])), (1, some (.box [.t none (.v (.slice none 0 0)), .t none (.v (.slice none 0 0)), .t none (.v (.bool (false))), .t none (.v (.int .i64 (0))), .t none (.v (.int .i64 (0)))])), (3, some (.box [.own 5, .own 6, .t none (.v (.bool (false))), .t none (.v (.int .i64 (0))), .t none (.v (.int .i64 (0)))])), (5, some (.row none 40 true 2 (enS2 encI (enSl 1 encI)) (bs))), (6, some (.row none 40 true 2 (enS2 encI (enSl 1 encI)) (gs))), (7, some (.row none 3 true 1 encI (setI (varsL (bs)))))], 10⟩ : Int × Atoms × Int × Int → St) (fun (kk, gs, i3, h3) => (0 ≤ kk ∧ kk ≤ 2) ∧ (1 ≤ IntKind.i64.wrap (1 + (x71)) ∧ IntKind.i64.wrap (1 + (x71)) ≤ 2) ∧ ((gs.length : Int) + kk = IntKind.i64.wrap (1 + (x71))) ∧ (∀ a ∈ gs, atomL a) ∧ (0 ≤ i3 ∧ i3 ≤ code.length)) (fun (kk, gs, i3, h3) => kk.toNat) (IntKind.i64.wrap (1 + (x71)), [], (i272), (h273)) ⟨⟨rfl, ⟨rfl, ⟨rfl, ⟨rfl, trivial⟩⟩⟩⟩, ⟨rfl, ⟨rfl, ⟨rfl, ⟨rfl, ⟨rfl, ⟨rfl, trivial⟩⟩⟩⟩⟩⟩, rfl⟩ (by exact ⟨(by (try dsimp only); ((try simp only [IntKind.wrap_i64] at *); omega)), (by (try dsimp only); ((try simp only [IntKind.wrap_i64] at *); omega)), (by (try dsimp only); simp), (fun a ha => by simp at ha), (by (try dsimp only); omega)⟩) ?_
     rintro ⟨kk, gs, i3, h3⟩ hI ih1
     try dsimp only at hI ih1
     obtain ⟨g1, g2, g3, g4, g5⟩ := hI
     refine t_seq ?_
     refine tsr ?_
     refine r_op oM ?_
     refine r_op oB ?_
     refine r_end ?_
     refine t_cond rfl (fun h77 => ?_) (fun h77 => ?_)
     ·
      have h77' := of_decide_eq_true h77
      refine t_skip ?_
      refine t_seq ?_
      refine t_block ?_
      refine t_draw (fun i => !(Nat.beq i 4 || Nat.beq i 6 || Nat.beq i 8 || Nat.beq i 10)) (by kernel_rfl) ?_
      refine d_takeP 0 rfl rfl (by kernel_rfl) (by kernel_rfl) (by kernel_rfl) (pw_fieldb (off := 1) (by kernel_rfl) rfl) ?_
      refine d_takeP 2 rfl rfl (by kernel_rfl) (by kernel_rfl) (by kernel_rfl) (pw_move rfl) ?_
      refine dT 3 rfl pM ?_
      refine d_twoX 1 4 rfl rfl (by kernel_rfl) rfl rfl (osX oL) (o_callGM 0 10 11 (pv := some (v0)) (Go.Proofs.enters_of Tryz.func81 (by kernel_rfl) rfl) (c_spec_l1Below (code) (i3) (h3) (3) (by omega) (by omega) (by omega) (by omega) (by omega)) rfl rfl (.cur rfl (.cons rfl .nil)) rfl (fun ⟨_, _, _⟩ => rfl) (fun _ => rfl) (fun ⟨_, _, _⟩ => rfl) rfl rfl) ?_ ?_
      ·
       rintro ⟨⟩
       refine dOX 4 rfl (o_callGM 0 10 11 (pv := some (v0)) (Go.Proofs.enters_of Tryz.func81 (by kernel_rfl) rfl) (c_spec_l1Below (code) (i3) (h3) (3) (by omega) (by omega) (by omega) (by omega) (by omega)) rfl rfl (.cur rfl (.cons rfl .nil)) rfl (fun ⟨_, _, _⟩ => rfl) (fun _ => rfl) (fun ⟨_, _, _⟩ => rfl) rfl rfl) ?_
       rintro ⟨⟨x84, i285, h286⟩, hq87⟩
       try dsimp only at hq87
       try dsimp only
       obtain ⟨q88, q89⟩ := hq87
       refine dT 5 rfl pB ?_
       refine dOX 6 rfl (o_callGM 0 11 16 (pv := some (v0)) (Go.Proofs.enters_of Tryz.func160 (by kernel_rfl) rfl) (c_spec_l9Atom ((code)) ((i285)) ((h286)) (IntKind.i64.wrap (2 + (x84))) (4) (by omega) (by omega) (by omega) (by (simp only [IntKind.wrap_i64] at *; omega)) (by omega)) rfl rfl (.cur rfl (.cons rfl (.cons rfl .nil))) rfl (fun ⟨_, _, _⟩ => rfl) (fun _ => rfl) (fun ⟨_, _, _⟩ => rfl) rfl rfl) ?_
       rintro ⟨⟨ts90, i291, h292⟩, hq93⟩
       try dsimp only at hq93
       try dsimp only
       obtain ⟨q94, q95, q96⟩ := hq93
       have hy9 : ∀ x ∈ ts90, -3 ≤ x ∧ x ≤ 4 := (by assumption)
       refine dO 7 rfl (o_litS 16 (e := 40) (sz := 2) (zs := [.int .i64 (0), .slice none 0 0]) rfl rfl (by kernel_rfl) rfl rfl rfl rfl rfl) ?_
       refine dO 8 rfl (o_append 6 (e := 40) (sz := 2) (by' := 32) (((IntKind.i64.wrap (2 + (x84))), (ts90))) rfl (by kernel_rfl) rfl rfl rfl rfl rfl rfl (.cons .sc (.take (.own rfl) rfl .nil)) rfl (by omega) (by omega)) ?_
       refine dT 9 rfl (pF 1) ?_
       refine dO 10 rfl (oS 1) ?_
       refine d_end (by kernel_rfl) ?_
       refine t_endblock ?_
       refine t_region ?_
       refine r_op oM ?_
       refine r_op oB ?_
       refine r_op oA ?_
       refine r_end ?_
       refine t_le ?_ (ih1 (IntKind.i64.wrap (kk - 1), gs ++ [((IntKind.i64.wrap (2 + (x84))), (ts90))], (i291), (h292)) (by (try dsimp only); ((try simp only [IntKind.wrap_i64] at *); omega)) (by (try dsimp only); exact ⟨(by ((try simp only [IntKind.wrap_i64] at *); omega)), g2, (by (simp only [List.length_append, List.length_singleton]); ((try simp only [IntKind.wrap_i64] at *); omega)), mem_snoc g4 ⟨(by ((try simp only [IntKind.wrap_i64] at *); omega)), (by (try dsimp only); omega), (fun x hx => by have e9 := hy9 x hx; omega)⟩, by omega⟩))
       exact ⟨⟨rfl, ⟨rfl, ⟨rfl, ⟨rfl, trivial⟩⟩⟩⟩, ⟨rfl, ⟨rfl, ⟨rfl, ⟨rfl, ⟨rfl, ⟨rfl, trivial⟩⟩⟩⟩⟩⟩, rfl⟩
      ·
       rintro ⟨⟨x78, i279, h280⟩, hq81⟩
       try dsimp only at hq81
       try dsimp only
       obtain ⟨q82, q83⟩ := hq81
       refine dT 5 rfl pB ?_
       refine d_twoX 1 6 rfl rfl (by kernel_rfl) rfl rfl (osX oL) (o_callGM 0 11 16 (pv := some (v0)) (Go.Proofs.enters_of Tryz.func160 (by kernel_rfl) rfl) (c_spec_l9Atom ((code)) ((i279)) ((h280)) (IntKind.i64.wrap (2 + (x78))) (4) (by omega) (by omega) (by omega) (by (simp only [IntKind.wrap_i64] at *; omega)) (by omega)) rfl rfl (.cur rfl (.cons rfl (.cons rfl .nil))) rfl (fun ⟨_, _, _⟩ => rfl) (fun _ => rfl) (fun ⟨_, _, _⟩ => rfl) rfl rfl) ?_ ?_
       ·
        rintro ⟨⟩
        refine dOX 6 rfl (o_callGM 0 11 16 (pv := some (v0)) (Go.Proofs.enters_of Tryz.func160 (by kernel_rfl) rfl) (c_spec_l9Atom ((code)) ((i279)) ((h280)) (IntKind.i64.wrap (2 + (x78))) (4) (by omega) (by omega) (by omega) (by (simp only [IntKind.wrap_i64] at *; omega)) (by omega)) rfl rfl (.cur rfl (.cons rfl (.cons rfl .nil))) rfl (fun ⟨_, _, _⟩ => rfl) (fun _ => rfl) (fun ⟨_, _, _⟩ => rfl) rfl rfl) ?_
        rintro ⟨⟨ts104, i2105, h2106⟩, hq107⟩
        try dsimp only at hq107
        try dsimp only
        obtain ⟨q108, q109, q110⟩ := hq107
        have hy9 : ∀ x ∈ ts104, -3 ≤ x ∧ x ≤ 4 := (by assumption)
        refine dO 7 rfl (o_litS 16 (e := 40) (sz := 2) (zs := [.int .i64 (0), .slice none 0 0]) rfl rfl (by kernel_rfl) rfl rfl rfl rfl rfl) ?_
        refine dO 8 rfl (o_append 6 (e := 40) (sz := 2) (by' := 32) (((IntKind.i64.wrap (2 + (x78))), (ts104))) rfl (by kernel_rfl) rfl rfl rfl rfl rfl rfl (.cons .sc (.take (.own rfl) rfl .nil)) rfl (by omega) (by omega)) ?_
        refine dT 9 rfl (pF 1) ?_
        refine dO 10 rfl (oS 1) ?_
        refine d_end (by kernel_rfl) ?_
        refine t_endblock ?_
        refine t_region ?_
        refine r_op oM ?_
        refine r_op oB ?_
        refine r_op oA ?_
        refine r_end ?_
        refine t_le ?_ (ih1 (IntKind.i64.wrap (kk - 1), gs ++ [((IntKind.i64.wrap (2 + (x78))), (ts104))], (i2105), (h2106)) (by (try dsimp only); ((try simp only [IntKind.wrap_i64] at *); omega)) (by (try dsimp only); exact ⟨(by ((try simp only [IntKind.wrap_i64] at *); omega)), g2, (by (simp only [List.length_append, List.length_singleton]); ((try simp only [IntKind.wrap_i64] at *); omega)), mem_snoc g4 ⟨(by ((try simp only [IntKind.wrap_i64] at *); omega)), (by (try dsimp only); omega), (fun x hx => by have e9 := hy9 x hx; omega)⟩, by omega⟩))
        exact ⟨⟨rfl, ⟨rfl, ⟨rfl, ⟨rfl, trivial⟩⟩⟩⟩, ⟨rfl, ⟨rfl, ⟨rfl, ⟨rfl, ⟨rfl, ⟨rfl, trivial⟩⟩⟩⟩⟩⟩, rfl⟩
       ·
        rintro ⟨⟨ts97, i298, h299⟩, hq100⟩
        try dsimp only at hq100
        try dsimp only
        obtain ⟨q101, q102, q103⟩ := hq100
        have hy9 : ∀ x ∈ ts97, -3 ≤ x ∧ x ≤ 4 := (by assumption)
        refine dT 1 rfl pL ?_
        refine dO 7 rfl (o_litS 16 (e := 40) (sz := 2) (zs := [.int .i64 (0), .slice none 0 0]) rfl rfl (by kernel_rfl) rfl rfl rfl rfl rfl) ?_
        refine dO 8 rfl (o_append 6 (e := 40) (sz := 2) (by' := 32) (((IntKind.i64.wrap (2 + (x78))), (ts97))) rfl (by kernel_rfl) rfl rfl rfl rfl rfl rfl (.cons .sc (.take (.own rfl) rfl .nil)) rfl (by omega) (by omega)) ?_
        refine dT 9 rfl (pF 1) ?_
        refine dO 10 rfl (oS 1) ?_
        refine d_end (by kernel_rfl) ?_
        refine t_endblock ?_
        refine t_region ?_
        refine r_op oM ?_
        refine r_op oB ?_
        refine r_op oA ?_
        refine r_end ?_
        refine t_le ?_ (ih1 (IntKind.i64.wrap (kk - 1), gs ++ [((IntKind.i64.wrap (2 + (x78))), (ts97))], (i298), (h299)) (by (try dsimp only); ((try simp only [IntKind.wrap_i64] at *); omega)) (by (try dsimp only); exact ⟨(by ((try simp only [IntKind.wrap_i64] at *); omega)), g2, (by (simp only [List.length_append, List.length_singleton]); ((try simp only [IntKind.wrap_i64] at *); omega)), mem_snoc g4 ⟨(by ((try simp only [IntKind.wrap_i64] at *); omega)), (by (try dsimp only); omega), (fun x hx => by have e9 := hy9 x hx; omega)⟩, by omega⟩))
        exact ⟨⟨rfl, ⟨rfl, ⟨rfl, ⟨rfl, trivial⟩⟩⟩⟩, ⟨rfl, ⟨rfl, ⟨rfl, ⟨rfl, ⟨rfl, ⟨rfl, trivial⟩⟩⟩⟩⟩⟩, rfl⟩
     ·
      have h77' := of_decide_eq_false h77
      refine t_exit rfl ?_
      refine tsr ?_
      refine r_op (oC 5) ?_
      refine r_op (oS 5) ?_
      refine r_end ?_
      refine t_ret Tryz.func106 (.cells (n := 5) (by kernel_rfl) (by kernel_rfl) rfl rfl rfl .nil) rfl fun E S w u hI hd => ?_
      refine post_mkG (⟨bs, gs, false, 0, 0, i3, h3⟩) ?_ hI hd ?_ ⟨rfl, ⟨rfl, ⟨rfl, trivial⟩⟩⟩ rfl rfl <;> clear hI hd <;> (try clear ih0) <;> (try clear ih1)
      · (try dsimp only) <;> ((refine ⟨⟨by (try dsimp only); omega, by (try dsimp only); (omega), b4, (by exact g4), ?_, ?_⟩, by (omega), by omega⟩ <;> (try dsimp only) <;> (omega)))
      · rfl
   ·
    have g58' := of_decide_eq_false g58
    refine r_guard rfl rfl rfl (ncf g58) (fun _ => ?_)
    refine r_op (o_pickF rfl rfl g58 rfl) ?_
    refine r_end ?_
    refine t_cond rfl (ncf rfl) (fun _ => ?_)
    refine t_skip ?_
    refine t_seq ?_
    refine tsr ?_
    refine r_op oM ?_
    refine r_opX (o_callGM 0 8 9 (pv := some (v0)) (Go.Proofs.enters_of Tryz.func81 (by kernel_rfl) rfl) (c_spec_l1Below (code) (i3) (h3) (2) (by omega) (by omega) (by omega) (by omega) (by omega)) rfl rfl (.cur rfl (.cons rfl .nil)) rfl (fun ⟨_, _, _⟩ => rfl) (fun _ => rfl) (fun ⟨_, _, _⟩ => rfl) rfl rfl) ?_
    rintro ⟨⟨x111, i2112, h2113⟩, hq114⟩
    try dsimp only at hq114
    try dsimp only
    obtain ⟨q115, q116⟩ := hq114
    refine r_op oB ?_
    refine r_op oA ?_
    refine r_end ?_
    refine t_block ?_
    refine t_loopL (fun (kk, gs, i3, h3) => ⟨[(0, some (.c (.ptr 0 0))), (2, some (.c (.ptr 1 0))), (3, some (.c (.ptr 3 0))), (6, some (.c (.t none (.v (.int .i64 (kk))))))], [(0, some (.pbox (v0) [.t none (.sl 1 encU (code)), .t none (.v (.int .i64 (i3))), .t none (.v (.int .i64 (h3)))])), (1, some (.box [.t none (.v (.slice none 0 0)), .t none (.v (.slice none 0 0)), .t none (.v (.bool (false))), .t none (.v (.int .i64 (0))), .t none (.v (.int .i64 (0)))])), (3, some (.box [.own 5, .own 6, .t none (.v (.bool (false))), .t none (.v (.int .i64 (0))), .t none (.v (.int .i64 (0)))])), (5, some (.row none 40 true 2 (enS2 encI (enSl 1 encI)) (bs))), (6, some (.row none 40 true 2 (enS2 encI (enSl 1 encI)) (gs))), (7, some (.row none 3 true 1 encI (setI (varsL (bs)))))], 9⟩ : Int × Atoms × Int × Int → St) (fun (kk, gs, i3, h3) => (0 ≤ kk ∧ kk ≤ 2) ∧ (1 ≤ IntKind.i64.wrap (1 + (x111)) ∧ IntKind.i64.wrap (1 + (x111)) ≤ 2) ∧ ((gs.length : Int) + kk = IntKind.i64.wrap (1 + (x111))) ∧ (∀ a ∈ gs, atomL a) ∧ (0 ≤ i3 ∧ i3 ≤ code.length)) (fun (kk, gs, i3, h3) => kk.toNat) (IntKind.i64.wrap (1 + (x111)), [], (i2112), (h2113)) ⟨⟨rfl, ⟨rfl, ⟨rfl, ⟨rfl, trivial⟩⟩⟩⟩, ⟨rfl, ⟨rfl, ⟨rfl, ⟨rfl, ⟨rfl, ⟨rfl, trivial⟩⟩⟩⟩⟩⟩, rfl⟩ (by exact ⟨(by (try dsimp only); ((try simp only [IntKind.wrap_i64] at *); omega)), (by (try dsimp only); ((try simp only [IntKind.wrap_i64] at *); omega)), (by (try dsimp only); simp), (fun a ha => by simp at ha), (by (try dsimp only); omega)⟩) ?_
    rintro ⟨kk, gs, i3, h3⟩ hI ih1
    try dsimp only at hI ih1
    obtain ⟨g1, g2, g3, g4, g5⟩ := hI
    refine t_seq ?_
    refine tsr ?_
    refine r_op oM ?_
    refine r_op oB ?_
    refine r_end ?_
    refine t_cond rfl (fun h117 => ?_) (fun h117 => ?_)
    ·
     have h117' := of_decide_eq_true h117
     refine t_skip ?_
     refine t_seq ?_
     refine t_block ?_
     refine t_draw (fun i => !(Nat.beq i 4 || Nat.beq i 6 || Nat.beq i 8 || Nat.beq i 10)) (by kernel_rfl) ?_
     refine d_takeP 0 rfl rfl (by kernel_rfl) (by kernel_rfl) (by kernel_rfl) (pw_fieldb (off := 1) (by kernel_rfl) rfl) ?_
     refine d_takeP 2 rfl rfl (by kernel_rfl) (by kernel_rfl) (by kernel_rfl) (pw_move rfl) ?_
     refine dT 3 rfl pM ?_
     refine d_twoX 1 4 rfl rfl (by kernel_rfl) rfl rfl (osX oL) (o_callGM 0 9 10 (pv := some (v0)) (Go.Proofs.enters_of Tryz.func81 (by kernel_rfl) rfl) (c_spec_l1Below (code) (i3) (h3) (3) (by omega) (by omega) (by omega) (by omega) (by omega)) rfl rfl (.cur rfl (.cons rfl .nil)) rfl (fun ⟨_, _, _⟩ => rfl) (fun _ => rfl) (fun ⟨_, _, _⟩ => rfl) rfl rfl) ?_ ?_
     ·
      rintro ⟨⟩
      refine dOX 4 rfl (o_callGM 0 9 10 (pv := some (v0)) (Go.Proofs.enters_of Tryz.func81 (by kernel_rfl) rfl) (c_spec_l1Below (code) (i3) (h3) (3) (by omega) (by omega) (by omega) (by omega) (by omega)) rfl rfl (.cur rfl (.cons rfl .nil)) rfl (fun ⟨_, _, _⟩ => rfl) (fun _ => rfl) (fun ⟨_, _, _⟩ => rfl) rfl rfl) ?_
      rintro ⟨⟨x124, i2125, h2126⟩, hq127⟩
      try dsimp only at hq127
      try dsimp only
      obtain ⟨q128, q129⟩ := hq127
      refine dT 5 rfl pB ?_
      refine dOX 6 rfl (o_callGM 0 10 15 (pv := some (v0)) (Go.Proofs.enters_of Tryz.func160 (by kernel_rfl) rfl) (c_spec_l9Atom ((code)) ((i2125)) ((h2126)) (IntKind.i64.wrap (2 + (x124))) (4) (by omega) (by omega) (by omega) (by (simp only [IntKind.wrap_i64] at *; omega)) (by omega)) rfl rfl (.cur rfl (.cons rfl (.cons rfl .nil))) rfl (fun ⟨_, _, _⟩ => rfl) (fun _ => rfl) (fun ⟨_, _, _⟩ => rfl) rfl rfl) ?_
      rintro ⟨⟨ts130, i2131, h2132⟩, hq133⟩
      try dsimp only at hq133
      try dsimp only
      obtain ⟨q134, q135, q136⟩ := hq133
      have hy9 : ∀ x ∈ ts130, -3 ≤ x ∧ x ≤ 4 := (by assumption)
      refine dO 7 rfl (o_litS 15 (e := 40) (sz := 2) (zs := [.int .i64 (0), .slice none 0 0]) rfl rfl (by kernel_rfl) rfl rfl rfl rfl rfl) ?_
      refine dO 8 rfl (o_append 6 (e := 40) (sz := 2) (by' := 32) (((IntKind.i64.wrap (2 + (x124))), (ts130))) rfl (by kernel_rfl) rfl rfl rfl rfl rfl rfl (.cons .sc (.take (.own rfl) rfl .nil)) rfl (by omega) (by omega)) ?_
      refine dT 9 rfl (pF 1) ?_
      refine dO 10 rfl (oS 1) ?_
      refine d_end (by kernel_rfl) ?_
      refine t_endblock ?_
      refine t_region ?_
      refine r_op oM ?_
      refine r_op oB ?_
      refine r_op oA ?_
      refine r_end ?_
      refine t_le ?_ (ih1 (IntKind.i64.wrap (kk - 1), gs ++ [((IntKind.i64.wrap (2 + (x124))), (ts130))], (i2131), (h2132)) (by (try dsimp only); ((try simp only [IntKind.wrap_i64] at *); omega)) (by (try dsimp only); exact ⟨(by ((try simp only [IntKind.wrap_i64] at *); omega)), g2, (by (simp only [List.length_append, List.length_singleton]); ((try simp only [IntKind.wrap_i64] at *); omega)), mem_snoc g4 ⟨(by ((try simp only [IntKind.wrap_i64] at *); omega)), (by (try dsimp only); omega), (fun x hx => by have e9 := hy9 x hx; omega)⟩, by omega⟩))
      exact ⟨⟨rfl, ⟨rfl, ⟨rfl, ⟨rfl, trivial⟩⟩⟩⟩, ⟨rfl, ⟨rfl, ⟨rfl, ⟨rfl, ⟨rfl, ⟨rfl, trivial⟩⟩⟩⟩⟩⟩, rfl⟩
     ·
      rintro ⟨⟨x118, i2119, h2120⟩, hq121⟩
      try dsimp only at hq121
      try dsimp only
      obtain ⟨q122, q123⟩ := hq121
      refine dT 5 rfl pB ?_
      refine d_twoX 1 6 rfl rfl (by kernel_rfl) rfl rfl (osX oL) (o_callGM 0 10 15 (pv := some (v0)) (Go.Proofs.enters_of Tryz.func160 (by kernel_rfl) rfl) (c_spec_l9Atom ((code)) ((i2119)) ((h2120)) (IntKind.i64.wrap (2 + (x118))) (4) (by omega) (by omega) (by omega) (by (simp only [IntKind.wrap_i64] at *; omega)) (by omega)) rfl rfl (.cur rfl (.cons rfl (.cons rfl .nil))) rfl (fun ⟨_, _, _⟩ => rfl) (fun _ => rfl) (fun ⟨_, _, _⟩ => rfl) rfl rfl) ?_ ?_
      ·
       rintro ⟨⟩
       refine dOX 6 rfl (o_callGM 0 10 15 (pv := some (v0)) (Go.Proofs.enters_of Tryz.func160 (by kernel_rfl) rfl) (c_spec_l9Atom ((code)) ((i2119)) ((h2120)) (IntKind.i64.wrap (2 + (x118))) (4) (by omega) (by omega) (by omega) (by (simp only [IntKind.wrap_i64] at *; omega)) (by omega)) rfl rfl (.cur rfl (.cons rfl (.cons rfl .nil))) rfl (fun ⟨_, _, _⟩ => rfl) (fun _ => rfl) (fun ⟨_, _, _⟩ => rfl) rfl rfl) ?_
       rintro ⟨⟨ts144, i2145, h2146⟩, hq147⟩
       try dsimp only at hq147
       try dsimp only
       obtain ⟨q148, q149, q150⟩ := hq147
       have hy9 : ∀ x ∈ ts144, -3 ≤ x ∧ x ≤ 4 := (by assumption)
       refine dO 7 rfl (o_litS 15 (e := 40) (sz := 2) (zs := [.int .i64 (0), .slice none 0 0]) rfl rfl (by kernel_rfl) rfl rfl rfl rfl rfl) ?_
       refine dO 8 rfl (o_append 6 (e := 40) (sz := 2) (by' := 32) (((IntKind.i64.wrap (2 + (x118))), (ts144))) rfl (by kernel_rfl) rfl rfl rfl rfl rfl rfl (.cons .sc (.take (.own rfl) rfl .nil)) rfl (by omega) (by omega)) ?_
       refine dT 9 rfl (pF 1) ?_
       refine dO 10 rfl (oS 1) ?_
       refine d_end (by kernel_rfl) ?_
       refine t_endblock ?_
       refine t_region ?_
       refine r_op oM ?_
       refine r_op oB ?_
       refine r_op oA ?_
       refine r_end ?_
       refine t_le ?_ (ih1 (IntKind.i64.wrap (kk - 1), gs ++ [((IntKind.i64.wrap (2 + (x118))), (ts144))], (i2145), (h2146)) (by (try dsimp only); ((try simp only [IntKind.wrap_i64] at *); omega)) (by (try dsimp only); exact ⟨(by ((try simp only [IntKind.wrap_i64] at *); omega)), g2, (by (simp only [List.length_append, List.length_singleton]); ((try simp only [IntKind.wrap_i64] at *); omega)), mem_snoc g4 ⟨(by ((try simp only [IntKind.wrap_i64] at *); omega)), (by (try dsimp only); omega), (fun x hx => by have e9 := hy9 x hx; omega)⟩, by omega⟩))
       exact ⟨⟨rfl, ⟨rfl, ⟨rfl, ⟨rfl, trivial⟩⟩⟩⟩, ⟨rfl, ⟨rfl, ⟨rfl, ⟨rfl, ⟨rfl, ⟨rfl, trivial⟩⟩⟩⟩⟩⟩, rfl⟩
      ·
       rintro ⟨⟨ts137, i2138, h2139⟩, hq140⟩
       try dsimp only at hq140
       try dsimp only
       obtain ⟨q141, q142, q143⟩ := hq140
       have hy9 : ∀ x ∈ ts137, -3 ≤ x ∧ x ≤ 4 := (by assumption)
       refine dT 1 rfl pL ?_
       refine dO 7 rfl (o_litS 15 (e := 40) (sz := 2) (zs := [.int .i64 (0), .slice none 0 0]) rfl rfl (by kernel_rfl) rfl rfl rfl rfl rfl) ?_
       refine dO 8 rfl (o_append 6 (e := 40) (sz := 2) (by' := 32) (((IntKind.i64.wrap (2 + (x118))), (ts137))) rfl (by kernel_rfl) rfl rfl rfl rfl rfl rfl (.cons .sc (.take (.own rfl) rfl .nil)) rfl (by omega) (by omega)) ?_
       refine dT 9 rfl (pF 1) ?_
       refine dO 10 rfl (oS 1) ?_
       refine d_end (by kernel_rfl) ?_
       refine t_endblock ?_
       refine t_region ?_
       refine r_op oM ?_
       refine r_op oB ?_
       refine r_op oA ?_
       refine r_end ?_
       refine t_le ?_ (ih1 (IntKind.i64.wrap (kk - 1), gs ++ [((IntKind.i64.wrap (2 + (x118))), (ts137))], (i2138), (h2139)) (by (try dsimp only); ((try simp only [IntKind.wrap_i64] at *); omega)) (by (try dsimp only); exact ⟨(by ((try simp only [IntKind.wrap_i64] at *); omega)), g2, (by (simp only [List.length_append, List.length_singleton]); ((try simp only [IntKind.wrap_i64] at *); omega)), mem_snoc g4 ⟨(by ((try simp only [IntKind.wrap_i64] at *); omega)), (by (try dsimp only); omega), (fun x hx => by have e9 := hy9 x hx; omega)⟩, by omega⟩))
       exact ⟨⟨rfl, ⟨rfl, ⟨rfl, ⟨rfl, trivial⟩⟩⟩⟩, ⟨rfl, ⟨rfl, ⟨rfl, ⟨rfl, ⟨rfl, ⟨rfl, trivial⟩⟩⟩⟩⟩⟩, rfl⟩
    ·
     have h117' := of_decide_eq_false h117
     refine t_exit rfl ?_
     refine tsr ?_
     refine r_op (oC 5) ?_
     refine r_op (oS 5) ?_
     refine r_end ?_
     refine t_ret Tryz.func106 (.cells (n := 5) (by kernel_rfl) (by kernel_rfl) rfl rfl rfl .nil) rfl fun E S w u hI hd => ?_
     refine post_mkG (⟨bs, gs, false, 0, 0, i3, h3⟩) ?_ hI hd ?_ ⟨rfl, ⟨rfl, ⟨rfl, trivial⟩⟩⟩ rfl rfl <;> clear hI hd <;> (try clear ih0) <;> (try clear ih1)
     · (try dsimp only) <;> ((refine ⟨⟨by (try dsimp only); omega, by (try dsimp only); (omega), b4, (by exact g4), ?_, ?_⟩, by (omega), by omega⟩ <;> (try dsimp only) <;> (omega)))
     · rfl
set_option maxHeartbeats 1000000 in
set_option maxRecDepth 10000 in
theorem c_spec_l9Rules (code : List Int) (i h : Int) (hc : code.length ≤ 1048576) (hi0 : 0 ≤ i) (hi1 : i ≤ code.length) : MuG Tryz.prog 128 [.c (.ptr 0 0)] [.t none (.sl 1 encU (code)), .t none (.v (.int .i64 (i))), .t none (.v (.int .i64 (h)))] (fun (⟨ds, i2, h2⟩ : (List Dep) × Int × Int) => (1 ≤ ds.length ∧ ds.length ≤ 4) ∧ (∀ d ∈ ds, depL d) ∧ 0 ≤ i2 ∧ i2 ≤ code.length) (fun (⟨ds, i2, h2⟩ : (List Dep) × Int × Int) => [.t none (.sl 1 encU (code)), .t none (.v (.int .i64 (i2))), .t none (.v (.int .i64 (h2)))]) (fun (⟨ds, i2, h2⟩ : (List Dep) × Int × Int) => [(1, some (.row none 50 true 5 (enS5 (enSl 2 (enS2 encI (enSl 1 encI))) (enSl 2 (enS2 encI (enSl 1 encI))) encB encI encI) (ds)))]) 2 (fun (⟨ds, i2, h2⟩ : (List Dep) × Int × Int) => .c (.own 1)) := by
 refine mu_enterG Tryz.func128 rfl (Nat.le_of_ble_eq_true rfl) fun v0 w S M hM => ?_
 refine tsr ?_
 refine r_op oA ?_
 refine etr ?_
 refine r_op (o_lit0 1 (e := 50) (sz := 5) (zs := [.slice none 0 0, .slice none 0 0, .bool (false), .int .i64 (0), .int .i64 (0)]) (enS5 (enSl 2 (enS2 encI (enSl 1 encI))) (enSl 2 (enS2 encI (enSl 1 encI))) encB encI encI) rfl rfl (by kernel_rfl) rfl) ?_
 refine r_op oA ?_
 refine r_end ?_
 refine t_seq ?_
 refine tsr ?_
 refine r_op oM ?_
 refine r_opX (o_callGM 0 2 3 (pv := some (v0)) (Go.Proofs.enters_of Tryz.func81 (by kernel_rfl) rfl) (c_spec_l1Below (code) (i) (h) (4) (by omega) (by omega) (by omega) (by omega) (by omega)) rfl rfl (.cur rfl (.cons rfl .nil)) rfl (fun ⟨_, _, _⟩ => rfl) (fun _ => rfl) (fun ⟨_, _, _⟩ => rfl) rfl rfl) ?_
 rintro ⟨⟨x1, i22, h23⟩, hq4⟩
 try dsimp only at hq4
 try dsimp only
 obtain ⟨q5, q6⟩ := hq4
 refine r_op oB ?_
 refine r_op oA ?_
 refine r_end ?_
 refine t_block ?_
 refine t_loopL (fun (kk, ds, i3, h3) => ⟨[(0, some (.c (.ptr 0 0))), (2, some (.c (.t none (.v (.slice none 0 0))))), (3, some (.c (.own 1))), (4, some (.c (.t none (.v (.int .i64 (kk))))))], [(0, some (.pbox (v0) [.t none (.sl 1 encU (code)), .t none (.v (.int .i64 (i3))), .t none (.v (.int .i64 (h3)))])), (1, some (.row none 50 true 5 (enS5 (enSl 2 (enS2 encI (enSl 1 encI))) (enSl 2 (enS2 encI (enSl 1 encI))) encB encI encI) (ds)))], 3⟩ : Int × List Dep × Int × Int → St) (fun (kk, ds, i3, h3) => (0 ≤ kk ∧ kk ≤ 4) ∧ (1 ≤ IntKind.i64.wrap (1 + (x1)) ∧ IntKind.i64.wrap (1 + (x1)) ≤ 4) ∧ ((ds.length : Int) + kk = IntKind.i64.wrap (1 + (x1))) ∧ (∀ d ∈ ds, depL d) ∧ (0 ≤ i3 ∧ i3 ≤ code.length)) (fun (kk, ds, i3, h3) => kk.toNat) (IntKind.i64.wrap (1 + (x1)), [], (i22), (h23)) ⟨⟨rfl, ⟨rfl, ⟨rfl, ⟨rfl, trivial⟩⟩⟩⟩, ⟨rfl, ⟨rfl, trivial⟩⟩, rfl⟩ (by exact ⟨(by (try dsimp only); ((try simp only [IntKind.wrap_i64] at *); omega)), (by (try dsimp only); ((try simp only [IntKind.wrap_i64] at *); omega)), (by (try dsimp only); simp), (fun a ha => by simp at ha), (by (try dsimp only); omega)⟩) ?_
 rintro ⟨kk, ds, i3, h3⟩ hI ih0
 try dsimp only at hI ih0
 obtain ⟨b1, b2, b3, b4, b5⟩ := hI
 refine t_seq ?_
 refine tsr ?_
 refine r_op oM ?_
 refine r_op oB ?_
 refine r_end ?_
 refine t_cond rfl (fun h7 => ?_) (fun h7 => ?_)
 ·
  have h7' := of_decide_eq_true h7
  refine t_skip ?_
  refine t_seq ?_
  refine t_block ?_
  refine t_region ?_
  refine r_op oM ?_
  refine r_op oM ?_
  refine r_opX (o_callGM 0 3 10 (pv := some (v0)) (Go.Proofs.enters_of Tryz.func106 (by kernel_rfl) rfl) (c_spec_l9Rule (code) (i3) (h3) (by omega) (by omega) (by omega)) rfl rfl (.cur rfl .nil) rfl (fun ⟨_, _, _, _, _, _, _⟩ => rfl) (fun _ => rfl) (fun ⟨_, _, _, _, _, _, _⟩ => rfl) rfl rfl) ?_
  rintro ⟨⟨b8, hs9, e10, lv11, rv12, i213, h214⟩, hq15⟩
  try dsimp only at hq15
  try dsimp only
  obtain ⟨q16, q17, q18⟩ := hq15
  refine r_op (o_litS 10 (e := 50) (sz := 5) (zs := [.slice none 0 0, .slice none 0 0, .bool (false), .int .i64 (0), .int .i64 (0)]) rfl rfl (by kernel_rfl) rfl rfl rfl rfl rfl) ?_
  refine r_op (o_append 1 (e := 50) (sz := 5) (by' := 72) (((b8), (hs9), (e10), (lv11), (rv12))) rfl (by kernel_rfl) rfl rfl rfl rfl rfl rfl (.take (.own rfl) rfl (.take (.own rfl) rfl (.cons .sc (.cons .sc (.cons .sc .nil))))) rfl (by omega) (by omega)) ?_
  refine r_op oA ?_
  refine r_end ?_
  refine t_endblock ?_
  refine t_region ?_
  refine r_op oM ?_
  refine r_op oB ?_
  refine r_op oA ?_
  refine r_end ?_
  refine t_le ?_ (ih0 (IntKind.i64.wrap (kk - 1), ds ++ [((b8), (hs9), (e10), (lv11), (rv12))], (i213), (h214)) (by (try dsimp only); ((try simp only [IntKind.wrap_i64] at *); omega)) (by (try dsimp only); exact ⟨(by ((try simp only [IntKind.wrap_i64] at *); omega)), b2, (by (simp only [List.length_append, List.length_singleton]); ((try simp only [IntKind.wrap_i64] at *); omega)), mem_snoc b4 (by assumption), by omega⟩))
  exact ⟨⟨rfl, ⟨rfl, ⟨rfl, ⟨rfl, trivial⟩⟩⟩⟩, ⟨rfl, ⟨rfl, trivial⟩⟩, rfl⟩
 ·
  have h7' := of_decide_eq_false h7
  refine t_exit rfl ?_
  refine tsr ?_
  refine r_op oM ?_
  refine r_op oA ?_
  refine r_end ?_
  refine t_ret Tryz.func128 (.tmp rfl .nil) rfl fun E S w u hI hd => ?_
  refine post_mkG (⟨ds, i3, h3⟩) ?_ hI hd ?_ ⟨rfl, ⟨rfl, trivial⟩⟩ rfl rfl <;> clear hI hd <;> (try clear ih0)
  · (try dsimp only) <;> (exact ⟨by omega, b4, by omega⟩)
  · rfl
set_option maxHeartbeats 1000000 in
set_option maxRecDepth 10000 in
theorem c_spec_l1PickInt (code : List Int) (i h : Int) (l : List Int) (hc : code.length ≤ 1048576) (hi0 : 0 ≤ i) (hi1 : i ≤ code.length) (hl : 1 ≤ l.length) (hl2 : l.length ≤ 256) : MuG Tryz.prog 120 [.c (.ptr 0 0), .c (.t none (.sl 1 encI (l)))] [.t none (.sl 1 encU (code)), .t none (.v (.int .i64 (i))), .t none (.v (.int .i64 (h)))] (fun (⟨x, i2, h2⟩ : Int × Int × Int) => x ∈ l ∧ 0 ≤ i2 ∧ i2 ≤ code.length) (fun (⟨x, i2, h2⟩ : Int × Int × Int) => [.t none (.sl 1 encU (code)), .t none (.v (.int .i64 (i2))), .t none (.v (.int .i64 (h2)))]) (fun (⟨x, i2, h2⟩ : Int × Int × Int) => []) 1 (fun (⟨x, i2, h2⟩ : Int × Int × Int) => .c (.t none (.v (.int .i64 (x))))) := by
 refine mu_enterG Tryz.func120 rfl (Nat.le_of_ble_eq_true rfl) fun v0 w S M hM => ?_
 refine tsr ?_
 refine r_op oA ?_
 refine etr ?_
 refine r_op oM ?_
 refine r_op oM ?_
 refine r_op oM ?_
 refine r_op (o_len rfl rfl rfl) ?_
 refine r_opX (o_callGM 0 1 2 (pv := some (v0)) (Go.Proofs.enters_of Tryz.func81 (by kernel_rfl) rfl) (c_spec_l1Below (code) (i) (h) (((l).length : Int)) (by omega) (by omega) (by omega) (by omega) (by omega)) rfl rfl (.cur rfl (.cons rfl .nil)) rfl (fun ⟨_, _, _⟩ => rfl) (fun _ => rfl) (fun ⟨_, _, _⟩ => rfl) rfl rfl) ?_
 rintro ⟨⟨x1, i22, h23⟩, hq4⟩
 try dsimp only at hq4
 try dsimp only
 obtain ⟨q5, q6⟩ := hq4
 obtain ⟨z7, hz8, b9⟩ := at_get (xs := l) (n := (x1)) (by omega) (by omega)
 refine r_op (o_index rfl (by kernel_rfl) rfl rfl b9 hz8) ?_
 refine r_op (o_load1 rfl (by kernel_rfl) rfl rfl) ?_
 refine r_op oA ?_
 refine r_end ?_
 refine t_ret Tryz.func120 (.tmp rfl .nil) rfl fun E S w u hI hd => ?_
 refine post_mkG (⟨z7, (i22), (h23)⟩) ?_ hI hd ?_ ⟨rfl, trivial⟩ rfl rfl <;> clear hI hd
 · (try dsimp only) <;> (exact ⟨List.mem_of_getElem? (by assumption), by omega⟩)
 · rfl
set_option maxHeartbeats 1000000 in
set_option maxRecDepth 10000 in
theorem c_spec_l4Any (code : List Int) (i h : Int) (hc : code.length ≤ 1048576) (hi0 : 0 ≤ i) (hi1 : i ≤ code.length) : MuG Tryz.prog 161 [.c (.ptr 0 0)] [.t none (.sl 1 encU (code)), .t none (.v (.int .i64 (i))), .t none (.v (.int .i64 (h)))] (fun (⟨r, ts, i2, h2⟩ : Int × (List Int) × Int × Int) => factL (r, ts) ∧ 0 ≤ i2 ∧ i2 ≤ code.length) (fun (⟨r, ts, i2, h2⟩ : Int × (List Int) × Int × Int) => [.t none (.sl 1 encU (code)), .t none (.v (.int .i64 (i2))), .t none (.v (.int .i64 (h2)))]) (fun (⟨r, ts, i2, h2⟩ : Int × (List Int) × Int × Int) => [(7, some (.row none 3 true 1 encI (ts)))]) 8 (fun (⟨r, ts, i2, h2⟩ : Int × (List Int) × Int × Int) => .agg [.t none (.v (.int .i64 (r))), .own 7]) := by
 refine mu_enterG Tryz.func161 rfl (Nat.le_of_ble_eq_true rfl) fun v0 w S M hM => ?_
 refine tsr ?_
 refine r_op (o_alloc 1 (zs := [.int .i64 (0), .slice none 0 0]) rfl rfl (by kernel_rfl) rfl) ?_
 refine etr ?_
 refine r_op oM ?_
 refine r_op oM ?_
 refine r_opX (o_callGM 0 2 3 (pv := some (v0)) (Go.Proofs.enters_of Tryz.func81 (by kernel_rfl) rfl) (c_spec_l1Below (code) (i) (h) (5) (by omega) (by omega) (by omega) (by omega) (by omega)) rfl rfl (.cur rfl (.cons rfl .nil)) rfl (fun ⟨_, _, _⟩ => rfl) (fun _ => rfl) (fun ⟨_, _, _⟩ => rfl) rfl rfl) ?_
 rintro ⟨⟨x1, i22, h23⟩, hq4⟩
 try dsimp only at hq4
 try dsimp only
 obtain ⟨q5, q6⟩ := hq4
 refine r_opX (o_callGM 0 3 8 (pv := some (v0)) (Go.Proofs.enters_of Tryz.func134 (by kernel_rfl) rfl) (c_spec_l4Fact ((code)) ((i22)) ((h23)) ((x1)) (4) (by omega) (by omega) (by omega) (by omega) (by omega)) rfl rfl (.cur rfl (.cons rfl (.cons rfl .nil))) rfl (fun ⟨_, _, _⟩ => rfl) (fun _ => rfl) (fun ⟨_, _, _⟩ => rfl) rfl rfl) ?_
 rintro ⟨⟨ts7, i28, h29⟩, hq10⟩
 try dsimp only at hq10
 try dsimp only
 obtain ⟨q11, q12, q13⟩ := hq10
 have t1 : 1 ≤ ts7.length ∧ ts7.length ≤ 2 := (by assumption); have t2 : ∀ x ∈ ts7, -256 ≤ x ∧ x ≤ 2 := (by assumption); have t3 : ∀ x ∈ ts7, -256 ≤ x ∧ x ≤ 256 := fun x hx => by have := t2 x hx; omega
 refine r_op (o_alloc 8 (zs := [.int .i64 (0), .slice none 0 0]) rfl rfl (by kernel_rfl) rfl) ?_
 refine r_op (oS 2) ?_
 refine r_end ?_
 refine t_seq ?_
 refine tsr ?_
 refine r_op oM ?_
 refine r_opX (o_callGM 0 9 10 (pv := some (v0)) (Go.Proofs.enters_of Tryz.func81 (by kernel_rfl) rfl) (c_spec_l1Below (((code))) ((i28)) ((h29)) (10) (by omega) (by omega) (by omega) (by omega) (by omega)) rfl rfl (.cur rfl (.cons rfl .nil)) rfl (fun ⟨_, _, _⟩ => rfl) (fun _ => rfl) (fun ⟨_, _, _⟩ => rfl) rfl rfl) ?_
 rintro ⟨⟨x14, i215, h216⟩, hq17⟩
 try dsimp only at hq17
 try dsimp only
 obtain ⟨q18, q19⟩ := hq17
 refine r_end ?_
 refine t_block ?_
 refine tsr ?_
 refine r_op oB ?_
 refine r_op oA ?_
 refine r_end ?_
 refine t_cond rfl (fun h20 => ?_) (fun h20 => ?_)
 ·
  have h20' := of_decide_eq_true h20
  refine t_region ?_
  refine r_op oM ?_
  refine r_opX (o_callGM 0 10 11 (pv := some (v0)) (Go.Proofs.enters_of Tryz.func81 (by kernel_rfl) rfl) (c_spec_l1Below ((((code)))) ((i215)) ((h216)) (7) (by omega) (by omega) (by omega) (by omega) (by omega)) rfl rfl (.cur rfl (.cons rfl .nil)) rfl (fun ⟨_, _, _⟩ => rfl) (fun _ => rfl) (fun ⟨_, _, _⟩ => rfl) rfl rfl) ?_
  rintro ⟨⟨x21, i222, h223⟩, hq24⟩
  try dsimp only at hq24
  try dsimp only
  obtain ⟨q25, q26⟩ := hq24
  refine r_op oB ?_
  refine r_op (oF 0) ?_
  refine r_op (oS 1) ?_
  refine r_end ?_
  refine t_endblock ?_
  refine tsr ?_
  refine r_op (oC 2) ?_
  refine r_op (oS 2) ?_
  refine r_end ?_
  refine t_ret Tryz.func161 (.cells (n := 2) (by kernel_rfl) (by kernel_rfl) rfl rfl rfl .nil) rfl fun E S w u hI hd => ?_
  refine post_mkG (⟨IntKind.i64.wrap ((x21) - 1), (ts7), (i222), (h223)⟩) ?_ hI hd ?_ ⟨rfl, ⟨rfl, trivial⟩⟩ rfl rfl <;> clear hI hd
  · (try dsimp only) <;> ((exact ⟨⟨by (try dsimp only); (try simp only [IntKind.wrap_i64] at *); omega, by (try dsimp only); omega, t3⟩, by omega⟩))
  · rfl
 ·
  have h20' := of_decide_eq_false h20
  refine tsr ?_
  refine r_op oB ?_
  refine r_op oA ?_
  refine r_end ?_
  refine t_cond rfl (fun h27 => ?_) (fun h27 => ?_)
  ·
   have h27' := of_decide_eq_true h27
   refine t_region ?_
   refine r_op (oF 1) ?_
   refine r_op oL ?_
   refine r_op (o_litS 10 (e := 3) (sz := 1) (zs := [.int .i64 (0)]) rfl rfl (by kernel_rfl) rfl rfl rfl rfl rfl) ?_
   refine r_op (o_append 7 (e := 3) (sz := 1) (by' := 8) (1) rfl (by kernel_rfl) rfl rfl rfl rfl rfl rfl (.cons .sc .nil) rfl (by omega) (by omega)) ?_
   refine r_op (oF 1) ?_
   refine r_op (oS 1) ?_
   refine r_end ?_
   refine t_endblock ?_
   refine tsr ?_
   refine r_op (oC 2) ?_
   refine r_op (oS 2) ?_
   refine r_end ?_
   refine t_ret Tryz.func161 (.cells (n := 2) (by kernel_rfl) (by kernel_rfl) rfl rfl rfl .nil) rfl fun E S w u hI hd => ?_
   refine post_mkG (⟨((x1)), (ts7) ++ [1], (i215), (h216)⟩) ?_ hI hd ?_ ⟨rfl, ⟨rfl, trivial⟩⟩ rfl rfl <;> clear hI hd
   · (try dsimp only) <;> ((exact ⟨⟨by (try dsimp only); omega, by (simp only [List.length_append, List.length_singleton]; omega), mem_snoc t3 (by omega)⟩, by omega⟩))
   · rfl
  ·
   have h27' := of_decide_eq_false h27
   refine tsr ?_
   refine r_op oB ?_
   refine r_op oA ?_
   refine r_end ?_
   refine t_cond rfl (fun h28 => ?_) (fun h28 => ?_)
   ·
    have h28' := of_decide_eq_true h28
    refine t_draw (fun i => !(Nat.beq i 4 || Nat.beq i 6)) (by kernel_rfl) ?_
    refine d_takeP 0 rfl rfl (by kernel_rfl) (by kernel_rfl) (by kernel_rfl) (pw_fieldb (off := 1) (by kernel_rfl) rfl) ?_
    refine dT 2 rfl pM ?_
    refine d_two 1 3 rfl rfl (by kernel_rfl) rfl rfl oL (o_litS 10 (e := 3) (sz := 1) (zs := [.int .i64 (0)]) rfl rfl (by kernel_rfl) rfl rfl rfl rfl rfl) ?_ ?_
    ·
     refine dO 3 rfl (o_litS 10 (e := 3) (sz := 1) (zs := [.int .i64 (0)]) rfl rfl (by kernel_rfl) rfl rfl rfl rfl rfl) ?_
     refine d_freezeB 10 (enc := encI) ([10, -41, 9]) rfl (.cons (.cons (.cons .nil))) (frz_cur (i := 10) hM rfl rfl rfl) ?_
     refine dOX 4 rfl (o_callGM 0 11 12 (pv := some (v0)) (Go.Proofs.enters_of Tryz.func120 (by kernel_rfl) rfl) (c_spec_l1PickInt ((((code)))) ((i215)) ((h216)) ([10, -41, 9]) (by omega) (by omega) (by omega) (by (simp only [List.length_cons, List.length_nil]; omega)) (by (simp only [List.length_cons, List.length_nil]; omega))) rfl rfl (.cur rfl (.cons rfl .nil)) rfl (fun ⟨_, _, _⟩ => rfl) (fun _ => rfl) (fun ⟨_, _, _⟩ => rfl) rfl rfl) ?_
     rintro ⟨⟨x29, i230, h231⟩, hq32⟩
     try dsimp only at hq32
     try dsimp only
     obtain ⟨q33, q34⟩ := hq32
     obtain ⟨z35, hz36, b37⟩ := at_get (xs := (ts7)) (n := 0) (by omega) (by omega)
     refine dT 5 rfl (p_indexo (by kernel_rfl) rfl rfl rfl b37 (at_lt b37 hz36)) ?_
     refine dO 6 rfl (o_storeo ((x29)) (n := 1) (by kernel_rfl) rfl rfl hz36 rfl rfl rfl rfl (.cons .sc .nil) rfl (fun j h1 h2 => by (simp at h1 h2; omega))) ?_
     refine d_end (by kernel_rfl) ?_
     refine t_endblock ?_
     refine tsr ?_
     refine r_op (oC 2) ?_
     refine r_op (oS 2) ?_
     refine r_end ?_
     refine t_ret Tryz.func161 (.cells (n := 2) (by kernel_rfl) (by kernel_rfl) rfl rfl rfl .nil) rfl fun E S w u hI hd => ?_
     refine post_mkG (⟨((x1)), ((ts7)).set ((0 : Int)).toNat ((x29)), (i230), (h231)⟩) ?_ hI hd ?_ ⟨rfl, ⟨rfl, trivial⟩⟩ rfl rfl <;> clear hI hd
     · (try dsimp only) <;> ((exact ⟨⟨by (try dsimp only); omega, by (simp only [List.length_set]; omega), mem_set t3 (by have e9 := pick10 (by assumption); omega)⟩, by omega⟩))
     · rfl
    ·
     refine d_freezeB 10 (enc := encI) ([10, -41, 9]) rfl (.cons (.cons (.cons .nil))) (frz_cur (i := 10) hM rfl rfl rfl) ?_
     refine d_twoX 1 4 rfl rfl (by kernel_rfl) rfl rfl (osX oL) (o_callGM 0 11 12 (pv := some (v0)) (Go.Proofs.enters_of Tryz.func120 (by kernel_rfl) rfl) (c_spec_l1PickInt ((((code)))) ((i215)) ((h216)) ([10, -41, 9]) (by omega) (by omega) (by omega) (by (simp only [List.length_cons, List.length_nil]; omega)) (by (simp only [List.length_cons, List.length_nil]; omega))) rfl rfl (.cur rfl (.cons rfl .nil)) rfl (fun ⟨_, _, _⟩ => rfl) (fun _ => rfl) (fun ⟨_, _, _⟩ => rfl) rfl rfl) ?_ ?_
     ·
      rintro ⟨⟩
      refine dOX 4 rfl (o_callGM 0 11 12 (pv := some (v0)) (Go.Proofs.enters_of Tryz.func120 (by kernel_rfl) rfl) (c_spec_l1PickInt ((((code)))) ((i215)) ((h216)) ([10, -41, 9]) (by omega) (by omega) (by omega) (by (simp only [List.length_cons, List.length_nil]; omega)) (by (simp only [List.length_cons, List.length_nil]; omega))) rfl rfl (.cur rfl (.cons rfl .nil)) rfl (fun ⟨_, _, _⟩ => rfl) (fun _ => rfl) (fun ⟨_, _, _⟩ => rfl) rfl rfl) ?_
      rintro ⟨⟨x44, i245, h246⟩, hq47⟩
      try dsimp only at hq47
      try dsimp only
      obtain ⟨q48, q49⟩ := hq47
      obtain ⟨z50, hz51, b52⟩ := at_get (xs := (ts7)) (n := 0) (by omega) (by omega)
      refine dT 5 rfl (p_indexo (by kernel_rfl) rfl rfl rfl b52 (at_lt b52 hz51)) ?_
      refine dO 6 rfl (o_storeo ((x44)) (n := 1) (by kernel_rfl) rfl rfl hz51 rfl rfl rfl rfl (.cons .sc .nil) rfl (fun j h1 h2 => by (simp at h1 h2; omega))) ?_
      refine d_end (by kernel_rfl) ?_
      refine t_endblock ?_
      refine tsr ?_
      refine r_op (oC 2) ?_
      refine r_op (oS 2) ?_
      refine r_end ?_
      refine t_ret Tryz.func161 (.cells (n := 2) (by kernel_rfl) (by kernel_rfl) rfl rfl rfl .nil) rfl fun E S w u hI hd => ?_
      refine post_mkG (⟨((x1)), ((ts7)).set ((0 : Int)).toNat ((x44)), (i245), (h246)⟩) ?_ hI hd ?_ ⟨rfl, ⟨rfl, trivial⟩⟩ rfl rfl <;> clear hI hd
      · (try dsimp only) <;> ((exact ⟨⟨by (try dsimp only); omega, by (simp only [List.length_set]; omega), mem_set t3 (by have e9 := pick10 (by assumption); omega)⟩, by omega⟩))
      · rfl
     ·
      rintro ⟨⟨x38, i239, h240⟩, hq41⟩
      try dsimp only at hq41
      try dsimp only
      obtain ⟨q42, q43⟩ := hq41
      refine dT 1 rfl pL ?_
      obtain ⟨z53, hz54, b55⟩ := at_get (xs := (ts7)) (n := 0) (by omega) (by omega)
      refine dT 5 rfl (p_indexo (by kernel_rfl) rfl rfl rfl b55 (at_lt b55 hz54)) ?_
      refine dO 6 rfl (o_storeo ((x38)) (n := 1) (by kernel_rfl) rfl rfl hz54 rfl rfl rfl rfl (.cons .sc .nil) rfl (fun j h1 h2 => by (simp at h1 h2; omega))) ?_
      refine d_end (by kernel_rfl) ?_
      refine t_endblock ?_
      refine tsr ?_
      refine r_op (oC 2) ?_
      refine r_op (oS 2) ?_
      refine r_end ?_
      refine t_ret Tryz.func161 (.cells (n := 2) (by kernel_rfl) (by kernel_rfl) rfl rfl rfl .nil) rfl fun E S w u hI hd => ?_
      refine post_mkG (⟨((x1)), ((ts7)).set ((0 : Int)).toNat ((x38)), (i239), (h240)⟩) ?_ hI hd ?_ ⟨rfl, ⟨rfl, trivial⟩⟩ rfl rfl <;> clear hI hd
      · (try dsimp only) <;> ((exact ⟨⟨by (try dsimp only); omega, by (simp only [List.length_set]; omega), mem_set t3 (by have e9 := pick10 (by assumption); omega)⟩, by omega⟩))
      · rfl
   ·
    have h28' := of_decide_eq_false h28
    refine t_skip ?_
    refine t_endblock ?_
    refine tsr ?_
    refine r_op (oC 2) ?_
    refine r_op (oS 2) ?_
    refine r_end ?_
    refine t_ret Tryz.func161 (.cells (n := 2) (by kernel_rfl) (by kernel_rfl) rfl rfl rfl .nil) rfl fun E S w u hI hd => ?_
    refine post_mkG (⟨((x1)), (ts7), (i215), (h216)⟩) ?_ hI hd ?_ ⟨rfl, ⟨rfl, trivial⟩⟩ rfl rfl <;> clear hI hd
    · (try dsimp only) <;> ((exact ⟨⟨by (try dsimp only); (try simp only [IntKind.wrap_i64] at *); omega, by (try dsimp only); omega, t3⟩, by omega⟩))
    · rfl
set_option maxHeartbeats 1000000 in
set_option maxRecDepth 10000 in
theorem c_spec_l1Pick (code : List Int) (i h : Int) (l : List (List UInt8)) (hc : code.length ≤ 1048576) (hi0 : 0 ≤ i) (hi1 : i ≤ code.length) (hl : 1 ≤ l.length) (hl2 : l.length ≤ 256) : MuG Tryz.prog 182 [.c (.ptr 0 0), .c (.t none (.sl 1 encS (l)))] [.t none (.sl 1 encU (code)), .t none (.v (.int .i64 (i))), .t none (.v (.int .i64 (h)))] (fun (⟨x, i2, h2⟩ : (List UInt8) × Int × Int) => x ∈ l ∧ 0 ≤ i2 ∧ i2 ≤ code.length) (fun (⟨x, i2, h2⟩ : (List UInt8) × Int × Int) => [.t none (.sl 1 encU (code)), .t none (.v (.int .i64 (i2))), .t none (.v (.int .i64 (h2)))]) (fun (⟨x, i2, h2⟩ : (List UInt8) × Int × Int) => []) 1 (fun (⟨x, i2, h2⟩ : (List UInt8) × Int × Int) => .c (.t none (.v (.string (mkS (x)))))) := by
 refine mu_enterG Tryz.func182 rfl (Nat.le_of_ble_eq_true rfl) fun v0 w S M hM => ?_
 refine tsr ?_
 refine r_op oA ?_
 refine etr ?_
 refine r_op oM ?_
 refine r_op oM ?_
 refine r_op oM ?_
 refine r_op (o_len rfl rfl rfl) ?_
 refine r_opX (o_callGM 0 1 2 (pv := some (v0)) (Go.Proofs.enters_of Tryz.func81 (by kernel_rfl) rfl) (c_spec_l1Below (code) (i) (h) (((l).length : Int)) (by omega) (by omega) (by omega) (by omega) (by omega)) rfl rfl (.cur rfl (.cons rfl .nil)) rfl (fun ⟨_, _, _⟩ => rfl) (fun _ => rfl) (fun ⟨_, _, _⟩ => rfl) rfl rfl) ?_
 rintro ⟨⟨x1, i22, h23⟩, hq4⟩
 try dsimp only at hq4
 try dsimp only
 obtain ⟨q5, q6⟩ := hq4
 obtain ⟨z7, hz8, b9⟩ := at_get (xs := l) (n := (x1)) (by omega) (by omega)
 refine r_op (o_index rfl (by kernel_rfl) rfl rfl b9 hz8) ?_
 refine r_op (o_load1 rfl (by kernel_rfl) rfl rfl) ?_
 refine r_op oA ?_
 refine r_end ?_
 refine t_ret Tryz.func182 (.tmp rfl .nil) rfl fun E S w u hI hd => ?_
 refine post_mkG (⟨z7, (i22), (h23)⟩) ?_ hI hd ?_ ⟨rfl, trivial⟩ rfl rfl <;> clear hI hd
 · (try dsimp only) <;> (exact ⟨List.mem_of_getElem? (by assumption), by omega⟩)
 · rfl
set_option maxHeartbeats 1000000 in
set_option maxRecDepth 10000 in
theorem c_spec_l3One (code : List Int) (i h : Int) (hc : code.length ≤ 1048576) (hi0 : 0 ≤ i) (hi1 : i ≤ code.length) : MuG Tryz.prog 162 [.c (.ptr 0 0)] [.t none (.sl 1 encU (code)), .t none (.v (.int .i64 (i))), .t none (.v (.int .i64 (h)))] (fun (⟨n, ar, b, i2, h2⟩ : (List UInt8) × Int × Bool × Int × Int) => (n.length ≤ 2 ∧ -1 ≤ ar ∧ ar ≤ 4) ∧ 0 ≤ i2 ∧ i2 ≤ code.length) (fun (⟨n, ar, b, i2, h2⟩ : (List UInt8) × Int × Bool × Int × Int) => [.t none (.sl 1 encU (code)), .t none (.v (.int .i64 (i2))), .t none (.v (.int .i64 (h2)))]) (fun (⟨n, ar, b, i2, h2⟩ : (List UInt8) × Int × Bool × Int × Int) => []) 1 (fun (⟨n, ar, b, i2, h2⟩ : (List UInt8) × Int × Bool × Int × Int) => .agg [.t none (.v (.string (mkS (n)))), .t none (.v (.int .i64 (ar))), .t none (.v (.bool (b)))]) := by
 refine mu_enterG Tryz.func162 rfl (Nat.le_of_ble_eq_true rfl) fun v0 w S M hM => ?_
 refine tsr ?_
 refine r_op (o_alloc 1 (zs := [.string (mkS ([])), .int .i64 (0), .bool (false)]) rfl rfl (by kernel_rfl) rfl) ?_
 refine etr ?_
 refine r_op oM ?_
 refine r_op (o_litS 2 (e := 9) (sz := 1) (zs := [.string (mkS ([]))]) rfl rfl (by kernel_rfl) rfl rfl rfl rfl rfl) ?_
 refine r_freezeB 2 (enc := encS) ([([97] : List UInt8), ([122] : List UInt8), ([] : List UInt8), ([65] : List UInt8), ([97, 98] : List UInt8), ([112] : List UInt8)]) rfl (.cons (.cons (.cons (.cons (.cons (.cons .nil)))))) (frz_cur (i := 2) hM rfl rfl rfl) ?_
 refine r_opX (o_callGM 0 3 4 (pv := some (v0)) (Go.Proofs.enters_of Tryz.func182 (by kernel_rfl) rfl) (c_spec_l1Pick (code) (i) (h) ([([97] : List UInt8), ([122] : List UInt8), ([] : List UInt8), ([65] : List UInt8), ([97, 98] : List UInt8), ([112] : List UInt8)]) (by omega) (by omega) (by omega) (by (simp only [List.length_cons, List.length_nil]; omega)) (by (simp only [List.length_cons, List.length_nil]; omega))) rfl rfl (.cur rfl (.cons rfl .nil)) rfl (fun ⟨_, _, _⟩ => rfl) (fun _ => rfl) (fun ⟨_, _, _⟩ => rfl) rfl rfl) ?_
 rintro ⟨⟨x1, i22, h23⟩, hq4⟩
 try dsimp only at hq4
 try dsimp only
 obtain ⟨q5, q6⟩ := hq4
 refine r_op oM ?_
 refine r_opX (o_callGM 0 4 5 (pv := some (v0)) (Go.Proofs.enters_of Tryz.func81 (by kernel_rfl) rfl) (c_spec_l1Below ((code)) ((i22)) ((h23)) (6) (by omega) (by omega) (by omega) (by omega) (by omega)) rfl rfl (.cur rfl (.cons rfl .nil)) rfl (fun ⟨_, _, _⟩ => rfl) (fun _ => rfl) (fun ⟨_, _, _⟩ => rfl) rfl rfl) ?_
 rintro ⟨⟨x7, i28, h29⟩, hq10⟩
 try dsimp only at hq10
 try dsimp only
 obtain ⟨q11, q12⟩ := hq10
 refine r_op oB ?_
 refine r_op oM ?_
 refine r_opX (o_callGM 0 5 6 (pv := some (v0)) (Go.Proofs.enters_of Tryz.func61 (by kernel_rfl) rfl) (c_spec_l1Once (((code))) ((i28)) ((h29)) (2) (by omega) (by omega) (by omega) (by omega) (by omega)) rfl rfl (.cur rfl (.cons rfl .nil)) rfl (fun ⟨_, _, _⟩ => rfl) (fun _ => rfl) (fun ⟨_, _, _⟩ => rfl) rfl rfl) ?_
 rintro ⟨⟨b13, i214, h215⟩, hq16⟩
 try dsimp only at hq16
 try dsimp only
 refine r_op (o_build rfl (pl := [(0, 1), (1, 1), (2, 1)]) (zs := [.string (mkS ([])), .int .i64 (0), .bool (false)]) (by kernel_rfl) (by kernel_rfl) rfl rfl rfl) ?_
 refine r_op (oS 3) ?_
 refine r_end ?_
 refine t_ret Tryz.func162 (.cells (n := 3) (by kernel_rfl) (by kernel_rfl) rfl rfl rfl .nil) rfl fun E S w u hI hd => ?_
 refine post_mkG (⟨(x1), IntKind.i64.wrap ((x7) - 1), (b13), (i214), (h215)⟩) ?_ hI hd ?_ ⟨rfl, trivial⟩ rfl rfl <;> clear hI hd
 · (try dsimp only) <;> ((have e8 := (by decide : ∀ x ∈ [([97] : List UInt8), ([122] : List UInt8), ([] : List UInt8), ([65] : List UInt8), ([97, 98] : List UInt8), ([112] : List UInt8)], x.length ≤ 2) _ (by assumption)); (simp only [IntKind.wrap_i64] at *; omega))
 · rfl
end Go.Eng
