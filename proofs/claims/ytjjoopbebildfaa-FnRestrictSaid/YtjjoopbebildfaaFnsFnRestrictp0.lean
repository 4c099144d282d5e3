/- What the functions that FnRestrict reaches answer. -/
import Derived.Test.YtjjoopbebildfaaEngZQ
import Derived.Test.YtjjoopbebildfaaChecked
set_option linter.unusedVariables false
set_option linter.unusedSimpArgs false
namespace Go.Eng
open Go Go.RowKit Go.Proofs
set_option maxHeartbeats 1000000 in
set_option maxRecDepth 10000 in
theorem c_laws_big (code : List Int) : Pu Try.prog 4 [.c (.t none (.sl 1 encU (code)))] [] 0 (.c (.t none (.v (.bool (decide ((1048576 : Int) < (code.length : Int))))))) := by
 refine pu_enter Try.func4 rfl (Nat.le_of_ble_eq_true rfl) fun w S => ?_
 refine tsr ?_
 refine r_op oA ?_
 refine etr ?_
 refine r_op oM ?_
 refine r_op (o_len rfl rfl rfl) ?_
 refine r_op oB ?_
 refine r_op oA ?_
 refine r_end ?_
 refine t_ret Try.func4 (.tmp rfl .nil) rfl fun E S w u hI hd => ?_
 refine post_mk hI hd ?_ trivial rfl rfl rfl <;> clear hI hd
 all_goals (rfl)
set_option maxHeartbeats 1000000 in
set_option maxRecDepth 10000 in
theorem c_spec_l1New (code : List Int) (hc : code.length ≤ 1048576) : PuG Try.prog 17 [.c (.t none (.sl 1 encU (code)))] (fun (h : Int) => True) (fun (h : Int) => [(0, some (.box [.t none (.sl 1 encU (code)), .t none (.v (.int .i64 (0))), .t none (.v (.int .i64 (h)))]))]) 1 (fun (h : Int) => .c (.ptr 0 0)) := by
 refine pu_enterG Try.func17 rfl (Nat.le_of_ble_eq_true rfl) fun w S => ?_
 refine tsr ?_
 refine r_op oA ?_
 refine etr ?_
 refine r_op oM ?_
 refine r_op (o_len rfl rfl rfl) ?_
 refine r_op oB ?_
 refine r_op oA ?_
 refine r_end ?_
 refine t_seq ?_
 refine tsr ?_
 refine r_op oA ?_
 refine r_end ?_
 refine t_block ?_
 refine t_loopL (fun (m, h) => ⟨[(0, some (.c (.t none (.sl 1 encU (code))))), (2, some (.c (.t none (.v (.pointer none))))), (3, some (.c (.t none (.v (.int .i64 (h)))))), (4, some (.c (.t none (.v (.int .i64 ((m : Int)))))))], [], 0⟩ : Nat × Int → St) (fun (m, h) => m ≤ code.length) (fun (m, h) => code.length - m) (0, IntKind.i64.wrap (10101 + (code.length : Int))) ⟨⟨rfl, ⟨rfl, ⟨rfl, ⟨rfl, trivial⟩⟩⟩⟩, trivial, rfl⟩ (by exact Nat.zero_le _) ?_
 rintro ⟨m, h⟩ hI ih0
 try dsimp only at hI ih0
 have i1 := hI; (try dsimp only at i1)
 refine t_seq ?_
 refine tsr ?_
 refine r_op oM ?_
 refine r_op oM ?_
 refine r_op (o_len rfl rfl rfl) ?_
 refine r_op oB ?_
 refine r_op oM ?_
 refine r_guard rfl rfl rfl (fun g1 => ?_) (fun g1 => ?_)
 ·
  have g1' := of_decide_eq_true g1
  refine r_op oM ?_
  refine r_guard rfl rfl rfl (fun _ => ?_) (nc g1)
  refine r_op oB ?_
  refine r_op (o_pickT rfl rfl g1 rfl) ?_
  refine r_end ?_
  refine t_cond rfl (fun h2 => ?_) (fun h2 => ?_)
  ·
   have h2' := of_decide_eq_true h2
   refine t_skip ?_
   refine t_seq ?_
   refine t_block ?_
   refine t_region ?_
   refine r_op oM ?_
   refine r_op oB ?_
   refine r_op oM ?_
   refine r_op oM ?_
   obtain ⟨z3, hz4, b5⟩ := at_get (xs := code) (n := (m : Int)) (by omega) (by omega)
   refine r_op (o_index rfl (by kernel_rfl) rfl rfl b5 hz4) ?_
   refine r_op (o_load1 rfl (by kernel_rfl) rfl rfl) ?_
   refine r_op (o_conv rfl Try.underlying5 Try.underlying3 rfl) ?_
   refine r_op oB ?_
   refine r_op oB ?_
   refine r_op (o_binD rfl rfl rfl (and_d)) ?_
   refine r_op oA ?_
   refine r_end ?_
   refine t_endblock ?_
   refine t_region ?_
   refine r_op oM ?_
   refine r_op oB ?_
   refine r_op oA ?_
   refine r_end ?_
   refine t_le ?_ (ih0 (m + 1, andI (IntKind.i64.wrap ((IntKind.i64.wrap ((IntKind.i64.wrap (h * 131)) + (IntKind.i64.wrap z3))) + 7)) 1073741823) (by (try dsimp only); omega) (by (try dsimp only); omega))
   exact ⟨⟨rfl, ⟨rfl, ⟨rfl, ⟨(eqI (wr64 (by omega) (by omega))), trivial⟩⟩⟩⟩, trivial, rfl⟩
  ·
   have h2' := of_decide_eq_false h2
   refine t_exit rfl ?_
   refine tsr ?_
   refine r_op oM ?_
   refine r_op oM ?_
   refine r_op (o_build rfl (pl := [(0, 1), (1, 1), (2, 1)]) (zs := [.slice none 0 0, .int .i64 (0), .int .i64 (0)]) (by kernel_rfl) (by kernel_rfl) rfl rfl rfl) ?_
   refine r_op (o_box 0 rfl rfl rfl rfl) ?_
   refine r_op oA ?_
   refine r_end ?_
   refine t_ret Try.func17 (.tmp rfl .nil) rfl fun E S w u hI hd => ?_
   refine post_mkG (h) ?_ hI hd ?_ ⟨rfl, trivial⟩ rfl rfl <;> clear hI hd <;> (try clear ih0)
   · (try dsimp only) <;> (trivial)
   · rfl
 ·
  have g1' := of_decide_eq_false g1
  refine r_guard rfl rfl rfl (ncf g1) (fun _ => ?_)
  refine r_op (o_pickF rfl rfl g1 rfl) ?_
  refine r_end ?_
  refine t_cond rfl (ncf rfl) (fun _ => ?_)
  refine t_exit rfl ?_
  refine tsr ?_
  refine r_op oM ?_
  refine r_op oM ?_
  refine r_op (o_build rfl (pl := [(0, 1), (1, 1), (2, 1)]) (zs := [.slice none 0 0, .int .i64 (0), .int .i64 (0)]) (by kernel_rfl) (by kernel_rfl) rfl rfl rfl) ?_
  refine r_op (o_box 0 rfl rfl rfl rfl) ?_
  refine r_op oA ?_
  refine r_end ?_
  refine t_ret Try.func17 (.tmp rfl .nil) rfl fun E S w u hI hd => ?_
  refine post_mkG (h) ?_ hI hd ?_ ⟨rfl, trivial⟩ rfl rfl <;> clear hI hd <;> (try clear ih0)
  · (try dsimp only) <;> (trivial)
  · rfl
set_option maxHeartbeats 1000000 in
set_option maxRecDepth 10000 in
theorem c_spec_l3Sigs  : Pu Try.prog 58 [] [(0, some (.row none 45 true 3 (enS3 encS encI encB) (sigs5)))] 1 (.c (.own 0)) := by
 refine pu_enter Try.func58 rfl (Nat.le_of_ble_eq_true rfl) fun w S => ?_
 refine tsr ?_
 refine r_op oA ?_
 refine etr ?_
 refine r_op (o_build rfl (pl := [(0, 1), (1, 1), (2, 1)]) (zs := [.string (mkS ([])), .int .i64 (0), .bool (false)]) (by kernel_rfl) (by kernel_rfl) rfl rfl rfl) ?_
 refine r_op (o_build rfl (pl := [(0, 1), (1, 1), (2, 1)]) (zs := [.string (mkS ([])), .int .i64 (0), .bool (false)]) (by kernel_rfl) (by kernel_rfl) rfl rfl rfl) ?_
 refine r_op (o_build rfl (pl := [(0, 1), (1, 1), (2, 1)]) (zs := [.string (mkS ([])), .int .i64 (0), .bool (false)]) (by kernel_rfl) (by kernel_rfl) rfl rfl rfl) ?_
 refine r_op (o_build rfl (pl := [(0, 1), (1, 1), (2, 1)]) (zs := [.string (mkS ([])), .int .i64 (0), .bool (false)]) (by kernel_rfl) (by kernel_rfl) rfl rfl rfl) ?_
 refine r_op (o_build rfl (pl := [(0, 1), (1, 1), (2, 1)]) (zs := [.string (mkS ([])), .int .i64 (0), .bool (false)]) (by kernel_rfl) (by kernel_rfl) rfl rfl rfl) ?_
 refine r_op (o_litN 0 (e := 45) (sz := 3) (zs := [.string (mkS ([])), .int .i64 (0), .bool (false)]) (enc := (enS3 encS encI encB)) [(([97] : List UInt8), 2, true), (([98] : List UInt8), 1, true), (([112] : List UInt8), 2, false), (([113] : List UInt8), 2, false), (([114] : List UInt8), 1, false)] rfl rfl (by kernel_rfl) rfl rfl rfl rfl rfl rfl rfl rfl (.cons .sc (.cons .sc (.cons .sc (.cons .sc (.cons .sc (.cons .sc (.cons .sc (.cons .sc (.cons .sc (.cons .sc (.cons .sc (.cons .sc (.cons .sc (.cons .sc (.cons .sc .nil))))))))))))))) rfl) ?_
 refine r_op oA ?_
 refine r_end ?_
 refine t_ret Try.func58 (.tmp rfl .nil) rfl fun E S w u hI hd => ?_
 refine post_mk hI hd ?_ ⟨eqR ?_, trivial⟩ rfl rfl rfl <;> clear hI hd
 all_goals (rfl)
set_option maxHeartbeats 1000000 in
set_option maxRecDepth 10000 in
theorem c_spec_l1Byte (code : List Int) (i h : Int) (hc : code.length ≤ 1048576) (hi0 : 0 ≤ i) (hi1 : i ≤ code.length) : MuG Try.prog 60 [.c (.ptr 0 0)] [.t none (.sl 1 encU (code)), .t none (.v (.int .i64 (i))), .t none (.v (.int .i64 (h)))] (fun (⟨x, i2, h2⟩ : Int × Int × Int) => (0 ≤ x ∧ x ≤ 255) ∧ 0 ≤ i2 ∧ i2 ≤ code.length) (fun (⟨x, i2, h2⟩ : Int × Int × Int) => [.t none (.sl 1 encU (code)), .t none (.v (.int .i64 (i2))), .t none (.v (.int .i64 (h2)))]) (fun (⟨x, i2, h2⟩ : Int × Int × Int) => []) 1 (fun (⟨x, i2, h2⟩ : Int × Int × Int) => .c (.t none (.v (.int .i64 (x))))) := by
 refine mu_enterG Try.func60 rfl (Nat.le_of_ble_eq_true rfl) fun v0 w S M hM => ?_
 refine tsr ?_
 refine r_op oA ?_
 refine etr ?_
 refine r_op oM ?_
 refine r_op oM ?_
 refine r_op (o_nilp rfl rfl) ?_
 refine r_op (oF 2) ?_
 refine r_op (o_unp rfl (i := 0) rfl pL) ?_
 refine r_op oB ?_
 refine r_op oB ?_
 refine r_op (o_nilp rfl rfl) ?_
 refine r_op (oF 2) ?_
 refine r_op (o_storep (n := 1) (by kernel_rfl) rfl rfl rfl rfl rfl rfl) ?_
 refine r_end ?_
 refine t_seq ?_
 refine t_draw (fun _ => true) (by kernel_rfl) ?_
 refine dT 0 rfl pM ?_
 refine dT 1 rfl (p_nilp rfl) ?_
 refine dT 2 rfl (pF 2) ?_
 refine dT 3 rfl (p_unp (i := 0) rfl pL) ?_
 refine dT 4 rfl (p_sh rfl rfl (rfl)) ?_
 refine dT 5 rfl pM ?_
 refine dT 6 rfl (p_nilp rfl) ?_
 refine dT 7 rfl (pF 2) ?_
 refine dT 8 rfl (p_unp (i := 0) rfl pL) ?_
 refine dT 9 rfl (p_sh rfl rfl (rfl)) ?_
 refine dT 10 rfl (p_binD rfl rfl (xor_d)) ?_
 refine dT 11 rfl (p_binD rfl rfl (and_d)) ?_
 refine dT 12 rfl pA ?_
 refine d_end (by kernel_rfl) ?_
 refine t_seq ?_
 refine t_seq ?_
 refine t_draw (fun _ => true) (by kernel_rfl) ?_
 refine dT 0 rfl pM ?_
 refine dT 1 rfl (p_nilp rfl) ?_
 refine dT 2 rfl (pF 1) ?_
 refine dT 3 rfl (p_unp (i := 0) rfl pL) ?_
 refine dT 4 rfl pM ?_
 refine dT 5 rfl (p_nilp rfl) ?_
 refine dT 6 rfl (pF 0) ?_
 refine dT 7 rfl (p_unp (i := 0) rfl pL) ?_
 refine dT 8 rfl (p_len rfl rfl) ?_
 refine dT 9 rfl pB ?_
 refine d_end (by kernel_rfl) ?_
 refine t_cond rfl (fun h1 => ?_) (fun h1 => ?_)
 ·
  have h1' := of_decide_eq_true h1
  refine t_seq ?_
  refine t_draw (fun _ => true) (by kernel_rfl) ?_
  refine dT 0 rfl pM ?_
  refine dT 1 rfl pM ?_
  refine dT 2 rfl (p_nilp rfl) ?_
  refine dT 3 rfl (pF 0) ?_
  refine dT 4 rfl (p_unp (i := 0) rfl pL) ?_
  refine dT 5 rfl pM ?_
  refine dT 6 rfl (p_nilp rfl) ?_
  refine dT 7 rfl (pF 1) ?_
  refine dT 8 rfl (p_unp (i := 0) rfl pL) ?_
  obtain ⟨z2, hz3, b4⟩ := at_get (xs := code) (n := i) (by omega) (by omega)
  refine dT 9 rfl (p_index (by kernel_rfl) rfl rfl b4 hz3) ?_
  refine dT 10 rfl (p_load1 (by kernel_rfl) rfl rfl) ?_
  refine dT 11 rfl (p_conv Try.underlying5 Try.underlying3 rfl) ?_
  refine dT 12 rfl pB ?_
  refine dT 13 rfl (p_binD rfl rfl (and_d)) ?_
  refine dT 14 rfl pA ?_
  refine d_end (by kernel_rfl) ?_
  refine t_region ?_
  refine r_op oM ?_
  refine r_op oM ?_
  refine r_op (o_nilp rfl rfl) ?_
  refine r_op (oF 1) ?_
  refine r_op (o_unp rfl (i := 0) rfl pL) ?_
  refine r_op oB ?_
  refine r_op (o_nilp rfl rfl) ?_
  refine r_op (oF 1) ?_
  refine r_op (o_storep (n := 1) (by kernel_rfl) rfl rfl rfl rfl rfl rfl) ?_
  refine etr ?_
  refine r_op oM ?_
  refine r_op oA ?_
  refine r_end ?_
  refine t_ret Try.func60 (.tmp rfl .nil) rfl fun E S w u hI hd => ?_
  refine post_mkG (⟨andI (IntKind.i64.wrap ((andI (xorI (Int.fdiv (IntKind.i64.wrap ((IntKind.i64.wrap (h * 6364136223846793005)) + 1442695040888963407)) (2 ^ 33)) (Int.fdiv (IntKind.i64.wrap ((IntKind.i64.wrap (h * 6364136223846793005)) + 1442695040888963407)) (2 ^ 45))) 255) + (IntKind.i64.wrap z2))) 255, IntKind.i64.wrap (i + 1), IntKind.i64.wrap ((IntKind.i64.wrap (h * 6364136223846793005)) + 1442695040888963407)⟩) ?_ hI hd ?_ ⟨rfl, trivial⟩ rfl rfl <;> clear hI hd
  · (try dsimp only) <;> (exact ⟨and255 _, by (have := wr64 (x := i + 1) (by omega) (by omega); omega)⟩)
  · rfl
 ·
  have h1' := of_decide_eq_false h1
  refine t_skip ?_
  refine tsr ?_
  refine r_op oM ?_
  refine r_op oA ?_
  refine r_end ?_
  refine t_ret Try.func60 (.tmp rfl .nil) rfl fun E S w u hI hd => ?_
  refine post_mkG (⟨andI (xorI (Int.fdiv (IntKind.i64.wrap ((IntKind.i64.wrap (h * 6364136223846793005)) + 1442695040888963407)) (2 ^ 33)) (Int.fdiv (IntKind.i64.wrap ((IntKind.i64.wrap (h * 6364136223846793005)) + 1442695040888963407)) (2 ^ 45))) 255, i, IntKind.i64.wrap ((IntKind.i64.wrap (h * 6364136223846793005)) + 1442695040888963407)⟩) ?_ hI hd ?_ ⟨rfl, trivial⟩ rfl rfl <;> clear hI hd
  · (try dsimp only) <;> (exact ⟨and255 _, by (omega)⟩)
  · rfl
set_option maxHeartbeats 1000000 in
set_option maxRecDepth 10000 in
theorem c_spec_l1Below (code : List Int) (i h n : Int) (hc : code.length ≤ 1048576) (hi0 : 0 ≤ i) (hi1 : i ≤ code.length) (hn : 1 ≤ n) (hn2 : n ≤ 256) : MuG Try.prog 37 [.c (.ptr 0 0), .c (.t none (.v (.int .i64 (n))))] [.t none (.sl 1 encU (code)), .t none (.v (.int .i64 (i))), .t none (.v (.int .i64 (h)))] (fun (⟨x, i2, h2⟩ : Int × Int × Int) => (0 ≤ x ∧ x ≤ n - 1) ∧ 0 ≤ i2 ∧ i2 ≤ code.length) (fun (⟨x, i2, h2⟩ : Int × Int × Int) => [.t none (.sl 1 encU (code)), .t none (.v (.int .i64 (i2))), .t none (.v (.int .i64 (h2)))]) (fun (⟨x, i2, h2⟩ : Int × Int × Int) => []) 1 (fun (⟨x, i2, h2⟩ : Int × Int × Int) => .c (.t none (.v (.int .i64 (x))))) := by
 refine mu_enterG Try.func37 rfl (Nat.le_of_ble_eq_true rfl) fun v0 w S M hM => ?_
 refine tsr ?_
 refine r_op oA ?_
 refine r_end ?_
 refine t_seq ?_
 refine tsr ?_
 refine r_op oM ?_
 refine r_op oB ?_
 refine r_end ?_
 refine t_cond rfl (fun h1 => ?_) (fun h1 => ?_)
 ·
  have h1' := of_decide_eq_true h1
  exfalso; omega
 ·
  have h1' := of_decide_eq_false h1
  refine t_skip ?_
  refine t_seq ?_
  refine tsr ?_
  refine r_op oM ?_
  refine r_op oB ?_
  refine r_end ?_
  refine t_cond rfl (fun h2 => ?_) (fun h2 => ?_)
  ·
   have h2' := of_decide_eq_true h2
   refine tsr ?_
   refine r_op oM ?_
   refine r_opX (o_callGM 0 1 2 (pv := some (v0)) (Go.Proofs.enters_of Try.func60 (by kernel_rfl) rfl) (c_spec_l1Byte (code) (i) (h) (by omega) (by omega) (by omega)) rfl rfl (.cur rfl .nil) rfl (fun ⟨_, _, _⟩ => rfl) (fun _ => rfl) (fun ⟨_, _, _⟩ => rfl) rfl rfl) ?_
   rintro ⟨⟨x3, i24, h25⟩, hq6⟩
   try dsimp only at hq6
   try dsimp only
   obtain ⟨q7, q8⟩ := hq6
   refine r_op oM ?_
   refine r_op (o_binD rfl rfl rfl (rem_d (by omega))) ?_
   refine r_op oA ?_
   refine r_end ?_
   refine t_ret Try.func37 (.tmp rfl .nil) rfl fun E S w u hI hd => ?_
   refine post_mkG (⟨Int.tmod (x3) n, (i24), (h25)⟩) ?_ hI hd ?_ ⟨rfl, trivial⟩ rfl rfl <;> clear hI hd
   · (try dsimp only) <;> (exact ⟨tmod_bnd (by omega) (by omega), by omega⟩)
   · rfl
  ·
   have h2' := of_decide_eq_false h2
   exfalso; omega
set_option maxHeartbeats 1000000 in
set_option maxRecDepth 10000 in
theorem c_spec_l1Once (code : List Int) (i h n : Int) (hc : code.length ≤ 1048576) (hi0 : 0 ≤ i) (hi1 : i ≤ code.length) (hn : 1 ≤ n) (hn2 : n ≤ 256) : MuG Try.prog 29 [.c (.ptr 0 0), .c (.t none (.v (.int .i64 (n))))] [.t none (.sl 1 encU (code)), .t none (.v (.int .i64 (i))), .t none (.v (.int .i64 (h)))] (fun (⟨b, i2, h2⟩ : Bool × Int × Int) => 0 ≤ i2 ∧ i2 ≤ code.length) (fun (⟨b, i2, h2⟩ : Bool × Int × Int) => [.t none (.sl 1 encU (code)), .t none (.v (.int .i64 (i2))), .t none (.v (.int .i64 (h2)))]) (fun (⟨b, i2, h2⟩ : Bool × Int × Int) => []) 1 (fun (⟨b, i2, h2⟩ : Bool × Int × Int) => .c (.t none (.v (.bool (b))))) := by
 refine mu_enterG Try.func29 rfl (Nat.le_of_ble_eq_true rfl) fun v0 w S M hM => ?_
 refine tsr ?_
 refine r_op oA ?_
 refine etr ?_
 refine r_op oM ?_
 refine r_op oM ?_
 refine r_opX (o_callGM 0 1 2 (pv := some (v0)) (Go.Proofs.enters_of Try.func37 (by kernel_rfl) rfl) (c_spec_l1Below (code) (i) (h) (n) (by omega) (by omega) (by omega) (by omega) (by omega)) rfl rfl (.cur rfl (.cons rfl .nil)) rfl (fun ⟨_, _, _⟩ => rfl) (fun _ => rfl) (fun ⟨_, _, _⟩ => rfl) rfl rfl) ?_
 rintro ⟨⟨x1, i22, h23⟩, hq4⟩
 try dsimp only at hq4
 try dsimp only
 obtain ⟨q5, q6⟩ := hq4
 refine r_op oB ?_
 refine r_op oA ?_
 refine r_end ?_
 refine t_ret Try.func29 (.tmp rfl .nil) rfl fun E S w u hI hd => ?_
 refine post_mkG (⟨decide ((x1) = 0), (i22), (h23)⟩) ?_ hI hd ?_ ⟨rfl, trivial⟩ rfl rfl <;> clear hI hd
 · (try dsimp only) <;> (omega)
 · rfl
set_option maxHeartbeats 1000000 in
set_option maxRecDepth 10000 in
theorem c_spec_NullValue (k : Int) (hk : -4611686018427387904 ≤ k ∧ k ≤ 4611686018427387904) : Pu Try.prog 89 [.c (.t none (.v (.int .i64 (k))))] [] 0 (.c (.t none (.v (.int .i64 (-1 - k))))) := by
 refine pu_enter Try.func89 rfl (Nat.le_of_ble_eq_true rfl) fun w S => ?_
 refine tsr ?_
 refine r_op oA ?_
 refine etr ?_
 refine r_op oM ?_
 refine r_op oB ?_
 refine r_op oA ?_
 refine r_end ?_
 refine t_ret Try.func89 (.tmp rfl .nil) rfl fun E S w u hI hd => ?_
 refine post_mk hI hd ?_ trivial rfl rfl rfl <;> clear hI hd
 all_goals (refine scI ?_; exact wr64 (by omega) (by omega))
set_option maxHeartbeats 1000000 in
set_option maxRecDepth 10000 in
theorem c_spec_l4Value (code : List Int) (i h n : Int) (hc : code.length ≤ 1048576) (hi0 : 0 ≤ i) (hi1 : i ≤ code.length) (hn : 0 ≤ n) (hn2 : n ≤ 256) : MuG Try.prog 74 [.c (.ptr 0 0), .c (.t none (.v (.int .i64 (n))))] [.t none (.sl 1 encU (code)), .t none (.v (.int .i64 (i))), .t none (.v (.int .i64 (h)))] (fun (⟨x, i2, h2⟩ : Int × Int × Int) => (-256 ≤ x ∧ x ≤ 2) ∧ 0 ≤ i2 ∧ i2 ≤ code.length) (fun (⟨x, i2, h2⟩ : Int × Int × Int) => [.t none (.sl 1 encU (code)), .t none (.v (.int .i64 (i2))), .t none (.v (.int .i64 (h2)))]) (fun (⟨x, i2, h2⟩ : Int × Int × Int) => []) 1 (fun (⟨x, i2, h2⟩ : Int × Int × Int) => .c (.t none (.v (.int .i64 (x))))) := by
 refine mu_enterG Try.func74 rfl (Nat.le_of_ble_eq_true rfl) fun v0 w S M hM => ?_
 refine tsr ?_
 refine r_op oA ?_
 refine r_end ?_
 refine t_seq ?_
 refine tsr ?_
 refine r_op oM ?_
 refine r_op oB ?_
 refine r_op oM ?_
 refine r_guard rfl rfl rfl (fun g1 => ?_) (fun g1 => ?_)
 ·
  have g1' := of_decide_eq_true g1
  refine r_op oM ?_
  refine r_guard rfl rfl rfl (fun _ => ?_) (nc g1)
  refine r_opX (o_callGM 0 1 2 (pv := some (v0)) (Go.Proofs.enters_of Try.func29 (by kernel_rfl) rfl) (c_spec_l1Once (code) (i) (h) (2) (by omega) (by omega) (by omega) (by omega) (by omega)) rfl rfl (.cur rfl (.cons rfl .nil)) rfl (fun ⟨_, _, _⟩ => rfl) (fun _ => rfl) (fun ⟨_, _, _⟩ => rfl) rfl rfl) ?_
  rintro ⟨⟨b2, i23, h24⟩, hq5⟩
  try dsimp only at hq5
  try dsimp only
  refine r_op (o_pickT rfl rfl g1 rfl) ?_
  refine r_end ?_
  refine t_cond rfl (fun h7 => ?_) (fun h7 => ?_)
  ·
   have h7' := h7
   refine tsr ?_
   refine r_op oM ?_
   refine r_op oM ?_
   refine r_opX (o_callGM 0 2 3 (pv := some (v0)) (Go.Proofs.enters_of Try.func37 (by kernel_rfl) rfl) (c_spec_l1Below ((code)) ((i23)) ((h24)) (n) (by omega) (by omega) (by omega) (by omega) (by omega)) rfl rfl (.cur rfl (.cons rfl .nil)) rfl (fun ⟨_, _, _⟩ => rfl) (fun _ => rfl) (fun ⟨_, _, _⟩ => rfl) rfl rfl) ?_
   rintro ⟨⟨x8, i29, h210⟩, hq11⟩
   try dsimp only at hq11
   try dsimp only
   obtain ⟨q12, q13⟩ := hq11
   refine r_op (o_call 3 3 false (Go.Proofs.enters_of Try.func89 (by kernel_rfl) rfl) (c_spec_NullValue ((x8)) (by omega)) rfl (.cons rfl (.c .t0) .nil) rfl rfl rfl) ?_
   refine r_op oA ?_
   refine r_end ?_
   refine t_ret Try.func74 (.tmp rfl .nil) rfl fun E S w u hI hd => ?_
   refine post_mkG (⟨-1 - ((x8)), (i29), (h210)⟩) ?_ hI hd ?_ ⟨rfl, trivial⟩ rfl rfl <;> clear hI hd
   · (try dsimp only) <;> (((try simp only [IntKind.wrap_i64] at *); omega))
   · rfl
  ·
   have h7' := h7
   refine t_skip ?_
   refine tsr ?_
   refine r_op oM ?_
   refine r_opX (o_callGM 0 2 3 (pv := some (v0)) (Go.Proofs.enters_of Try.func37 (by kernel_rfl) rfl) (c_spec_l1Below ((code)) ((i23)) ((h24)) (3) (by omega) (by omega) (by omega) (by omega) (by omega)) rfl rfl (.cur rfl (.cons rfl .nil)) rfl (fun ⟨_, _, _⟩ => rfl) (fun _ => rfl) (fun ⟨_, _, _⟩ => rfl) rfl rfl) ?_
   rintro ⟨⟨x14, i215, h216⟩, hq17⟩
   try dsimp only at hq17
   try dsimp only
   obtain ⟨q18, q19⟩ := hq17
   refine r_op oA ?_
   refine r_end ?_
   refine t_ret Try.func74 (.tmp rfl .nil) rfl fun E S w u hI hd => ?_
   refine post_mkG (⟨(x14), (i215), (h216)⟩) ?_ hI hd ?_ ⟨rfl, trivial⟩ rfl rfl <;> clear hI hd
   · (try dsimp only) <;> (((try simp only [IntKind.wrap_i64] at *); omega))
   · rfl
 ·
  have g1' := of_decide_eq_false g1
  refine r_guard rfl rfl rfl (ncf g1) (fun _ => ?_)
  refine r_op (o_pickF rfl rfl g1 rfl) ?_
  refine r_end ?_
  refine t_cond rfl (ncf rfl) (fun _ => ?_)
  refine t_skip ?_
  refine tsr ?_
  refine r_op oM ?_
  refine r_opX (o_callGM 0 1 2 (pv := some (v0)) (Go.Proofs.enters_of Try.func37 (by kernel_rfl) rfl) (c_spec_l1Below (code) (i) (h) (3) (by omega) (by omega) (by omega) (by omega) (by omega)) rfl rfl (.cur rfl (.cons rfl .nil)) rfl (fun ⟨_, _, _⟩ => rfl) (fun _ => rfl) (fun ⟨_, _, _⟩ => rfl) rfl rfl) ?_
  rintro ⟨⟨x20, i221, h222⟩, hq23⟩
  try dsimp only at hq23
  try dsimp only
  obtain ⟨q24, q25⟩ := hq23
  refine r_op oA ?_
  refine r_end ?_
  refine t_ret Try.func74 (.tmp rfl .nil) rfl fun E S w u hI hd => ?_
  refine post_mkG (⟨(x20), (i221), (h222)⟩) ?_ hI hd ?_ ⟨rfl, trivial⟩ rfl rfl <;> clear hI hd
  · (try dsimp only) <;> (((try simp only [IntKind.wrap_i64] at *); omega))
  · rfl
set_option maxHeartbeats 1000000 in
set_option maxRecDepth 10000 in
theorem c_spec_l4Fact (code : List Int) (i h r n : Int) (hc : code.length ≤ 1048576) (hi0 : 0 ≤ i) (hi1 : i ≤ code.length) (hr : 0 ≤ r ∧ r ≤ 4) (hn : 0 ≤ n ∧ n ≤ 256) : MuG Try.prog 59 [.c (.ptr 0 0), .c (.t none (.v (.int .i64 (r)))), .c (.t none (.v (.int .i64 (n))))] [.t none (.sl 1 encU (code)), .t none (.v (.int .i64 (i))), .t none (.v (.int .i64 (h)))] (fun (⟨ts, i2, h2⟩ : (List Int) × Int × Int) => (1 ≤ ts.length ∧ ts.length ≤ 2) ∧ (∀ x ∈ ts, -256 ≤ x ∧ x ≤ 2) ∧ 0 ≤ i2 ∧ i2 ≤ code.length) (fun (⟨ts, i2, h2⟩ : (List Int) × Int × Int) => [.t none (.sl 1 encU (code)), .t none (.v (.int .i64 (i2))), .t none (.v (.int .i64 (h2)))]) (fun (⟨ts, i2, h2⟩ : (List Int) × Int × Int) => [(4, some (.row none 3 true 1 encI (ts)))]) 5 (fun (⟨ts, i2, h2⟩ : (List Int) × Int × Int) => .agg [.t none (.v (.int .i64 (r))), .own 4]) := by
 refine mu_enterG Try.func59 rfl (Nat.le_of_ble_eq_true rfl) fun v0 w S M hM => ?_
 have ar := arS_le hr
 refine tsr ?_
 refine r_op (o_alloc 1 (zs := [.int .i64 (0), .slice none 0 0]) rfl rfl (by kernel_rfl) rfl) ?_
 refine etr ?_
 refine r_op (o_call 2 3 false (Go.Proofs.enters_of Try.func58 (by kernel_rfl) rfl) (c_spec_l3Sigs ) rfl .nil rfl rfl rfl) ?_
 refine r_op oA ?_
 refine etr ?_
 refine r_op oM ?_
 refine r_op (o_build rfl (pl := [(0, 1), (1, 1)]) (zs := [.int .i64 (0), .slice none 0 0]) (by kernel_rfl) (by kernel_rfl) rfl rfl rfl) ?_
 refine r_op (o_alloc 3 (zs := [.int .i64 (0), .slice none 0 0]) rfl rfl (by kernel_rfl) rfl) ?_
 refine r_op (oS 2) ?_
 refine r_end ?_
 refine t_seq ?_
 refine t_block ?_
 refine gt_nilb 4 (b := 3) (o := 1) (et := 3) (sz := 1) true encI rfl rfl rfl ?_
 refine t_loopL (fun (ts, i3, h3) => ⟨[(0, some (.c (.ptr 0 0))), (1, some (.c (.t none (.v (.int .i64 (r)))))), (2, some (.c (.t none (.v (.int .i64 (n)))))), (6, some (.c (.ptr 1 0))), (7, some (.c (.own 2))), (8, some (.c (.ptr 3 0)))], [(0, some (.pbox (v0) [.t none (.sl 1 encU (code)), .t none (.v (.int .i64 (i3))), .t none (.v (.int .i64 (h3)))])), (1, some (.box [.t none (.v (.int .i64 (0))), .t none (.v (.slice none 0 0))])), (2, some (.row none 45 true 3 (enS3 encS encI encB) (sigs5))), (3, some (.box [.t none (.v (.int .i64 (r))), .own 4])), (4, some (.row none 3 true 1 encI (ts)))], 5⟩ : List Int × Int × Int → St) (fun (ts, i3, h3) => ((ts.length : Int) ≤ arS r) ∧ (∀ x ∈ ts, -256 ≤ x ∧ x ≤ 2) ∧ (0 ≤ i3 ∧ i3 ≤ code.length)) (fun (ts, i3, h3) => 2 - ts.length) ([], i, h) ⟨⟨rfl, ⟨rfl, ⟨rfl, ⟨rfl, ⟨rfl, ⟨rfl, trivial⟩⟩⟩⟩⟩⟩, ⟨rfl, ⟨rfl, ⟨rfl, ⟨rfl, ⟨rfl, trivial⟩⟩⟩⟩⟩, rfl⟩ (by exact ⟨by simp; omega, fun x hx => by simp at hx, by omega⟩) ?_
 rintro ⟨ts, i3, h3⟩ hI ih0
 try dsimp only at hI ih0
 obtain ⟨j1, j2, j3⟩ := hI
 refine t_seq ?_
 refine t_seq ?_
 refine t_draw (fun _ => true) (by kernel_rfl) ?_
 refine dT 0 rfl (pF 1) ?_
 refine dT 1 rfl pL ?_
 refine dT 2 rfl (p_leno rfl rfl rfl) ?_
 refine dT 3 rfl pM ?_
 refine dT 4 rfl pM ?_
 obtain ⟨z1, hz2, b3⟩ := at_get (xs := sigs5) (n := r) (by omega) (by (rw [sigs5_len]; omega))
 refine dT 5 rfl (p_indexo (by kernel_rfl) rfl rfl rfl b3 (at_lt b3 hz2)) ?_
 refine dT 6 rfl (p_fieldo (off := 1) (by kernel_rfl) rfl) ?_
 refine dT 7 rfl (p_load1o (by kernel_rfl) rfl rfl rfl hz2) ?_
 refine dT 8 rfl pB ?_
 refine d_end (by kernel_rfl) ?_
 refine t_cond rfl (fun h4 => ?_) (fun h4 => ?_)
 ·
  have h4' := of_decide_eq_true h4
  refine t_skip ?_
  refine t_block ?_
  refine t_draw (fun i => !(Nat.beq i 4 || Nat.beq i 6 || Nat.beq i 8)) (by kernel_rfl) ?_
  refine d_takeP 0 rfl rfl (by kernel_rfl) (by kernel_rfl) (by kernel_rfl) (pw_fieldb (off := 1) (by kernel_rfl) rfl) ?_
  refine dT 2 rfl pM ?_
  refine dT 3 rfl pM ?_
  refine d_twoX 1 4 rfl rfl (by kernel_rfl) rfl rfl (osX oL) (o_callGM 0 5 6 (pv := some (v0)) (Go.Proofs.enters_of Try.func74 (by kernel_rfl) rfl) (c_spec_l4Value (code) (i3) (h3) (n) (by omega) (by omega) (by omega) (by omega) (by omega)) rfl rfl (.cur rfl (.cons rfl .nil)) rfl (fun ⟨_, _, _⟩ => rfl) (fun _ => rfl) (fun ⟨_, _, _⟩ => rfl) rfl rfl) ?_ ?_
  ·
   rintro ⟨⟩
   refine dOX 4 rfl (o_callGM 0 5 6 (pv := some (v0)) (Go.Proofs.enters_of Try.func74 (by kernel_rfl) rfl) (c_spec_l4Value (code) (i3) (h3) (n) (by omega) (by omega) (by omega) (by omega) (by omega)) rfl rfl (.cur rfl (.cons rfl .nil)) rfl (fun ⟨_, _, _⟩ => rfl) (fun _ => rfl) (fun ⟨_, _, _⟩ => rfl) rfl rfl) ?_
   rintro ⟨⟨x11, i212, h213⟩, hq14⟩
   try dsimp only at hq14
   try dsimp only
   obtain ⟨q15, q16⟩ := hq14
   refine dO 5 rfl (o_litS 6 (e := 3) (sz := 1) (zs := [.int .i64 (0)]) rfl rfl (by kernel_rfl) rfl rfl rfl rfl rfl) ?_
   refine dO 6 rfl (o_append 4 (e := 3) (sz := 1) (by' := 8) ((x11)) rfl (by kernel_rfl) rfl rfl rfl rfl rfl rfl (.cons .sc .nil) rfl (by omega) (by omega)) ?_
   refine dT 7 rfl (pF 1) ?_
   refine dO 8 rfl (oS 1) ?_
   refine d_end (by kernel_rfl) ?_
   refine t_endblock ?_
   have sg := sig_at hz2
   refine t_le ?_ (ih0 (ts ++ [(x11)], (i212), (h213)) (by (try dsimp only); (simp; omega)) (by (try dsimp only); exact ⟨by (simp only [List.length_append, List.length_singleton]; omega), mem_snoc j2 (by assumption), by omega⟩))
   exact ⟨⟨rfl, ⟨rfl, ⟨rfl, ⟨rfl, ⟨rfl, ⟨rfl, trivial⟩⟩⟩⟩⟩⟩, ⟨rfl, ⟨rfl, ⟨rfl, ⟨rfl, ⟨rfl, trivial⟩⟩⟩⟩⟩, rfl⟩
  ·
   rintro ⟨⟨x5, i26, h27⟩, hq8⟩
   try dsimp only at hq8
   try dsimp only
   obtain ⟨q9, q10⟩ := hq8
   refine dT 1 rfl pL ?_
   refine dO 5 rfl (o_litS 6 (e := 3) (sz := 1) (zs := [.int .i64 (0)]) rfl rfl (by kernel_rfl) rfl rfl rfl rfl rfl) ?_
   refine dO 6 rfl (o_append 4 (e := 3) (sz := 1) (by' := 8) ((x5)) rfl (by kernel_rfl) rfl rfl rfl rfl rfl rfl (.cons .sc .nil) rfl (by omega) (by omega)) ?_
   refine dT 7 rfl (pF 1) ?_
   refine dO 8 rfl (oS 1) ?_
   refine d_end (by kernel_rfl) ?_
   refine t_endblock ?_
   have sg := sig_at hz2
   refine t_le ?_ (ih0 (ts ++ [(x5)], (i26), (h27)) (by (try dsimp only); (simp; omega)) (by (try dsimp only); exact ⟨by (simp only [List.length_append, List.length_singleton]; omega), mem_snoc j2 (by assumption), by omega⟩))
   exact ⟨⟨rfl, ⟨rfl, ⟨rfl, ⟨rfl, ⟨rfl, ⟨rfl, trivial⟩⟩⟩⟩⟩⟩, ⟨rfl, ⟨rfl, ⟨rfl, ⟨rfl, ⟨rfl, trivial⟩⟩⟩⟩⟩, rfl⟩
 ·
  have h4' := of_decide_eq_false h4
  refine t_exit rfl ?_
  refine tsr ?_
  refine r_op (oC 2) ?_
  refine r_op (oS 2) ?_
  refine r_end ?_
  refine t_ret Try.func59 (.cells (n := 2) (by kernel_rfl) (by kernel_rfl) rfl rfl rfl .nil) rfl fun E S w u hI hd => ?_
  refine post_mkG (⟨ts, i3, h3⟩) ?_ hI hd ?_ ⟨rfl, ⟨rfl, trivial⟩⟩ rfl rfl <;> clear hI hd <;> (try clear ih0)
  · (try dsimp only) <;> ((have sg := sig_at hz2); exact ⟨by omega, j2, by omega⟩)
  · rfl
set_option maxHeartbeats 1000000 in
set_option maxRecDepth 10000 in
theorem c_spec_l4Ints (a b : List Int) (ha : a.length ≤ 4611686018427387904) (hb : b.length ≤ 4611686018427387904) : Pu Try.prog 53 [.c (.t none (.sl 1 encI (a))), .c (.t none (.sl 1 encI (b)))] [] 0 (.c (.t none (.v (.int .i64 (cmpL a b))))) := by
 refine pu_enter Try.func53 rfl (Nat.le_of_ble_eq_true rfl) fun w S => ?_
 refine tsr ?_
 refine r_op oA ?_
 refine r_end ?_
 refine t_seq ?_
 refine tsr ?_
 refine r_op oA ?_
 refine r_end ?_
 refine t_block ?_
 refine t_loopL (fun m => ⟨[(0, some (.c (.t none (.sl 1 encI (a))))), (1, some (.c (.t none (.sl 1 encI (b))))), (5, some (.c (.t none (.v (.int .i64 ((m : Int)))))))], [], 0⟩ : Nat → St) (fun m => m ≤ a.length ∧ m ≤ b.length ∧ a.take m = b.take m) (fun m => a.length - m) 0 ⟨⟨rfl, ⟨rfl, ⟨rfl, trivial⟩⟩⟩, trivial, rfl⟩ (by exact ⟨Nat.zero_le _, Nat.zero_le _, rfl⟩) ?_
 rintro m hI ih0
 try dsimp only at hI ih0
 obtain ⟨i1, i2, i3⟩ := hI
 refine t_seq ?_
 refine tsr ?_
 refine r_op oM ?_
 refine r_op oM ?_
 refine r_op (o_len rfl rfl rfl) ?_
 refine r_op oB ?_
 refine r_op oM ?_
 refine r_guard rfl rfl rfl (fun g1 => ?_) (fun g1 => ?_)
 ·
  have g1' := of_decide_eq_true g1
  refine r_op oM ?_
  refine r_guard rfl rfl rfl (fun _ => ?_) (nc g1)
  refine r_op oM ?_
  refine r_guard rfl rfl rfl (fun _ => ?_) (nc g1)
  refine r_op (o_len rfl rfl rfl) ?_
  refine r_guard rfl rfl rfl (fun _ => ?_) (nc g1)
  refine r_op oB ?_
  refine r_op (o_pickT rfl rfl g1 rfl) ?_
  refine r_end ?_
  refine t_cond rfl (fun h2 => ?_) (fun h2 => ?_)
  ·
   have h2' := of_decide_eq_true h2
   refine t_skip ?_
   refine t_seq ?_
   refine t_block ?_
   refine t_seq ?_
   refine t_seq ?_
   refine t_draw (fun _ => true) (by kernel_rfl) ?_
   refine dT 0 rfl pM ?_
   refine dT 1 rfl pM ?_
   obtain ⟨z3, hz4, b5⟩ := at_get (xs := a) (n := (m : Int)) (by omega) (by omega)
   refine dT 2 rfl (p_index (by kernel_rfl) rfl rfl b5 hz4) ?_
   refine dT 3 rfl (p_load1 (by kernel_rfl) rfl rfl) ?_
   refine dT 4 rfl pM ?_
   refine dT 5 rfl pM ?_
   obtain ⟨z6, hz7, b8⟩ := at_get (xs := b) (n := (m : Int)) (by omega) (by omega)
   refine dT 6 rfl (p_index (by kernel_rfl) rfl rfl b8 hz7) ?_
   refine dT 7 rfl (p_load1 (by kernel_rfl) rfl rfl) ?_
   refine dT 8 rfl pB ?_
   refine d_end (by kernel_rfl) ?_
   refine t_cond rfl (fun h9 => ?_) (fun h9 => ?_)
   ·
    have h9' := of_decide_eq_true h9
    refine tsr ?_
    refine r_op oA ?_
    refine r_end ?_
    refine t_ret Try.func53 (.tmp rfl .nil) rfl fun E S w u hI hd => ?_
    refine post_mk hI hd ?_ trivial rfl rfl rfl <;> clear hI hd <;> (try clear ih0)
    all_goals (refine scI ?_; (rw [(cmpL_at i3 (by assumption) (by assumption)).1 (by omega)]; done))
   ·
    have h9' := of_decide_eq_false h9
    refine t_skip ?_
    refine t_seq ?_
    refine t_draw (fun _ => true) (by kernel_rfl) ?_
    refine dT 0 rfl pM ?_
    refine dT 1 rfl pM ?_
    refine dT 2 rfl (p_index (by kernel_rfl) rfl rfl b5 hz4) ?_
    refine dT 3 rfl (p_load1 (by kernel_rfl) rfl rfl) ?_
    refine dT 4 rfl pM ?_
    refine dT 5 rfl pM ?_
    refine dT 6 rfl (p_index (by kernel_rfl) rfl rfl b8 hz7) ?_
    refine dT 7 rfl (p_load1 (by kernel_rfl) rfl rfl) ?_
    refine dT 8 rfl pB ?_
    refine d_end (by kernel_rfl) ?_
    refine t_cond rfl (fun h10 => ?_) (fun h10 => ?_)
    ·
     have h10' := of_decide_eq_true h10
     refine tsr ?_
     refine r_op oA ?_
     refine r_end ?_
     refine t_ret Try.func53 (.tmp rfl .nil) rfl fun E S w u hI hd => ?_
     refine post_mk hI hd ?_ trivial rfl rfl rfl <;> clear hI hd <;> (try clear ih0)
     all_goals (refine scI ?_; (rw [(cmpL_at i3 (by assumption) (by assumption)).2 (by omega)]; done))
    ·
     have h10' := of_decide_eq_false h10
     refine t_skip ?_
     refine t_endblock ?_
     refine t_region ?_
     refine r_op oM ?_
     refine r_op oB ?_
     refine r_op oA ?_
     refine r_end ?_
     refine t_le ?_ (ih0 (m + 1) (by (try dsimp only); omega) (by (try dsimp only); exact ⟨by omega, by omega, take_same i3 (same_at (by assumption) (by assumption) (by omega))⟩))
     exact ⟨⟨rfl, ⟨rfl, ⟨(eqI (wr64 (by omega) (by omega))), trivial⟩⟩⟩, trivial, rfl⟩
  ·
   have h2' := of_decide_eq_false h2
   refine t_exit rfl ?_
   refine t_seq ?_
   refine tsr ?_
   refine r_op oM ?_
   refine r_op (o_len rfl rfl rfl) ?_
   refine r_op oM ?_
   refine r_op (o_len rfl rfl rfl) ?_
   refine r_op oB ?_
   refine r_end ?_
   refine t_cond rfl (fun h11 => ?_) (fun h11 => ?_)
   ·
    have h11' := of_decide_eq_true h11
    refine tsr ?_
    refine r_op oA ?_
    refine r_end ?_
    refine t_ret Try.func53 (.tmp rfl .nil) rfl fun E S w u hI hd => ?_
    refine post_mk hI hd ?_ trivial rfl rfl rfl <;> clear hI hd <;> (try clear ih0)
    all_goals (refine scI ?_; (rw [(cmpL_end i3 i1 i2).1 (by omega) (by omega)]; done))
   ·
    have h11' := of_decide_eq_false h11
    refine t_skip ?_
    refine t_seq ?_
    refine tsr ?_
    refine r_op oM ?_
    refine r_op (o_len rfl rfl rfl) ?_
    refine r_op oM ?_
    refine r_op (o_len rfl rfl rfl) ?_
    refine r_op oB ?_
    refine r_end ?_
    refine t_cond rfl (fun h12 => ?_) (fun h12 => ?_)
    ·
     have h12' := of_decide_eq_true h12
     refine tsr ?_
     refine r_op oA ?_
     refine r_end ?_
     refine t_ret Try.func53 (.tmp rfl .nil) rfl fun E S w u hI hd => ?_
     refine post_mk hI hd ?_ trivial rfl rfl rfl <;> clear hI hd <;> (try clear ih0)
     all_goals (refine scI ?_; (rw [(cmpL_end i3 i1 i2).2.1 (by omega) (by omega)]; done))
    ·
     have h12' := of_decide_eq_false h12
     refine t_skip ?_
     refine tsr ?_
     refine r_op oA ?_
     refine r_end ?_
     refine t_ret Try.func53 (.tmp rfl .nil) rfl fun E S w u hI hd => ?_
     refine post_mk hI hd ?_ trivial rfl rfl rfl <;> clear hI hd <;> (try clear ih0)
     all_goals (refine scI ?_; (rw [(cmpL_end i3 i1 i2).2.2 (by omega) (by omega)]; done))
 ·
  have g1' := of_decide_eq_false g1
  refine r_guard rfl rfl rfl (ncf g1) (fun _ => ?_)
  refine r_guard rfl rfl rfl (ncf g1) (fun _ => ?_)
  refine r_guard rfl rfl rfl (ncf g1) (fun _ => ?_)
  refine r_op (o_pickF rfl rfl g1 rfl) ?_
  refine r_end ?_
  refine t_cond rfl (ncf rfl) (fun _ => ?_)
  refine t_exit rfl ?_
  refine t_seq ?_
  refine tsr ?_
  refine r_op oM ?_
  refine r_op (o_len rfl rfl rfl) ?_
  refine r_op oM ?_
  refine r_op (o_len rfl rfl rfl) ?_
  refine r_op oB ?_
  refine r_end ?_
  refine t_cond rfl (fun h13 => ?_) (fun h13 => ?_)
  ·
   have h13' := of_decide_eq_true h13
   refine tsr ?_
   refine r_op oA ?_
   refine r_end ?_
   refine t_ret Try.func53 (.tmp rfl .nil) rfl fun E S w u hI hd => ?_
   refine post_mk hI hd ?_ trivial rfl rfl rfl <;> clear hI hd <;> (try clear ih0)
   all_goals (refine scI ?_; (rw [(cmpL_end i3 i1 i2).1 (by omega) (by omega)]; done))
  ·
   have h13' := of_decide_eq_false h13
   refine t_skip ?_
   refine t_seq ?_
   refine tsr ?_
   refine r_op oM ?_
   refine r_op (o_len rfl rfl rfl) ?_
   refine r_op oM ?_
   refine r_op (o_len rfl rfl rfl) ?_
   refine r_op oB ?_
   refine r_end ?_
   refine t_cond rfl (fun h14 => ?_) (fun h14 => ?_)
   ·
    have h14' := of_decide_eq_true h14
    refine tsr ?_
    refine r_op oA ?_
    refine r_end ?_
    refine t_ret Try.func53 (.tmp rfl .nil) rfl fun E S w u hI hd => ?_
    refine post_mk hI hd ?_ trivial rfl rfl rfl <;> clear hI hd <;> (try clear ih0)
    all_goals (refine scI ?_; (rw [(cmpL_end i3 i1 i2).2.1 (by omega) (by omega)]; done))
   ·
    have h14' := of_decide_eq_false h14
    refine t_skip ?_
    refine tsr ?_
    refine r_op oA ?_
    refine r_end ?_
    refine t_ret Try.func53 (.tmp rfl .nil) rfl fun E S w u hI hd => ?_
    refine post_mk hI hd ?_ trivial rfl rfl rfl <;> clear hI hd <;> (try clear ih0)
    all_goals (refine scI ?_; (rw [(cmpL_end i3 i1 i2).2.2 (by omega) (by omega)]; done))
set_option maxHeartbeats 1000000 in
set_option maxRecDepth 10000 in
theorem c_spec_CompareFacts (r : Int) (l : List Int) (r2 : Int) (l2 : List Int) (hl : l.length ≤ 1048576) (hl2 : l2.length ≤ 1048576) : Pu Try.prog 26 [.agg [.t none (.v (.int .i64 (r))), .t none (.sl 1 encI (l))], .agg [.t none (.v (.int .i64 (r2))), .t none (.sl 1 encI (l2))]] [] 0 (.c (.t none (.v (.int .i64 (cmpF (r, l) (r2, l2)))))) := by
 refine pu_enter Try.func26 rfl (Nat.le_of_ble_eq_true rfl) fun w S => ?_
 refine tsr ?_
 refine r_op (o_box 0 rfl rfl rfl rfl) ?_
 refine r_op (o_box 1 rfl rfl rfl rfl) ?_
 refine r_op oA ?_
 refine r_end ?_
 refine t_seq ?_
 refine tsr ?_
 refine r_op (oF 0) ?_
 refine r_op oL ?_
 refine r_op (oF 0) ?_
 refine r_op oL ?_
 refine r_op oB ?_
 refine r_end ?_
 refine t_cond rfl (fun h1 => ?_) (fun h1 => ?_)
 ·
  have h1' := of_decide_eq_true h1
  refine tsr ?_
  refine r_op oA ?_
  refine r_end ?_
  refine t_ret Try.func26 (.tmp rfl .nil) rfl fun E S w u hI hd => ?_
  refine post_mk hI hd ?_ trivial rfl rfl rfl <;> clear hI hd
  all_goals (refine scI ?_; unfold cmpF; (rw [if_pos (by assumption)]; done))
 ·
  have h1' := of_decide_eq_false h1
  refine t_skip ?_
  refine t_seq ?_
  refine tsr ?_
  refine r_op (oF 0) ?_
  refine r_op oL ?_
  refine r_op (oF 0) ?_
  refine r_op oL ?_
  refine r_op oB ?_
  refine r_end ?_
  refine t_cond rfl (fun h2 => ?_) (fun h2 => ?_)
  ·
   have h2' := of_decide_eq_true h2
   refine tsr ?_
   refine r_op oA ?_
   refine r_end ?_
   refine t_ret Try.func26 (.tmp rfl .nil) rfl fun E S w u hI hd => ?_
   refine post_mk hI hd ?_ trivial rfl rfl rfl <;> clear hI hd
   all_goals (refine scI ?_; unfold cmpF; (rw [if_neg (by assumption), if_pos (by assumption)]; done))
  ·
   have h2' := of_decide_eq_false h2
   refine t_skip ?_
   refine tsr ?_
   refine r_op (oF 1) ?_
   refine r_op oL ?_
   refine r_op (oF 1) ?_
   refine r_op oL ?_
   refine r_op (o_call 2 2 false (Go.Proofs.enters_of Try.func53 (by kernel_rfl) rfl) (c_spec_l4Ints (l) (l2) (by omega) (by omega)) rfl (.cons rfl (.c .t0) (.cons rfl (.c .t0) .nil)) rfl rfl rfl) ?_
   refine r_op oA ?_
   refine r_end ?_
   refine t_ret Try.func26 (.tmp rfl .nil) rfl fun E S w u hI hd => ?_
   refine post_mk hI hd ?_ trivial rfl rfl rfl <;> clear hI hd
   all_goals (refine scI ?_; unfold cmpF; (rw [if_neg (by assumption), if_neg (by assumption)]; done))
set_option maxHeartbeats 1000000 in
set_option maxRecDepth 10000 in
theorem c_spec_l5Place (rs : Rels) (fs : Atoms) (r : Int) (ts : List Int) (hfs : szS (fun (x : Int × (List (Int))) => (x.2).length) fs ≤ 1048576) (hts : ts.length ≤ 1048576) : Pu Try.prog 33 [.agg [.t none (.sl 3 (enS3 encS encI encB) (rs)), .t none (.sl 2 (enS2 encI (enSl 1 encI)) (fs))], .agg [.t none (.v (.int .i64 (r))), .t none (.sl 1 encI (ts))]] [] 0 (.c (.t none (.v (.int .i64 (idxI (fun x => decide (cmpF x (r, ts) = 0)) fs))))) := by
 refine pu_enter Try.func33 rfl (Nat.le_of_ble_eq_true rfl) fun w S => ?_
 have gl := sz_len (f := (fun (x : Int × (List (Int))) => (x.2).length)) (l := fs)
 refine tsr ?_
 refine r_op (o_box 0 rfl rfl rfl rfl) ?_
 refine r_op (o_box 1 rfl rfl rfl rfl) ?_
 refine r_op oA ?_
 refine r_end ?_
 refine t_seq ?_
 refine tsr ?_
 refine r_op oA ?_
 refine r_end ?_
 refine t_block ?_
 refine t_loopL (fun m => ⟨[(2, some (.c (.ptr 0 0))), (3, some (.c (.ptr 1 0))), (5, some (.c (.t none (.v (.int .i64 ((m : Int)))))))], [(0, some (.box [.t none (.sl 3 (enS3 encS encI encB) (rs)), .t none (.sl 2 (enS2 encI (enSl 1 encI)) (fs))])), (1, some (.box [.t none (.v (.int .i64 (r))), .t none (.sl 1 encI (ts))]))], 2⟩ : Nat → St) (fun m => m ≤ fs.length ∧ ∀ j z, j < m → fs[j]? = some z → (fun x => decide (cmpF x (r, ts) = 0)) z = false) (fun m => fs.length - m) 0 ⟨⟨rfl, ⟨rfl, ⟨rfl, trivial⟩⟩⟩, ⟨rfl, ⟨rfl, trivial⟩⟩, rfl⟩ (by exact ⟨Nat.zero_le _, fun j z h => by omega⟩) ?_
 rintro m hI ih0
 try dsimp only at hI ih0
 obtain ⟨i1, i2⟩ := hI
 refine t_seq ?_
 refine tsr ?_
 refine r_op oM ?_
 refine r_op (oF 1) ?_
 refine r_op oL ?_
 refine r_op (o_len rfl rfl rfl) ?_
 refine r_op oB ?_
 refine r_end ?_
 refine t_cond rfl (fun h1 => ?_) (fun h1 => ?_)
 ·
  have h1' := of_decide_eq_true h1
  refine t_skip ?_
  refine t_seq ?_
  refine t_block ?_
  refine t_seq ?_
  refine t_draw (fun _ => true) (by kernel_rfl) ?_
  refine dT 0 rfl (pF 1) ?_
  refine dT 1 rfl pL ?_
  refine dT 2 rfl pM ?_
  obtain ⟨z2, hz3, b4⟩ := at_get (xs := fs) (n := (m : Int)) (by omega) (by omega)
  refine dT 3 rfl (p_index (by kernel_rfl) rfl rfl b4 hz3) ?_
  refine dT 4 rfl (p_loadA (n := 2) (by kernel_rfl) (by kernel_rfl) rfl rfl) ?_
  refine dT 5 rfl (pC 2) ?_
  refine dO 6 rfl (o_call 2 2 false (Go.Proofs.enters_of Try.func26 (by kernel_rfl) rfl) (c_spec_CompareFacts (z2.1) (z2.2) (r) (ts) (by (have e1 := sz_at (f := (fun (x : Int × (List (Int))) => (x.2).length)) (l := fs) (m := m) (by assumption); (try dsimp only at e1); omega)) (by omega)) rfl (.cons rfl (.agg (.cons .t0 (.cons .t0 .nil))) (.cons rfl (.agg (.cons .t0 (.cons .t0 .nil))) .nil)) rfl rfl rfl) ?_
  refine dT 7 rfl pB ?_
  refine d_end (by kernel_rfl) ?_
  refine t_cond rfl (fun h5 => ?_) (fun h5 => ?_)
  ·
   have h5' := of_decide_eq_true h5
   refine tsr ?_
   refine r_op oM ?_
   refine r_op oA ?_
   refine r_end ?_
   refine t_ret Try.func33 (.tmp rfl .nil) rfl fun E S w u hI hd => ?_
   refine post_mk hI hd ?_ trivial rfl rfl rfl <;> clear hI hd <;> (try clear ih0)
   all_goals (rw [idx_hit i2 (by assumption) (by assumption)])
  ·
   have h5' := of_decide_eq_false h5
   refine t_skip ?_
   refine t_endblock ?_
   refine t_region ?_
   refine r_op oM ?_
   refine r_op oB ?_
   refine r_op oA ?_
   refine r_end ?_
   refine t_le ?_ (ih0 (m + 1) (by (try dsimp only); omega) (by (try dsimp only); exact ⟨by omega, no_step i2 (by assumption) rfl (by assumption)⟩))
   exact ⟨⟨rfl, ⟨rfl, ⟨(eqI (wr64 (by omega) (by omega))), trivial⟩⟩⟩, ⟨rfl, ⟨rfl, trivial⟩⟩, rfl⟩
 ·
  have h1' := of_decide_eq_false h1
  refine t_exit rfl ?_
  refine tsr ?_
  refine r_op oA ?_
  refine r_end ?_
  refine t_ret Try.func33 (.tmp rfl .nil) rfl fun E S w u hI hd => ?_
  refine post_mk hI hd ?_ trivial rfl rfl rfl <;> clear hI hd <;> (try clear ih0)
  all_goals (rw [idx_none i2 (by omega)])
set_option maxHeartbeats 1000000 in
set_option maxRecDepth 10000 in
theorem c_spec_l5Fact (r : Int) (ts : List Int) (hl : ts.length ≤ 1048576) : Pu Try.prog 55 [.agg [.t none (.v (.int .i64 (r))), .t none (.sl 1 encI (ts))]] [(2, some (.row none 3 true 1 encI (ts)))] 3 (.agg [.t none (.v (.int .i64 (r))), .own 2]) := by
 refine pu_enter Try.func55 rfl (Nat.le_of_ble_eq_true rfl) fun w S => ?_
 refine tsr ?_
 refine r_op (o_box 0 rfl rfl rfl rfl) ?_
 refine r_op (o_alloc 1 (zs := [.int .i64 (0), .slice none 0 0]) rfl rfl (by kernel_rfl) rfl) ?_
 refine r_end ?_
 refine t_seq ?_
 refine t_draw (fun i => !(Nat.beq i 5 || Nat.beq i 7)) (by kernel_rfl) ?_
 refine dT 3 rfl (pF 1) ?_
 refine dT 4 rfl pL ?_
 refine d_two 0 2 rfl rfl (by kernel_rfl) rfl rfl (oF 0) (o_lit0 2 (e := 3) (sz := 1) (zs := [.int .i64 (0)]) encI rfl rfl (by kernel_rfl) rfl) ?_ ?_
 ·
  refine d_two 1 2 rfl rfl (by kernel_rfl) rfl rfl oL (o_lit0 2 (e := 3) (sz := 1) (zs := [.int .i64 (0)]) encI rfl rfl (by kernel_rfl) rfl) ?_ ?_
  ·
   refine dO 2 rfl (o_lit0 2 (e := 3) (sz := 1) (zs := [.int .i64 (0)]) encI rfl rfl (by kernel_rfl) rfl) ?_
   refine dO 5 rfl (o_appendS 2 (e := 3) (sz := 1) (by' := 8) rfl (by kernel_rfl) rfl rfl rfl rfl (fun _ _ => ⟨_, rfl⟩) (by (simp; omega)) (by (simp; omega))) ?_
   refine dT 6 rfl (p_build (pl := [(0, 1), (1, 1)]) (zs := [.int .i64 (0), .slice none 0 0]) (by kernel_rfl) (by kernel_rfl) rfl rfl rfl) ?_
   refine dO 7 rfl (oS 2) ?_
   refine d_end (by kernel_rfl) ?_
   refine t_ret Try.func55 (.cells (n := 2) (by kernel_rfl) (by kernel_rfl) rfl rfl rfl .nil) rfl fun E S w u hI hd => ?_
   refine post_mk hI hd ?_ ⟨eqR ?_, trivial⟩ rfl rfl rfl <;> clear hI hd
   all_goals (rfl)
  ·
   refine d_two 1 5 rfl rfl (by kernel_rfl) rfl rfl oL (o_appendS 2 (e := 3) (sz := 1) (by' := 8) rfl (by kernel_rfl) rfl rfl rfl rfl (fun _ _ => ⟨_, rfl⟩) (by (simp; omega)) (by (simp; omega))) ?_ ?_
   ·
    refine dO 5 rfl (o_appendS 2 (e := 3) (sz := 1) (by' := 8) rfl (by kernel_rfl) rfl rfl rfl rfl (fun _ _ => ⟨_, rfl⟩) (by (simp; omega)) (by (simp; omega))) ?_
    refine dT 6 rfl (p_build (pl := [(0, 1), (1, 1)]) (zs := [.int .i64 (0), .slice none 0 0]) (by kernel_rfl) (by kernel_rfl) rfl rfl rfl) ?_
    refine dO 7 rfl (oS 2) ?_
    refine d_end (by kernel_rfl) ?_
    refine t_ret Try.func55 (.cells (n := 2) (by kernel_rfl) (by kernel_rfl) rfl rfl rfl .nil) rfl fun E S w u hI hd => ?_
    refine post_mk hI hd ?_ ⟨eqR ?_, trivial⟩ rfl rfl rfl <;> clear hI hd
    all_goals (rfl)
   ·
    refine dT 1 rfl pL ?_
    refine dT 6 rfl (p_build (pl := [(0, 1), (1, 1)]) (zs := [.int .i64 (0), .slice none 0 0]) (by kernel_rfl) (by kernel_rfl) rfl rfl rfl) ?_
    refine dO 7 rfl (oS 2) ?_
    refine d_end (by kernel_rfl) ?_
    refine t_ret Try.func55 (.cells (n := 2) (by kernel_rfl) (by kernel_rfl) rfl rfl rfl .nil) rfl fun E S w u hI hd => ?_
    refine post_mk hI hd ?_ ⟨eqR ?_, trivial⟩ rfl rfl rfl <;> clear hI hd
    all_goals (rfl)
 ·
  refine d_two 0 5 rfl rfl (by kernel_rfl) rfl rfl (oF 0) (o_appendS 2 (e := 3) (sz := 1) (by' := 8) rfl (by kernel_rfl) rfl rfl rfl rfl (fun _ _ => ⟨_, rfl⟩) (by (simp; omega)) (by (simp; omega))) ?_ ?_
  ·
   refine d_two 1 5 rfl rfl (by kernel_rfl) rfl rfl oL (o_appendS 2 (e := 3) (sz := 1) (by' := 8) rfl (by kernel_rfl) rfl rfl rfl rfl (fun _ _ => ⟨_, rfl⟩) (by (simp; omega)) (by (simp; omega))) ?_ ?_
   ·
    refine dO 5 rfl (o_appendS 2 (e := 3) (sz := 1) (by' := 8) rfl (by kernel_rfl) rfl rfl rfl rfl (fun _ _ => ⟨_, rfl⟩) (by (simp; omega)) (by (simp; omega))) ?_
    refine dT 6 rfl (p_build (pl := [(0, 1), (1, 1)]) (zs := [.int .i64 (0), .slice none 0 0]) (by kernel_rfl) (by kernel_rfl) rfl rfl rfl) ?_
    refine dO 7 rfl (oS 2) ?_
    refine d_end (by kernel_rfl) ?_
    refine t_ret Try.func55 (.cells (n := 2) (by kernel_rfl) (by kernel_rfl) rfl rfl rfl .nil) rfl fun E S w u hI hd => ?_
    refine post_mk hI hd ?_ ⟨eqR ?_, trivial⟩ rfl rfl rfl <;> clear hI hd
    all_goals (rfl)
   ·
    refine dT 1 rfl pL ?_
    refine dT 6 rfl (p_build (pl := [(0, 1), (1, 1)]) (zs := [.int .i64 (0), .slice none 0 0]) (by kernel_rfl) (by kernel_rfl) rfl rfl rfl) ?_
    refine dO 7 rfl (oS 2) ?_
    refine d_end (by kernel_rfl) ?_
    refine t_ret Try.func55 (.cells (n := 2) (by kernel_rfl) (by kernel_rfl) rfl rfl rfl .nil) rfl fun E S w u hI hd => ?_
    refine post_mk hI hd ?_ ⟨eqR ?_, trivial⟩ rfl rfl rfl <;> clear hI hd
    all_goals (rfl)
  ·
   refine dT 0 rfl (pF 0) ?_
   refine dT 1 rfl pL ?_
   refine dT 6 rfl (p_build (pl := [(0, 1), (1, 1)]) (zs := [.int .i64 (0), .slice none 0 0]) (by kernel_rfl) (by kernel_rfl) rfl rfl rfl) ?_
   refine dO 7 rfl (oS 2) ?_
   refine d_end (by kernel_rfl) ?_
   refine t_ret Try.func55 (.cells (n := 2) (by kernel_rfl) (by kernel_rfl) rfl rfl rfl .nil) rfl fun E S w u hI hd => ?_
   refine post_mk hI hd ?_ ⟨eqR ?_, trivial⟩ rfl rfl rfl <;> clear hI hd
   all_goals (rfl)
set_option maxHeartbeats 1000000 in
set_option maxRecDepth 10000 in
theorem c_spec_l5Put (rs : Rels) (fs : Atoms) (r : Int) (ts : List Int) (hfs : szS (fun (x : Int × (List (Int))) => (x.2).length) fs ≤ 1048576) (hts : ts.length ≤ 1048576) : Pu Try.prog 36 [.agg [.t none (.sl 3 (enS3 encS encI encB) (rs)), .t none (.sl 2 (enS2 encI (enSl 1 encI)) (fs))], .agg [.t none (.v (.int .i64 (r))), .t none (.sl 1 encI (ts))]] [] 0 (.agg [.t none (.sl 3 (enS3 encS encI encB) (rs)), .t none (.sl 2 (enS2 encI (enSl 1 encI)) (putF fs (r, ts)))]) := by
 refine pu_enter Try.func36 rfl (Nat.le_of_ble_eq_true rfl) fun w S => ?_
 have gl := sz_len (f := (fun (x : Int × (List (Int))) => (x.2).length)) (l := fs)
 refine tsr ?_
 refine r_op (o_box 0 rfl rfl rfl rfl) ?_
 refine r_op (o_box 1 rfl rfl rfl rfl) ?_
 refine r_op (o_alloc 2 (zs := [.slice none 0 0, .slice none 0 0]) rfl rfl (by kernel_rfl) rfl) ?_
 refine r_end ?_
 refine t_seq ?_
 refine tsr ?_
 refine r_op (oC 2) ?_
 refine r_op (oC 2) ?_
 refine r_op (o_call 3 3 false (Go.Proofs.enters_of Try.func33 (by kernel_rfl) rfl) (c_spec_l5Place (rs) (fs) (r) (ts) (by omega) (by omega)) rfl (.cons rfl (.agg (.cons .t0 (.cons .t0 .nil))) (.cons rfl (.agg (.cons .t0 (.cons .t0 .nil))) .nil)) rfl rfl rfl) ?_
 refine r_op oB ?_
 refine r_end ?_
 refine t_cond rfl (fun h1 => ?_) (fun h1 => ?_)
 ·
  have h1' := of_decide_eq_true h1
  refine tsr ?_
  refine r_op (oC 2) ?_
  refine r_op (oS 2) ?_
  refine r_end ?_
  refine t_ret Try.func36 (.cells (n := 2) (by kernel_rfl) (by kernel_rfl) rfl rfl rfl .nil) rfl fun E S w u hI hd => ?_
  refine post_mk hI hd ?_ trivial rfl rfl rfl <;> clear hI hd <;> (try clear ih0)
  all_goals (refine instE ?_ ?_ <;> first | rfl | exact (putF_there (by assumption)).symm)
 ·
  have h1' := of_decide_eq_false h1
  refine t_skip ?_
  refine tsr ?_
  refine r_op oA ?_
  refine r_end ?_
  refine t_seq ?_
  refine t_block ?_
  refine t_loopL (fun m => ⟨[(2, some (.c (.ptr 0 0))), (3, some (.c (.ptr 1 0))), (4, some (.c (.ptr 2 0))), (5, some (.c (.t none (.v (.int .i64 ((m : Int)))))))], [(0, some (.box [.t none (.sl 3 (enS3 encS encI encB) (rs)), .t none (.sl 2 (enS2 encI (enSl 1 encI)) (fs))])), (1, some (.box [.t none (.v (.int .i64 (r))), .t none (.sl 1 encI (ts))])), (2, some (.box [.t none (.v (.slice none 0 0)), .t none (.v (.slice none 0 0))]))], 3⟩ : Nat → St) (fun m => m ≤ fs.length ∧ ∀ j y, j < m → fs[j]? = some y → cmpF y (r, ts) < 0) (fun m => fs.length - m) 0 ⟨⟨rfl, ⟨rfl, ⟨rfl, ⟨rfl, trivial⟩⟩⟩⟩, ⟨rfl, ⟨rfl, ⟨rfl, trivial⟩⟩⟩, rfl⟩ (by exact ⟨Nat.zero_le _, fun j y h => by omega⟩) ?_
  rintro m hI ih0
  try dsimp only at hI ih0
  obtain ⟨i1, i2⟩ := hI
  refine t_seq ?_
  refine t_seq ?_
  refine t_draw (fun _ => true) (by kernel_rfl) ?_
  refine dT 0 rfl pM ?_
  refine dT 1 rfl (pF 1) ?_
  refine dT 2 rfl pL ?_
  refine dT 3 rfl (p_len rfl rfl) ?_
  refine dT 4 rfl pB ?_
  refine dT 5 rfl pM ?_
  refine dH 6 rfl (fun _ => pF 1) (fun g2 => ?_) (fun g2 => ?_)
  ·
   have g2' := of_decide_eq_true g2
   refine dH 7 rfl (fun _ => pL) (fun _ => ?_) (nc g2)
   refine dH 8 rfl (fun _ => pM) (fun _ => ?_) (nc g2)
   obtain ⟨z3, hz4, b5⟩ := at_get (xs := fs) (n := (m : Int)) (by omega) (by omega)
   refine dH 9 rfl (fun _ => p_index (by kernel_rfl) rfl rfl b5 hz4) (fun _ => ?_) (nc g2)
   refine dH 10 rfl (fun _ => p_loadA (n := 2) (by kernel_rfl) (by kernel_rfl) rfl rfl) (fun _ => ?_) (nc g2)
   refine dH 11 rfl (fun _ => pC 2) (fun _ => ?_) (nc g2)
   refine d_onlyG 12 rfl rfl (by kernel_rfl) rfl rfl rfl (fun _ => (o_call 3 3 false (Go.Proofs.enters_of Try.func26 (by kernel_rfl) rfl) (c_spec_CompareFacts (z3.1) (z3.2) (r) (ts) (by (have e1 := sz_at (f := (fun (x : Int × (List (Int))) => (x.2).length)) (l := fs) (m := m) (by assumption); (try dsimp only at e1); omega)) (by omega)) rfl (.cons rfl (.agg (.cons .t0 (.cons .t0 .nil))) (.cons rfl (.agg (.cons .t0 (.cons .t0 .nil))) .nil)) rfl rfl rfl)) (fun _ => ?_) (nc g2)
   refine dH 13 rfl (fun _ => pB) (fun _ => ?_) (nc g2)
   refine dT 14 rfl (p_pickT rfl g2 rfl) ?_
   refine d_end (by kernel_rfl) ?_
   refine t_cond rfl (fun h6 => ?_) (fun h6 => ?_)
   ·
    have h6' := of_decide_eq_true h6
    refine t_skip ?_
    refine t_block ?_
    refine t_region ?_
    refine r_op oM ?_
    refine r_op oB ?_
    refine r_op oA ?_
    refine r_end ?_
    refine t_endblock ?_
    refine t_le ?_ (ih0 (m + 1) (by (try dsimp only); omega) (by (try dsimp only); exact ⟨by omega, ltF_step i2 hz4 rfl (by assumption)⟩))
    exact ⟨⟨rfl, ⟨rfl, ⟨rfl, ⟨(eqI (wr64 (by omega) (by omega))), trivial⟩⟩⟩⟩, ⟨rfl, ⟨rfl, ⟨rfl, trivial⟩⟩⟩, rfl⟩
   ·
    have h6' := of_decide_eq_false h6
    refine t_exit rfl ?_
    refine t_seq ?_
    refine t_draw (fun i => !(Nat.beq i 7)) (by kernel_rfl) ?_
    refine dT 0 rfl (pC 2) ?_
    refine dT 3 rfl (pF 1) ?_
    refine dT 4 rfl pL ?_
    refine dT 5 rfl pM ?_
    refine dT 6 rfl (p_sub (by kernel_rfl) rfl (.l rfl (by omega) (by omega))) ?_
    refine dO 1 rfl (o_call 3 6 false (Go.Proofs.enters_of Try.func55 (by kernel_rfl) rfl) (c_spec_l5Fact (r) (ts) (by omega)) rfl (.cons rfl (.agg (.cons .t0 (.cons .t0 .nil))) .nil) rfl rfl rfl) ?_
    refine dO 2 rfl (o_litN 6 (e := 43) (sz := 2) (zs := [.int .i64 (0), .slice none 0 0]) (enc := (enS2 encI (enSl 1 encI))) [((r), (ts))] rfl rfl (by kernel_rfl) rfl rfl rfl rfl rfl rfl rfl rfl (.cons .sc (.take (.own rfl) rfl .nil)) rfl) ?_
    refine d_half 6 rfl (frz_pu rfl) ?_
    refine dO 7 rfl (o_appendR 6 (e := 43) (sz := 2) (by' := 32) rfl (by kernel_rfl) rfl rfl rfl rfl (by (simp only [List.length_append, List.length_take, List.length_drop, List.length_cons, List.length_nil]; omega)) (by (simp only [List.length_append, List.length_take, List.length_drop, List.length_cons, List.length_nil]; omega))) ?_
    refine dT 8 rfl pA ?_
    refine d_end (by kernel_rfl) ?_
    refine t_seq ?_
    refine t_draw (fun i => !(Nat.beq i 7 || Nat.beq i 9 || Nat.beq i 11)) (by kernel_rfl) ?_
    refine d_takeP 0 rfl rfl (by kernel_rfl) (by kernel_rfl) (by kernel_rfl) (pw_fieldb (off := 0) (by kernel_rfl) rfl) ?_
    refine dT 3 rfl (pF 1) ?_
    refine dT 4 rfl pL ?_
    refine dT 5 rfl pM ?_
    refine dT 6 rfl (p_sub (by kernel_rfl) rfl (.h rfl (by omega) (by omega))) ?_
    refine d_takeP 8 rfl rfl (by kernel_rfl) (by kernel_rfl) (by kernel_rfl) (pw_move rfl) ?_
    refine d_two 1 2 rfl rfl (by kernel_rfl) rfl rfl oL (o_lit0 7 (e := 43) (sz := 2) (zs := [.int .i64 (0), .slice none 0 0]) (enS2 encI (enSl 1 encI)) rfl rfl (by kernel_rfl) rfl) ?_ ?_
    ·
     refine dO 2 rfl (o_lit0 7 (e := 43) (sz := 2) (zs := [.int .i64 (0), .slice none 0 0]) (enS2 encI (enSl 1 encI)) rfl rfl (by kernel_rfl) rfl) ?_
     refine d_half 7 rfl (frz_pu rfl) ?_
     refine dO 7 rfl (o_appendR 7 (e := 43) (sz := 2) (by' := 32) rfl (by kernel_rfl) rfl rfl rfl rfl (by (simp only [List.length_append, List.length_take, List.length_drop, List.length_cons, List.length_nil]; omega)) (by (simp only [List.length_append, List.length_take, List.length_drop, List.length_cons, List.length_nil]; omega))) ?_
     refine d_freeze 6 rfl (frz_pu rfl) ?_
     refine dO 9 rfl (o_appendR 7 (e := 43) (sz := 2) (by' := 32) rfl (by kernel_rfl) rfl rfl rfl rfl (by (simp only [List.length_append, List.length_take, List.length_drop, List.length_cons, List.length_nil]; omega)) (by (simp only [List.length_append, List.length_take, List.length_drop, List.length_cons, List.length_nil]; omega))) ?_
     refine dT 10 rfl (p_build (pl := [(0, 1), (1, 1)]) (zs := [.slice none 0 0, .slice none 0 0]) (by kernel_rfl) (by kernel_rfl) rfl rfl rfl) ?_
     refine dO 11 rfl (oS 2) ?_
     refine d_end (by kernel_rfl) ?_
     refine gt_freeze 7 rfl (frz_pu rfl) ?_
     refine t_ret Try.func36 (.cells (n := 2) (by kernel_rfl) (by kernel_rfl) rfl rfl rfl .nil) rfl fun E S w u hI hd => ?_
     refine post_mk hI hd ?_ trivial rfl rfl rfl <;> clear hI hd <;> (try clear ih0)
     all_goals (refine instE ?_ ?_ <;> first | rfl | (rw [putF_new (m := m) (by assumption) i2 i1 (fun y hy => by (have e7 := Option.some.inj (hy.symm.trans hz4); subst e7; assumption))]; simp))
    ·
     refine d_half 7 rfl (frz_pu rfl) ?_
     refine d_two 1 7 rfl rfl (by kernel_rfl) rfl rfl oL (o_appendR 7 (e := 43) (sz := 2) (by' := 32) rfl (by kernel_rfl) rfl rfl rfl rfl (by (simp only [List.length_append, List.length_take, List.length_drop, List.length_cons, List.length_nil]; omega)) (by (simp only [List.length_append, List.length_take, List.length_drop, List.length_cons, List.length_nil]; omega))) ?_ ?_
     ·
      refine dO 7 rfl (o_appendR 7 (e := 43) (sz := 2) (by' := 32) rfl (by kernel_rfl) rfl rfl rfl rfl (by (simp only [List.length_append, List.length_take, List.length_drop, List.length_cons, List.length_nil]; omega)) (by (simp only [List.length_append, List.length_take, List.length_drop, List.length_cons, List.length_nil]; omega))) ?_
      refine d_freeze 6 rfl (frz_pu rfl) ?_
      refine dO 9 rfl (o_appendR 7 (e := 43) (sz := 2) (by' := 32) rfl (by kernel_rfl) rfl rfl rfl rfl (by (simp only [List.length_append, List.length_take, List.length_drop, List.length_cons, List.length_nil]; omega)) (by (simp only [List.length_append, List.length_take, List.length_drop, List.length_cons, List.length_nil]; omega))) ?_
      refine dT 10 rfl (p_build (pl := [(0, 1), (1, 1)]) (zs := [.slice none 0 0, .slice none 0 0]) (by kernel_rfl) (by kernel_rfl) rfl rfl rfl) ?_
      refine dO 11 rfl (oS 2) ?_
      refine d_end (by kernel_rfl) ?_
      refine gt_freeze 7 rfl (frz_pu rfl) ?_
      refine t_ret Try.func36 (.cells (n := 2) (by kernel_rfl) (by kernel_rfl) rfl rfl rfl .nil) rfl fun E S w u hI hd => ?_
      refine post_mk hI hd ?_ trivial rfl rfl rfl <;> clear hI hd <;> (try clear ih0)
      all_goals (refine instE ?_ ?_ <;> first | rfl | (rw [putF_new (m := m) (by assumption) i2 i1 (fun y hy => by (have e7 := Option.some.inj (hy.symm.trans hz4); subst e7; assumption))]; simp))
     ·
      refine d_freeze 6 rfl (frz_pu rfl) ?_
      refine d_two 1 9 rfl rfl (by kernel_rfl) rfl rfl oL (o_appendR 7 (e := 43) (sz := 2) (by' := 32) rfl (by kernel_rfl) rfl rfl rfl rfl (by (simp only [List.length_append, List.length_take, List.length_drop, List.length_cons, List.length_nil]; omega)) (by (simp only [List.length_append, List.length_take, List.length_drop, List.length_cons, List.length_nil]; omega))) ?_ ?_
      ·
       refine dO 9 rfl (o_appendR 7 (e := 43) (sz := 2) (by' := 32) rfl (by kernel_rfl) rfl rfl rfl rfl (by (simp only [List.length_append, List.length_take, List.length_drop, List.length_cons, List.length_nil]; omega)) (by (simp only [List.length_append, List.length_take, List.length_drop, List.length_cons, List.length_nil]; omega))) ?_
       refine dT 10 rfl (p_build (pl := [(0, 1), (1, 1)]) (zs := [.slice none 0 0, .slice none 0 0]) (by kernel_rfl) (by kernel_rfl) rfl rfl rfl) ?_
       refine dO 11 rfl (oS 2) ?_
       refine d_end (by kernel_rfl) ?_
       refine gt_freeze 7 rfl (frz_pu rfl) ?_
       refine t_ret Try.func36 (.cells (n := 2) (by kernel_rfl) (by kernel_rfl) rfl rfl rfl .nil) rfl fun E S w u hI hd => ?_
       refine post_mk hI hd ?_ trivial rfl rfl rfl <;> clear hI hd <;> (try clear ih0)
       all_goals (refine instE ?_ ?_ <;> first | rfl | (rw [putF_new (m := m) (by assumption) i2 i1 (fun y hy => by (have e7 := Option.some.inj (hy.symm.trans hz4); subst e7; assumption))]; simp))
      ·
       refine dT 1 rfl pL ?_
       refine dT 10 rfl (p_build (pl := [(0, 1), (1, 1)]) (zs := [.slice none 0 0, .slice none 0 0]) (by kernel_rfl) (by kernel_rfl) rfl rfl rfl) ?_
       refine dO 11 rfl (oS 2) ?_
       refine d_end (by kernel_rfl) ?_
       refine gt_freeze 7 rfl (frz_pu rfl) ?_
       refine t_ret Try.func36 (.cells (n := 2) (by kernel_rfl) (by kernel_rfl) rfl rfl rfl .nil) rfl fun E S w u hI hd => ?_
       refine post_mk hI hd ?_ trivial rfl rfl rfl <;> clear hI hd <;> (try clear ih0)
       all_goals (refine instE ?_ ?_ <;> first | rfl | (rw [putF_new (m := m) (by assumption) i2 i1 (fun y hy => by (have e7 := Option.some.inj (hy.symm.trans hz4); subst e7; assumption))]; simp))
  ·
   have g2' := of_decide_eq_false g2
   refine dG 7 (ncf g2) (fun _ => ?_)
   refine dG 8 (ncf g2) (fun _ => ?_)
   refine dG 9 (ncf g2) (fun _ => ?_)
   refine dG 10 (ncf g2) (fun _ => ?_)
   refine dG 11 (ncf g2) (fun _ => ?_)
   refine dG 12 (ncf g2) (fun _ => ?_)
   refine dG 13 (ncf g2) (fun _ => ?_)
   refine dT 14 rfl (p_pickF rfl g2 rfl) ?_
   refine d_end (by kernel_rfl) ?_
   refine t_cond rfl (ncf rfl) (fun _ => ?_)
   refine t_exit rfl ?_
   refine t_seq ?_
   refine t_draw (fun i => !(Nat.beq i 7)) (by kernel_rfl) ?_
   refine dT 0 rfl (pC 2) ?_
   refine dT 3 rfl (pF 1) ?_
   refine dT 4 rfl pL ?_
   refine dT 5 rfl pM ?_
   refine dT 6 rfl (p_sub (by kernel_rfl) rfl (.l rfl (by omega) (by omega))) ?_
   refine dO 1 rfl (o_call 3 6 false (Go.Proofs.enters_of Try.func55 (by kernel_rfl) rfl) (c_spec_l5Fact (r) (ts) (by omega)) rfl (.cons rfl (.agg (.cons .t0 (.cons .t0 .nil))) .nil) rfl rfl rfl) ?_
   refine dO 2 rfl (o_litN 6 (e := 43) (sz := 2) (zs := [.int .i64 (0), .slice none 0 0]) (enc := (enS2 encI (enSl 1 encI))) [((r), (ts))] rfl rfl (by kernel_rfl) rfl rfl rfl rfl rfl rfl rfl rfl (.cons .sc (.take (.own rfl) rfl .nil)) rfl) ?_
   refine d_half 6 rfl (frz_pu rfl) ?_
   refine dO 7 rfl (o_appendR 6 (e := 43) (sz := 2) (by' := 32) rfl (by kernel_rfl) rfl rfl rfl rfl (by (simp only [List.length_append, List.length_take, List.length_drop, List.length_cons, List.length_nil]; omega)) (by (simp only [List.length_append, List.length_take, List.length_drop, List.length_cons, List.length_nil]; omega))) ?_
   refine dT 8 rfl pA ?_
   refine d_end (by kernel_rfl) ?_
   refine t_seq ?_
   refine t_draw (fun i => !(Nat.beq i 7 || Nat.beq i 9 || Nat.beq i 11)) (by kernel_rfl) ?_
   refine d_takeP 0 rfl rfl (by kernel_rfl) (by kernel_rfl) (by kernel_rfl) (pw_fieldb (off := 0) (by kernel_rfl) rfl) ?_
   refine dT 3 rfl (pF 1) ?_
   refine dT 4 rfl pL ?_
   refine dT 5 rfl pM ?_
   refine dT 6 rfl (p_sub (by kernel_rfl) rfl (.h rfl (by omega) (by omega))) ?_
   refine d_takeP 8 rfl rfl (by kernel_rfl) (by kernel_rfl) (by kernel_rfl) (pw_move rfl) ?_
   refine d_two 1 2 rfl rfl (by kernel_rfl) rfl rfl oL (o_lit0 7 (e := 43) (sz := 2) (zs := [.int .i64 (0), .slice none 0 0]) (enS2 encI (enSl 1 encI)) rfl rfl (by kernel_rfl) rfl) ?_ ?_
   ·
    refine dO 2 rfl (o_lit0 7 (e := 43) (sz := 2) (zs := [.int .i64 (0), .slice none 0 0]) (enS2 encI (enSl 1 encI)) rfl rfl (by kernel_rfl) rfl) ?_
    refine d_half 7 rfl (frz_pu rfl) ?_
    refine dO 7 rfl (o_appendR 7 (e := 43) (sz := 2) (by' := 32) rfl (by kernel_rfl) rfl rfl rfl rfl (by (simp only [List.length_append, List.length_take, List.length_drop, List.length_cons, List.length_nil]; omega)) (by (simp only [List.length_append, List.length_take, List.length_drop, List.length_cons, List.length_nil]; omega))) ?_
    refine d_freeze 6 rfl (frz_pu rfl) ?_
    refine dO 9 rfl (o_appendR 7 (e := 43) (sz := 2) (by' := 32) rfl (by kernel_rfl) rfl rfl rfl rfl (by (simp only [List.length_append, List.length_take, List.length_drop, List.length_cons, List.length_nil]; omega)) (by (simp only [List.length_append, List.length_take, List.length_drop, List.length_cons, List.length_nil]; omega))) ?_
    refine dT 10 rfl (p_build (pl := [(0, 1), (1, 1)]) (zs := [.slice none 0 0, .slice none 0 0]) (by kernel_rfl) (by kernel_rfl) rfl rfl rfl) ?_
    refine dO 11 rfl (oS 2) ?_
    refine d_end (by kernel_rfl) ?_
    refine gt_freeze 7 rfl (frz_pu rfl) ?_
    refine t_ret Try.func36 (.cells (n := 2) (by kernel_rfl) (by kernel_rfl) rfl rfl rfl .nil) rfl fun E S w u hI hd => ?_
    refine post_mk hI hd ?_ trivial rfl rfl rfl <;> clear hI hd <;> (try clear ih0)
    all_goals (refine instE ?_ ?_ <;> first | rfl | (rw [putF_new (m := m) (by assumption) i2 i1 (fun y hy => by (have e7 := (List.getElem?_eq_some_iff.1 hy).1; omega))]; simp))
   ·
    refine d_half 7 rfl (frz_pu rfl) ?_
    refine d_two 1 7 rfl rfl (by kernel_rfl) rfl rfl oL (o_appendR 7 (e := 43) (sz := 2) (by' := 32) rfl (by kernel_rfl) rfl rfl rfl rfl (by (simp only [List.length_append, List.length_take, List.length_drop, List.length_cons, List.length_nil]; omega)) (by (simp only [List.length_append, List.length_take, List.length_drop, List.length_cons, List.length_nil]; omega))) ?_ ?_
    ·
     refine dO 7 rfl (o_appendR 7 (e := 43) (sz := 2) (by' := 32) rfl (by kernel_rfl) rfl rfl rfl rfl (by (simp only [List.length_append, List.length_take, List.length_drop, List.length_cons, List.length_nil]; omega)) (by (simp only [List.length_append, List.length_take, List.length_drop, List.length_cons, List.length_nil]; omega))) ?_
     refine d_freeze 6 rfl (frz_pu rfl) ?_
     refine dO 9 rfl (o_appendR 7 (e := 43) (sz := 2) (by' := 32) rfl (by kernel_rfl) rfl rfl rfl rfl (by (simp only [List.length_append, List.length_take, List.length_drop, List.length_cons, List.length_nil]; omega)) (by (simp only [List.length_append, List.length_take, List.length_drop, List.length_cons, List.length_nil]; omega))) ?_
     refine dT 10 rfl (p_build (pl := [(0, 1), (1, 1)]) (zs := [.slice none 0 0, .slice none 0 0]) (by kernel_rfl) (by kernel_rfl) rfl rfl rfl) ?_
     refine dO 11 rfl (oS 2) ?_
     refine d_end (by kernel_rfl) ?_
     refine gt_freeze 7 rfl (frz_pu rfl) ?_
     refine t_ret Try.func36 (.cells (n := 2) (by kernel_rfl) (by kernel_rfl) rfl rfl rfl .nil) rfl fun E S w u hI hd => ?_
     refine post_mk hI hd ?_ trivial rfl rfl rfl <;> clear hI hd <;> (try clear ih0)
     all_goals (refine instE ?_ ?_ <;> first | rfl | (rw [putF_new (m := m) (by assumption) i2 i1 (fun y hy => by (have e7 := (List.getElem?_eq_some_iff.1 hy).1; omega))]; simp))
    ·
     refine d_freeze 6 rfl (frz_pu rfl) ?_
     refine d_two 1 9 rfl rfl (by kernel_rfl) rfl rfl oL (o_appendR 7 (e := 43) (sz := 2) (by' := 32) rfl (by kernel_rfl) rfl rfl rfl rfl (by (simp only [List.length_append, List.length_take, List.length_drop, List.length_cons, List.length_nil]; omega)) (by (simp only [List.length_append, List.length_take, List.length_drop, List.length_cons, List.length_nil]; omega))) ?_ ?_
     ·
      refine dO 9 rfl (o_appendR 7 (e := 43) (sz := 2) (by' := 32) rfl (by kernel_rfl) rfl rfl rfl rfl (by (simp only [List.length_append, List.length_take, List.length_drop, List.length_cons, List.length_nil]; omega)) (by (simp only [List.length_append, List.length_take, List.length_drop, List.length_cons, List.length_nil]; omega))) ?_
      refine dT 10 rfl (p_build (pl := [(0, 1), (1, 1)]) (zs := [.slice none 0 0, .slice none 0 0]) (by kernel_rfl) (by kernel_rfl) rfl rfl rfl) ?_
      refine dO 11 rfl (oS 2) ?_
      refine d_end (by kernel_rfl) ?_
      refine gt_freeze 7 rfl (frz_pu rfl) ?_
      refine t_ret Try.func36 (.cells (n := 2) (by kernel_rfl) (by kernel_rfl) rfl rfl rfl .nil) rfl fun E S w u hI hd => ?_
      refine post_mk hI hd ?_ trivial rfl rfl rfl <;> clear hI hd <;> (try clear ih0)
      all_goals (refine instE ?_ ?_ <;> first | rfl | (rw [putF_new (m := m) (by assumption) i2 i1 (fun y hy => by (have e7 := (List.getElem?_eq_some_iff.1 hy).1; omega))]; simp))
     ·
      refine dT 1 rfl pL ?_
      refine dT 10 rfl (p_build (pl := [(0, 1), (1, 1)]) (zs := [.slice none 0 0, .slice none 0 0]) (by kernel_rfl) (by kernel_rfl) rfl rfl rfl) ?_
      refine dO 11 rfl (oS 2) ?_
      refine d_end (by kernel_rfl) ?_
      refine gt_freeze 7 rfl (frz_pu rfl) ?_
      refine t_ret Try.func36 (.cells (n := 2) (by kernel_rfl) (by kernel_rfl) rfl rfl rfl .nil) rfl fun E S w u hI hd => ?_
      refine post_mk hI hd ?_ trivial rfl rfl rfl <;> clear hI hd <;> (try clear ih0)
      all_goals (refine instE ?_ ?_ <;> first | rfl | (rw [putF_new (m := m) (by assumption) i2 i1 (fun y hy => by (have e7 := (List.getElem?_eq_some_iff.1 hy).1; omega))]; simp))
set_option maxHeartbeats 1000000 in
set_option maxRecDepth 10000 in
theorem c_spec_l5Copy (rs : Rels) (fs : Atoms) (hrs : rs.length ≤ 1048576) (hfs : szS (fun (x : Int × (List (Int))) => (x.2).length) fs ≤ 1048576) : Pu Try.prog 28 [.agg [.t none (.sl 3 (enS3 encS encI encB) (rs)), .t none (.sl 2 (enS2 encI (enSl 1 encI)) (fs))]] [(2, some (.row none 45 true 3 (enS3 encS encI encB) (rs))), (4, some (.row none 43 true 2 (enS2 encI (enSl 1 encI)) (fs)))] 5 (.agg [.own 2, .own 4]) := by
 refine pu_enter Try.func28 rfl (Nat.le_of_ble_eq_true rfl) fun w S => ?_
 have gl := sz_len (f := (fun (x : Int × (List (Int))) => (x.2).length)) (l := fs)
 refine tsr ?_
 refine r_op (o_box 0 rfl rfl rfl rfl) ?_
 refine r_op (o_alloc 1 (zs := [.slice none 0 0, .slice none 0 0]) rfl rfl (by kernel_rfl) rfl) ?_
 refine etr ?_
 refine r_op (o_lit0 2 (e := 45) (sz := 3) (zs := [.string (mkS ([])), .int .i64 (0), .bool (false)]) (enS3 encS encI encB) rfl rfl (by kernel_rfl) rfl) ?_
 refine r_op (oF 0) ?_
 refine r_op oL ?_
 refine r_op (o_appendS 2 (e := 45) (sz := 3) (by' := 32) rfl (by kernel_rfl) rfl rfl rfl rfl (fun _ j => by rcases j with _ | _ | j <;> exact ⟨_, rfl⟩) (by (simp; omega)) (by (simp; omega))) ?_
 refine r_op (o_build rfl (pl := [(0, 1), (1, 1)]) (zs := [.slice none 0 0, .slice none 0 0]) (by kernel_rfl) (by kernel_rfl) rfl rfl rfl) ?_
 refine r_op (o_alloc 3 (zs := [.slice none 0 0, .slice none 0 0]) rfl rfl (by kernel_rfl) rfl) ?_
 refine r_op (oS 2) ?_
 refine r_end ?_
 refine t_seq ?_
 refine tsr ?_
 refine r_op oA ?_
 refine r_end ?_
 refine t_block ?_
 refine gt_nilb 4 (b := 3) (o := 1) (et := 43) (sz := 2) true (enS2 encI (enSl 1 encI)) rfl rfl rfl ?_
 refine t_loopL (fun m => ⟨[(1, some (.c (.ptr 0 0))), (2, some (.c (.ptr 1 0))), (3, some (.c (.ptr 3 0))), (4, some (.c (.t none (.v (.int .i64 ((m : Int)))))))], [(0, some (.box [.t none (.sl 3 (enS3 encS encI encB) (rs)), .t none (.sl 2 (enS2 encI (enSl 1 encI)) (fs))])), (1, some (.box [.t none (.v (.slice none 0 0)), .t none (.v (.slice none 0 0))])), (2, some (.row none 45 true 3 (enS3 encS encI encB) ([] ++ rs))), (3, some (.box [.own 2, .own 4])), (4, some (.row none 43 true 2 (enS2 encI (enSl 1 encI)) (fs.take m)))], 5⟩ : Nat → St) (fun m => m ≤ fs.length) (fun m => fs.length - m) 0 ⟨⟨rfl, ⟨rfl, ⟨rfl, ⟨rfl, trivial⟩⟩⟩⟩, ⟨rfl, ⟨rfl, ⟨rfl, ⟨rfl, ⟨rfl, trivial⟩⟩⟩⟩⟩, rfl⟩ (by exact Nat.zero_le _) ?_
 rintro m hI ih0
 try dsimp only at hI ih0
 have i1 := hI
 refine t_seq ?_
 refine tsr ?_
 refine r_op oM ?_
 refine r_op (oF 1) ?_
 refine r_op oL ?_
 refine r_op (o_len rfl rfl rfl) ?_
 refine r_op oB ?_
 refine r_end ?_
 refine t_cond rfl (fun h1 => ?_) (fun h1 => ?_)
 ·
  have h1' := of_decide_eq_true h1
  refine t_skip ?_
  refine t_seq ?_
  refine t_block ?_
  refine t_draw (fun i => !(Nat.beq i 9 || Nat.beq i 11)) (by kernel_rfl) ?_
  refine dT 0 rfl (pF 1) ?_
  refine dT 1 rfl pL ?_
  refine dT 2 rfl (pF 1) ?_
  refine dT 3 rfl pL ?_
  refine dT 4 rfl pM ?_
  obtain ⟨z2, hz3, b4⟩ := at_get (xs := fs) (n := (m : Int)) (by omega) (by omega)
  refine dT 5 rfl (p_index (by kernel_rfl) rfl rfl b4 hz3) ?_
  refine dT 6 rfl (p_loadA (n := 2) (by kernel_rfl) (by kernel_rfl) rfl rfl) ?_
  refine dO 7 rfl (o_call 5 8 false (Go.Proofs.enters_of Try.func55 (by kernel_rfl) rfl) (c_spec_l5Fact (z2.1) (z2.2) (by (have e1 := sz_at (f := (fun (x : Int × (List (Int))) => (x.2).length)) (l := fs) (m := m) (by assumption); (try dsimp only at e1); omega))) rfl (.cons rfl (.agg (.cons .t0 (.cons .t0 .nil))) .nil) rfl rfl rfl) ?_
  refine dO 8 rfl (o_litS 8 (e := 43) (sz := 2) (zs := [.int .i64 (0), .slice none 0 0]) rfl rfl (by kernel_rfl) rfl rfl rfl rfl rfl) ?_
  refine dO 9 rfl (o_append 4 (e := 43) (sz := 2) (by' := 32) (((z2.1), (z2.2))) rfl (by kernel_rfl) rfl rfl rfl rfl rfl rfl (.cons .sc (.take (.own rfl) rfl .nil)) rfl (by (simp; omega)) (by (simp; omega))) ?_
  refine dT 10 rfl (pF 1) ?_
  refine dO 11 rfl (oS 1) ?_
  refine d_end (by kernel_rfl) ?_
  refine t_endblock ?_
  refine t_region ?_
  refine r_op oM ?_
  refine r_op oB ?_
  refine r_op oA ?_
  refine r_end ?_
  refine t_le ?_ (ih0 (m + 1) (by (try dsimp only); omega) (by (try dsimp only); omega))
  exact ⟨⟨rfl, ⟨rfl, ⟨rfl, ⟨(eqI (wr64 (by omega) (by omega))), trivial⟩⟩⟩⟩, ⟨rfl, ⟨rfl, ⟨rfl, ⟨rfl, ⟨(eqR (take_snoc hz3)), trivial⟩⟩⟩⟩⟩, rfl⟩
 ·
  have h1' := of_decide_eq_false h1
  refine t_exit rfl ?_
  refine tsr ?_
  refine r_op (oC 2) ?_
  refine r_op (oS 2) ?_
  refine r_end ?_
  refine t_ret Try.func28 (.cells (n := 2) (by kernel_rfl) (by kernel_rfl) rfl rfl rfl .nil) rfl fun E S w u hI hd => ?_
  refine post_mk hI hd ?_ ⟨eqR ?_, ⟨eqR ?_, trivial⟩⟩ rfl rfl rfl <;> clear hI hd <;> (try clear ih0)
  all_goals first | rfl | ((rw [List.take_of_length_le (by omega)]))
set_option maxHeartbeats 1000000 in
set_option maxRecDepth 10000 in
theorem c_spec_l5Target (code : List Int) (i h most n : Int) (hc : code.length ≤ 1048576) (hi0 : 0 ≤ i) (hi1 : i ≤ code.length) (hm : 0 ≤ most ∧ most ≤ 5) (hn : 0 ≤ n ∧ n ≤ 256) : MuG Try.prog 34 [.c (.ptr 0 0), .c (.t none (.v (.int .i64 (most)))), .c (.t none (.v (.int .i64 (n))))] [.t none (.sl 1 encU (code)), .t none (.v (.int .i64 (i))), .t none (.v (.int .i64 (h)))] (fun (⟨fs, i2, h2⟩ : Atoms × Int × Int) => fs.length ≤ 5 ∧ (∀ a ∈ fs, factL a) ∧ 0 ≤ i2 ∧ i2 ≤ code.length) (fun (⟨fs, i2, h2⟩ : Atoms × Int × Int) => [.t none (.sl 1 encU (code)), .t none (.v (.int .i64 (i2))), .t none (.v (.int .i64 (h2)))]) (fun (⟨fs, i2, h2⟩ : Atoms × Int × Int) => [(3, some (.row none 45 true 3 (enS3 encS encI encB) (sigs5))), (4, some (.row none 43 true 2 (enS2 encI (enSl 1 encI)) (fs)))]) 5 (fun (⟨fs, i2, h2⟩ : Atoms × Int × Int) => .agg [.own 3, .own 4]) := by
 refine mu_enterG Try.func34 rfl (Nat.le_of_ble_eq_true rfl) fun v0 w S M hM => ?_
 refine tsr ?_
 refine r_op (o_alloc 1 (zs := [.slice none 0 0, .slice none 0 0]) rfl rfl (by kernel_rfl) rfl) ?_
 refine etr ?_
 refine r_op (o_call 2 3 false (Go.Proofs.enters_of Try.func58 (by kernel_rfl) rfl) (c_spec_l3Sigs ) rfl .nil rfl rfl rfl) ?_
 refine r_op (o_build rfl (pl := [(0, 1), (1, 1)]) (zs := [.slice none 0 0, .slice none 0 0]) (by kernel_rfl) (by kernel_rfl) rfl rfl rfl) ?_
 refine r_op (o_alloc 3 (zs := [.slice none 0 0, .slice none 0 0]) rfl rfl (by kernel_rfl) rfl) ?_
 refine r_op (oS 2) ?_
 refine r_end ?_
 refine t_seq ?_
 refine tsr ?_
 refine r_op oM ?_
 refine r_op oM ?_
 refine r_op oB ?_
 refine r_opX (o_callGM 0 4 5 (pv := some (v0)) (Go.Proofs.enters_of Try.func37 (by kernel_rfl) rfl) (c_spec_l1Below (code) (i) (h) (IntKind.i64.wrap (most + 1)) (by omega) (by omega) (by omega) (by (simp only [IntKind.wrap_i64] at *; omega)) (by (simp only [IntKind.wrap_i64] at *; omega))) rfl rfl (.cur rfl (.cons rfl .nil)) rfl (fun ⟨_, _, _⟩ => rfl) (fun _ => rfl) (fun ⟨_, _, _⟩ => rfl) rfl rfl) ?_
 rintro ⟨⟨x1, i22, h23⟩, hq4⟩
 try dsimp only at hq4
 try dsimp only
 obtain ⟨q5, q6⟩ := hq4
 refine r_op oA ?_
 refine r_end ?_
 refine t_block ?_
 refine gt_freeze 2 rfl (frz_cur (i := 2) hM rfl rfl rfl) ?_
 refine gt_nilB 3 1 (sz := 2) (enS2 encI (enSl 1 encI)) rfl rfl ?_
 refine t_loopL (fun (kk, fs, i3, h3) => ⟨[(0, some (.c (.ptr 0 0))), (2, some (.c (.t none (.v (.int .i64 (n)))))), (6, some (.c (.ptr 1 0))), (7, some (.c (.ptr 3 0))), (8, some (.c (.t none (.v (.int .i64 (kk))))))], [(0, some (.pbox (v0) [.t none (.sl 1 encU (code)), .t none (.v (.int .i64 (i3))), .t none (.v (.int .i64 (h3)))])), (1, some (.box [.t none (.v (.slice none 0 0)), .t none (.v (.slice none 0 0))])), (3, some (.box [.t none (.sl 3 (enS3 encS encI encB) (sigs5)), .t none (.sl 2 (enS2 encI (enSl 1 encI)) (fs))]))], 5⟩ : Int × Atoms × Int × Int → St) (fun (kk, fs, i3, h3) => (0 ≤ kk ∧ kk ≤ 5) ∧ ((fs.length : Int) + kk ≤ 5) ∧ (fs.length ≤ 5) ∧ (∀ a ∈ fs, factL a) ∧ (0 ≤ i3 ∧ i3 ≤ code.length)) (fun (kk, fs, i3, h3) => kk.toNat) ((x1), [], (i22), (h23)) ⟨⟨rfl, ⟨rfl, ⟨rfl, ⟨rfl, ⟨rfl, trivial⟩⟩⟩⟩⟩, ⟨rfl, ⟨rfl, ⟨rfl, trivial⟩⟩⟩, rfl⟩ (by exact ⟨(by (try dsimp only); ((try simp only [IntKind.wrap_i64] at *); omega)), (by (try dsimp only); (try simp only [List.length_nil]); ((try simp only [IntKind.wrap_i64] at *); omega)), (by simp), (fun a ha => by simp at ha), (by (try dsimp only); omega)⟩) ?_
 rintro ⟨kk, fs, i3, h3⟩ hI ih0
 try dsimp only at hI ih0
 obtain ⟨b1, b2, b3, b4, b5⟩ := hI
 refine t_seq ?_
 refine tsr ?_
 refine r_op oM ?_
 refine r_op oB ?_
 refine r_end ?_
 refine t_cond rfl (fun h7 => ?_) (fun h7 => ?_)
 ·
  have h7' := of_decide_eq_true h7
  refine t_skip ?_
  refine t_seq ?_
  refine t_block ?_
  refine t_draw (fun i => !(Nat.beq i 3 || Nat.beq i 6 || Nat.beq i 8)) (by kernel_rfl) ?_
  refine d_takeP 1 rfl rfl (by kernel_rfl) (by kernel_rfl) (by kernel_rfl) (pw_move rfl) ?_
  refine dT 2 rfl pM ?_
  refine d_takeP 5 rfl rfl (by kernel_rfl) (by kernel_rfl) (by kernel_rfl) (pw_move rfl) ?_
  refine d_twoX 0 3 rfl rfl (by kernel_rfl) rfl rfl (osX (oC 2)) (o_callGM 0 5 6 (pv := some (v0)) (Go.Proofs.enters_of Try.func37 (by kernel_rfl) rfl) (c_spec_l1Below (code) (i3) (h3) (3) (by omega) (by omega) (by omega) (by omega) (by omega)) rfl rfl (.cur rfl (.cons rfl .nil)) rfl (fun ⟨_, _, _⟩ => rfl) (fun _ => rfl) (fun ⟨_, _, _⟩ => rfl) rfl rfl) ?_ ?_
  ·
   rintro ⟨⟩
   refine dOX 3 rfl (o_callGM 0 5 6 (pv := some (v0)) (Go.Proofs.enters_of Try.func37 (by kernel_rfl) rfl) (c_spec_l1Below (code) (i3) (h3) (3) (by omega) (by omega) (by omega) (by omega) (by omega)) rfl rfl (.cur rfl (.cons rfl .nil)) rfl (fun ⟨_, _, _⟩ => rfl) (fun _ => rfl) (fun ⟨_, _, _⟩ => rfl) rfl rfl) ?_
   rintro ⟨⟨x14, i215, h216⟩, hq17⟩
   try dsimp only at hq17
   try dsimp only
   obtain ⟨q18, q19⟩ := hq17
   refine dT 4 rfl pB ?_
   refine dOX 6 rfl (o_callGM 0 6 11 (pv := some (v0)) (Go.Proofs.enters_of Try.func59 (by kernel_rfl) rfl) (c_spec_l4Fact ((code)) ((i215)) ((h216)) (IntKind.i64.wrap (2 + (x14))) (n) (by omega) (by omega) (by omega) (by (simp only [IntKind.wrap_i64] at *; omega)) (by omega)) rfl rfl (.cur rfl (.cons rfl (.cons rfl .nil))) rfl (fun ⟨_, _, _⟩ => rfl) (fun _ => rfl) (fun ⟨_, _, _⟩ => rfl) rfl rfl) ?_
   rintro ⟨⟨ts20, i221, h222⟩, hq23⟩
   try dsimp only at hq23
   try dsimp only
   obtain ⟨q24, q25, q26⟩ := hq23
   have t1 : 1 ≤ ts20.length ∧ ts20.length ≤ 2 := (by assumption); have t2 : ∀ x ∈ ts20, -256 ≤ x ∧ x ≤ 2 := (by assumption); have t3 : ∀ x ∈ ts20, -256 ≤ x ∧ x ≤ 256 := fun x hx => by have := t2 x hx; omega
   refine d_freeze 10 rfl (frz_cur (i := 10) hM rfl rfl rfl) ?_
   refine dO 7 rfl (o_call 11 11 true (Go.Proofs.enters_of Try.func36 (by kernel_rfl) rfl) (c_spec_l5Put (sigs5) (fs) ((IntKind.i64.wrap (2 + (x14)))) ((ts20)) (by (have e7 := szF_L b4; omega)) (by omega)) rfl (.cons rfl (.agg (.cons .t0 (.cons .t0 .nil))) (.cons rfl (.agg (.cons .t0 (.cons .t0 .nil))) .nil)) rfl rfl rfl) ?_
   refine dO 8 rfl (oS 2) ?_
   refine d_end (by kernel_rfl) ?_
   refine t_endblock ?_
   refine t_region ?_
   refine r_op oM ?_
   refine r_op oB ?_
   refine r_op oA ?_
   refine r_end ?_
   refine t_le ?_ (ih0 (IntKind.i64.wrap (kk - 1), putF (fs) (((IntKind.i64.wrap (2 + (x14)))), ((ts20))), (i221), (h222)) (by (try dsimp only); ((try simp only [IntKind.wrap_i64] at *); omega)) (by (try dsimp only); exact ⟨(by ((try simp only [IntKind.wrap_i64] at *); omega)), putF_kk b2 (by ((try simp only [IntKind.wrap_i64] at *); omega)), putF_5 b2 (by omega), putF_all b4 ⟨by (try dsimp only); ((try simp only [IntKind.wrap_i64] at *); omega), by (try dsimp only); omega, t3⟩, by omega⟩))
   exact ⟨⟨rfl, ⟨rfl, ⟨rfl, ⟨rfl, ⟨rfl, trivial⟩⟩⟩⟩⟩, ⟨rfl, ⟨rfl, ⟨rfl, trivial⟩⟩⟩, rfl⟩
  ·
   rintro ⟨⟨x8, i29, h210⟩, hq11⟩
   try dsimp only at hq11
   try dsimp only
   obtain ⟨q12, q13⟩ := hq11
   refine dT 4 rfl pB ?_
   refine d_twoX 0 6 rfl rfl (by kernel_rfl) rfl rfl (osX (oC 2)) (o_callGM 0 6 11 (pv := some (v0)) (Go.Proofs.enters_of Try.func59 (by kernel_rfl) rfl) (c_spec_l4Fact ((code)) ((i29)) ((h210)) (IntKind.i64.wrap (2 + (x8))) (n) (by omega) (by omega) (by omega) (by (simp only [IntKind.wrap_i64] at *; omega)) (by omega)) rfl rfl (.cur rfl (.cons rfl (.cons rfl .nil))) rfl (fun ⟨_, _, _⟩ => rfl) (fun _ => rfl) (fun ⟨_, _, _⟩ => rfl) rfl rfl) ?_ ?_
   ·
    rintro ⟨⟩
    refine dOX 6 rfl (o_callGM 0 6 11 (pv := some (v0)) (Go.Proofs.enters_of Try.func59 (by kernel_rfl) rfl) (c_spec_l4Fact ((code)) ((i29)) ((h210)) (IntKind.i64.wrap (2 + (x8))) (n) (by omega) (by omega) (by omega) (by (simp only [IntKind.wrap_i64] at *; omega)) (by omega)) rfl rfl (.cur rfl (.cons rfl (.cons rfl .nil))) rfl (fun ⟨_, _, _⟩ => rfl) (fun _ => rfl) (fun ⟨_, _, _⟩ => rfl) rfl rfl) ?_
    rintro ⟨⟨ts34, i235, h236⟩, hq37⟩
    try dsimp only at hq37
    try dsimp only
    obtain ⟨q38, q39, q40⟩ := hq37
    have t1 : 1 ≤ ts34.length ∧ ts34.length ≤ 2 := (by assumption); have t2 : ∀ x ∈ ts34, -256 ≤ x ∧ x ≤ 2 := (by assumption); have t3 : ∀ x ∈ ts34, -256 ≤ x ∧ x ≤ 256 := fun x hx => by have := t2 x hx; omega
    refine d_freeze 10 rfl (frz_cur (i := 10) hM rfl rfl rfl) ?_
    refine dO 7 rfl (o_call 11 11 true (Go.Proofs.enters_of Try.func36 (by kernel_rfl) rfl) (c_spec_l5Put (sigs5) (fs) ((IntKind.i64.wrap (2 + (x8)))) ((ts34)) (by (have e7 := szF_L b4; omega)) (by omega)) rfl (.cons rfl (.agg (.cons .t0 (.cons .t0 .nil))) (.cons rfl (.agg (.cons .t0 (.cons .t0 .nil))) .nil)) rfl rfl rfl) ?_
    refine dO 8 rfl (oS 2) ?_
    refine d_end (by kernel_rfl) ?_
    refine t_endblock ?_
    refine t_region ?_
    refine r_op oM ?_
    refine r_op oB ?_
    refine r_op oA ?_
    refine r_end ?_
    refine t_le ?_ (ih0 (IntKind.i64.wrap (kk - 1), putF (fs) (((IntKind.i64.wrap (2 + (x8)))), ((ts34))), (i235), (h236)) (by (try dsimp only); ((try simp only [IntKind.wrap_i64] at *); omega)) (by (try dsimp only); exact ⟨(by ((try simp only [IntKind.wrap_i64] at *); omega)), putF_kk b2 (by ((try simp only [IntKind.wrap_i64] at *); omega)), putF_5 b2 (by omega), putF_all b4 ⟨by (try dsimp only); ((try simp only [IntKind.wrap_i64] at *); omega), by (try dsimp only); omega, t3⟩, by omega⟩))
    exact ⟨⟨rfl, ⟨rfl, ⟨rfl, ⟨rfl, ⟨rfl, trivial⟩⟩⟩⟩⟩, ⟨rfl, ⟨rfl, ⟨rfl, trivial⟩⟩⟩, rfl⟩
   ·
    rintro ⟨⟨ts27, i228, h229⟩, hq30⟩
    try dsimp only at hq30
    try dsimp only
    obtain ⟨q31, q32, q33⟩ := hq30
    have t1 : 1 ≤ ts27.length ∧ ts27.length ≤ 2 := (by assumption); have t2 : ∀ x ∈ ts27, -256 ≤ x ∧ x ≤ 2 := (by assumption); have t3 : ∀ x ∈ ts27, -256 ≤ x ∧ x ≤ 256 := fun x hx => by have := t2 x hx; omega
    refine dT 0 rfl (pC 2) ?_
    refine d_freeze 10 rfl (frz_cur (i := 10) hM rfl rfl rfl) ?_
    refine dO 7 rfl (o_call 11 11 true (Go.Proofs.enters_of Try.func36 (by kernel_rfl) rfl) (c_spec_l5Put (sigs5) (fs) ((IntKind.i64.wrap (2 + (x8)))) ((ts27)) (by (have e7 := szF_L b4; omega)) (by omega)) rfl (.cons rfl (.agg (.cons .t0 (.cons .t0 .nil))) (.cons rfl (.agg (.cons .t0 (.cons .t0 .nil))) .nil)) rfl rfl rfl) ?_
    refine dO 8 rfl (oS 2) ?_
    refine d_end (by kernel_rfl) ?_
    refine t_endblock ?_
    refine t_region ?_
    refine r_op oM ?_
    refine r_op oB ?_
    refine r_op oA ?_
    refine r_end ?_
    refine t_le ?_ (ih0 (IntKind.i64.wrap (kk - 1), putF (fs) (((IntKind.i64.wrap (2 + (x8)))), ((ts27))), (i228), (h229)) (by (try dsimp only); ((try simp only [IntKind.wrap_i64] at *); omega)) (by (try dsimp only); exact ⟨(by ((try simp only [IntKind.wrap_i64] at *); omega)), putF_kk b2 (by ((try simp only [IntKind.wrap_i64] at *); omega)), putF_5 b2 (by omega), putF_all b4 ⟨by (try dsimp only); ((try simp only [IntKind.wrap_i64] at *); omega), by (try dsimp only); omega, t3⟩, by omega⟩))
    exact ⟨⟨rfl, ⟨rfl, ⟨rfl, ⟨rfl, ⟨rfl, trivial⟩⟩⟩⟩⟩, ⟨rfl, ⟨rfl, ⟨rfl, trivial⟩⟩⟩, rfl⟩
 ·
  have h7' := of_decide_eq_false h7
  refine t_exit rfl ?_
  refine tsr ?_
  refine r_op (oC 2) ?_
  refine r_op (o_call 5 10 false (Go.Proofs.enters_of Try.func28 (by kernel_rfl) rfl) (c_spec_l5Copy (sigs5) (fs) (by (rw [sigs5_len]; omega)) (by (have e7 := szF_L b4; omega))) rfl (.cons rfl (.agg (.cons .t0 (.cons .t0 .nil))) .nil) rfl rfl rfl) ?_
  refine r_op (oS 2) ?_
  refine r_end ?_
  refine gt_mv 3 7 rfl rfl rfl ?_
  refine gt_mv 4 9 rfl rfl rfl ?_
  refine t_ret Try.func34 (.cells (n := 2) (by kernel_rfl) (by kernel_rfl) rfl rfl rfl .nil) rfl fun E S w u hI hd => ?_
  refine post_mkG (⟨(fs), i3, h3⟩) ?_ hI hd ?_ ⟨rfl, ⟨rfl, ⟨rfl, trivial⟩⟩⟩ rfl rfl <;> clear hI hd <;> (try clear ih0)
  · (try dsimp only) <;> (exact ⟨by omega, b4, by omega⟩)
  · rfl
set_option maxHeartbeats 1000000 in
set_option maxRecDepth 10000 in
theorem c_spec_l5Source (code : List Int) (i h most : Int) (hc : code.length ≤ 1048576) (hi0 : 0 ≤ i) (hi1 : i ≤ code.length) (hm : 0 ≤ most ∧ most ≤ 5) : MuG Try.prog 35 [.c (.ptr 0 0), .c (.t none (.v (.int .i64 (most))))] [.t none (.sl 1 encU (code)), .t none (.v (.int .i64 (i))), .t none (.v (.int .i64 (h)))] (fun (⟨fs, i2, h2⟩ : Atoms × Int × Int) => fs.length ≤ 5 ∧ (∀ a ∈ fs, factL a) ∧ 0 ≤ i2 ∧ i2 ≤ code.length) (fun (⟨fs, i2, h2⟩ : Atoms × Int × Int) => [.t none (.sl 1 encU (code)), .t none (.v (.int .i64 (i2))), .t none (.v (.int .i64 (h2)))]) (fun (⟨fs, i2, h2⟩ : Atoms × Int × Int) => [(3, some (.row none 45 true 3 (enS3 encS encI encB) (sigs5))), (4, some (.row none 43 true 2 (enS2 encI (enSl 1 encI)) (fs)))]) 5 (fun (⟨fs, i2, h2⟩ : Atoms × Int × Int) => .agg [.own 3, .own 4]) := by
 refine mu_enterG Try.func35 rfl (Nat.le_of_ble_eq_true rfl) fun v0 w S M hM => ?_
 refine tsr ?_
 refine r_op (o_alloc 1 (zs := [.slice none 0 0, .slice none 0 0]) rfl rfl (by kernel_rfl) rfl) ?_
 refine etr ?_
 refine r_op (o_call 2 3 false (Go.Proofs.enters_of Try.func58 (by kernel_rfl) rfl) (c_spec_l3Sigs ) rfl .nil rfl rfl rfl) ?_
 refine r_op (o_build rfl (pl := [(0, 1), (1, 1)]) (zs := [.slice none 0 0, .slice none 0 0]) (by kernel_rfl) (by kernel_rfl) rfl rfl rfl) ?_
 refine r_op (o_alloc 3 (zs := [.slice none 0 0, .slice none 0 0]) rfl rfl (by kernel_rfl) rfl) ?_
 refine r_op (oS 2) ?_
 refine r_end ?_
 refine t_seq ?_
 refine tsr ?_
 refine r_op oM ?_
 refine r_op oM ?_
 refine r_op oB ?_
 refine r_opX (o_callGM 0 4 5 (pv := some (v0)) (Go.Proofs.enters_of Try.func37 (by kernel_rfl) rfl) (c_spec_l1Below (code) (i) (h) (IntKind.i64.wrap (most + 1)) (by omega) (by omega) (by omega) (by (simp only [IntKind.wrap_i64] at *; omega)) (by (simp only [IntKind.wrap_i64] at *; omega))) rfl rfl (.cur rfl (.cons rfl .nil)) rfl (fun ⟨_, _, _⟩ => rfl) (fun _ => rfl) (fun ⟨_, _, _⟩ => rfl) rfl rfl) ?_
 rintro ⟨⟨x1, i22, h23⟩, hq4⟩
 try dsimp only at hq4
 try dsimp only
 obtain ⟨q5, q6⟩ := hq4
 refine r_op oA ?_
 refine r_end ?_
 refine t_block ?_
 refine gt_freeze 2 rfl (frz_cur (i := 2) hM rfl rfl rfl) ?_
 refine gt_nilB 3 1 (sz := 2) (enS2 encI (enSl 1 encI)) rfl rfl ?_
 refine t_loopL (fun (kk, fs, i3, h3) => ⟨[(0, some (.c (.ptr 0 0))), (4, some (.c (.ptr 1 0))), (5, some (.c (.ptr 3 0))), (6, some (.c (.t none (.v (.int .i64 (kk))))))], [(0, some (.pbox (v0) [.t none (.sl 1 encU (code)), .t none (.v (.int .i64 (i3))), .t none (.v (.int .i64 (h3)))])), (1, some (.box [.t none (.v (.slice none 0 0)), .t none (.v (.slice none 0 0))])), (3, some (.box [.t none (.sl 3 (enS3 encS encI encB) (sigs5)), .t none (.sl 2 (enS2 encI (enSl 1 encI)) (fs))]))], 5⟩ : Int × Atoms × Int × Int → St) (fun (kk, fs, i3, h3) => (0 ≤ kk ∧ kk ≤ 5) ∧ ((fs.length : Int) + kk ≤ 5) ∧ (fs.length ≤ 5) ∧ (∀ a ∈ fs, factL a) ∧ (0 ≤ i3 ∧ i3 ≤ code.length)) (fun (kk, fs, i3, h3) => kk.toNat) ((x1), [], (i22), (h23)) ⟨⟨rfl, ⟨rfl, ⟨rfl, ⟨rfl, trivial⟩⟩⟩⟩, ⟨rfl, ⟨rfl, ⟨rfl, trivial⟩⟩⟩, rfl⟩ (by exact ⟨(by (try dsimp only); ((try simp only [IntKind.wrap_i64] at *); omega)), (by (try dsimp only); (try simp only [List.length_nil]); ((try simp only [IntKind.wrap_i64] at *); omega)), (by simp), (fun a ha => by simp at ha), (by (try dsimp only); omega)⟩) ?_
 rintro ⟨kk, fs, i3, h3⟩ hI ih0
 try dsimp only at hI ih0
 obtain ⟨b1, b2, b3, b4, b5⟩ := hI
 refine t_seq ?_
 refine tsr ?_
 refine r_op oM ?_
 refine r_op oB ?_
 refine r_end ?_
 refine t_cond rfl (fun h7 => ?_) (fun h7 => ?_)
 ·
  have h7' := of_decide_eq_true h7
  refine t_skip ?_
  refine t_seq ?_
  refine t_block ?_
  refine t_draw (fun i => !(Nat.beq i 3 || Nat.beq i 4 || Nat.beq i 6)) (by kernel_rfl) ?_
  refine d_takeP 1 rfl rfl (by kernel_rfl) (by kernel_rfl) (by kernel_rfl) (pw_move rfl) ?_
  refine dT 2 rfl pM ?_
  refine d_twoX 0 3 rfl rfl (by kernel_rfl) rfl rfl (osX (oC 2)) (o_callGM 0 5 6 (pv := some (v0)) (Go.Proofs.enters_of Try.func37 (by kernel_rfl) rfl) (c_spec_l1Below (code) (i3) (h3) (2) (by omega) (by omega) (by omega) (by omega) (by omega)) rfl rfl (.cur rfl (.cons rfl .nil)) rfl (fun ⟨_, _, _⟩ => rfl) (fun _ => rfl) (fun ⟨_, _, _⟩ => rfl) rfl rfl) ?_ ?_
  ·
   rintro ⟨⟩
   refine dOX 3 rfl (o_callGM 0 5 6 (pv := some (v0)) (Go.Proofs.enters_of Try.func37 (by kernel_rfl) rfl) (c_spec_l1Below (code) (i3) (h3) (2) (by omega) (by omega) (by omega) (by omega) (by omega)) rfl rfl (.cur rfl (.cons rfl .nil)) rfl (fun ⟨_, _, _⟩ => rfl) (fun _ => rfl) (fun ⟨_, _, _⟩ => rfl) rfl rfl) ?_
   rintro ⟨⟨x14, i215, h216⟩, hq17⟩
   try dsimp only at hq17
   try dsimp only
   obtain ⟨q18, q19⟩ := hq17
   refine dOX 4 rfl (o_callGM 0 6 11 (pv := some (v0)) (Go.Proofs.enters_of Try.func59 (by kernel_rfl) rfl) (c_spec_l4Fact ((code)) ((i215)) ((h216)) ((x14)) (0) (by omega) (by omega) (by omega) (by omega) (by omega)) rfl rfl (.cur rfl (.cons rfl (.cons rfl .nil))) rfl (fun ⟨_, _, _⟩ => rfl) (fun _ => rfl) (fun ⟨_, _, _⟩ => rfl) rfl rfl) ?_
   rintro ⟨⟨ts20, i221, h222⟩, hq23⟩
   try dsimp only at hq23
   try dsimp only
   obtain ⟨q24, q25, q26⟩ := hq23
   have t1 : 1 ≤ ts20.length ∧ ts20.length ≤ 2 := (by assumption); have t2 : ∀ x ∈ ts20, -256 ≤ x ∧ x ≤ 2 := (by assumption); have t3 : ∀ x ∈ ts20, -256 ≤ x ∧ x ≤ 256 := fun x hx => by have := t2 x hx; omega
   refine d_freeze 10 rfl (frz_cur (i := 10) hM rfl rfl rfl) ?_
   refine dO 5 rfl (o_call 11 11 true (Go.Proofs.enters_of Try.func36 (by kernel_rfl) rfl) (c_spec_l5Put (sigs5) (fs) (((x14))) ((ts20)) (by (have e7 := szF_L b4; omega)) (by omega)) rfl (.cons rfl (.agg (.cons .t0 (.cons .t0 .nil))) (.cons rfl (.agg (.cons .t0 (.cons .t0 .nil))) .nil)) rfl rfl rfl) ?_
   refine dO 6 rfl (oS 2) ?_
   refine d_end (by kernel_rfl) ?_
   refine t_endblock ?_
   refine t_region ?_
   refine r_op oM ?_
   refine r_op oB ?_
   refine r_op oA ?_
   refine r_end ?_
   refine t_le ?_ (ih0 (IntKind.i64.wrap (kk - 1), putF (fs) ((((x14))), ((ts20))), (i221), (h222)) (by (try dsimp only); ((try simp only [IntKind.wrap_i64] at *); omega)) (by (try dsimp only); exact ⟨(by ((try simp only [IntKind.wrap_i64] at *); omega)), putF_kk b2 (by ((try simp only [IntKind.wrap_i64] at *); omega)), putF_5 b2 (by omega), putF_all b4 ⟨by (try dsimp only); ((try simp only [IntKind.wrap_i64] at *); omega), by (try dsimp only); omega, t3⟩, by omega⟩))
   exact ⟨⟨rfl, ⟨rfl, ⟨rfl, ⟨rfl, trivial⟩⟩⟩⟩, ⟨rfl, ⟨rfl, ⟨rfl, trivial⟩⟩⟩, rfl⟩
  ·
   rintro ⟨⟨x8, i29, h210⟩, hq11⟩
   try dsimp only at hq11
   try dsimp only
   obtain ⟨q12, q13⟩ := hq11
   refine d_twoX 0 4 rfl rfl (by kernel_rfl) rfl rfl (osX (oC 2)) (o_callGM 0 6 11 (pv := some (v0)) (Go.Proofs.enters_of Try.func59 (by kernel_rfl) rfl) (c_spec_l4Fact ((code)) ((i29)) ((h210)) ((x8)) (0) (by omega) (by omega) (by omega) (by omega) (by omega)) rfl rfl (.cur rfl (.cons rfl (.cons rfl .nil))) rfl (fun ⟨_, _, _⟩ => rfl) (fun _ => rfl) (fun ⟨_, _, _⟩ => rfl) rfl rfl) ?_ ?_
   ·
    rintro ⟨⟩
    refine dOX 4 rfl (o_callGM 0 6 11 (pv := some (v0)) (Go.Proofs.enters_of Try.func59 (by kernel_rfl) rfl) (c_spec_l4Fact ((code)) ((i29)) ((h210)) ((x8)) (0) (by omega) (by omega) (by omega) (by omega) (by omega)) rfl rfl (.cur rfl (.cons rfl (.cons rfl .nil))) rfl (fun ⟨_, _, _⟩ => rfl) (fun _ => rfl) (fun ⟨_, _, _⟩ => rfl) rfl rfl) ?_
    rintro ⟨⟨ts34, i235, h236⟩, hq37⟩
    try dsimp only at hq37
    try dsimp only
    obtain ⟨q38, q39, q40⟩ := hq37
    have t1 : 1 ≤ ts34.length ∧ ts34.length ≤ 2 := (by assumption); have t2 : ∀ x ∈ ts34, -256 ≤ x ∧ x ≤ 2 := (by assumption); have t3 : ∀ x ∈ ts34, -256 ≤ x ∧ x ≤ 256 := fun x hx => by have := t2 x hx; omega
    refine d_freeze 10 rfl (frz_cur (i := 10) hM rfl rfl rfl) ?_
    refine dO 5 rfl (o_call 11 11 true (Go.Proofs.enters_of Try.func36 (by kernel_rfl) rfl) (c_spec_l5Put (sigs5) (fs) (((x8))) ((ts34)) (by (have e7 := szF_L b4; omega)) (by omega)) rfl (.cons rfl (.agg (.cons .t0 (.cons .t0 .nil))) (.cons rfl (.agg (.cons .t0 (.cons .t0 .nil))) .nil)) rfl rfl rfl) ?_
    refine dO 6 rfl (oS 2) ?_
    refine d_end (by kernel_rfl) ?_
    refine t_endblock ?_
    refine t_region ?_
    refine r_op oM ?_
    refine r_op oB ?_
    refine r_op oA ?_
    refine r_end ?_
    refine t_le ?_ (ih0 (IntKind.i64.wrap (kk - 1), putF (fs) ((((x8))), ((ts34))), (i235), (h236)) (by (try dsimp only); ((try simp only [IntKind.wrap_i64] at *); omega)) (by (try dsimp only); exact ⟨(by ((try simp only [IntKind.wrap_i64] at *); omega)), putF_kk b2 (by ((try simp only [IntKind.wrap_i64] at *); omega)), putF_5 b2 (by omega), putF_all b4 ⟨by (try dsimp only); ((try simp only [IntKind.wrap_i64] at *); omega), by (try dsimp only); omega, t3⟩, by omega⟩))
    exact ⟨⟨rfl, ⟨rfl, ⟨rfl, ⟨rfl, trivial⟩⟩⟩⟩, ⟨rfl, ⟨rfl, ⟨rfl, trivial⟩⟩⟩, rfl⟩
   ·
    rintro ⟨⟨ts27, i228, h229⟩, hq30⟩
    try dsimp only at hq30
    try dsimp only
    obtain ⟨q31, q32, q33⟩ := hq30
    have t1 : 1 ≤ ts27.length ∧ ts27.length ≤ 2 := (by assumption); have t2 : ∀ x ∈ ts27, -256 ≤ x ∧ x ≤ 2 := (by assumption); have t3 : ∀ x ∈ ts27, -256 ≤ x ∧ x ≤ 256 := fun x hx => by have := t2 x hx; omega
    refine dT 0 rfl (pC 2) ?_
    refine d_freeze 10 rfl (frz_cur (i := 10) hM rfl rfl rfl) ?_
    refine dO 5 rfl (o_call 11 11 true (Go.Proofs.enters_of Try.func36 (by kernel_rfl) rfl) (c_spec_l5Put (sigs5) (fs) (((x8))) ((ts27)) (by (have e7 := szF_L b4; omega)) (by omega)) rfl (.cons rfl (.agg (.cons .t0 (.cons .t0 .nil))) (.cons rfl (.agg (.cons .t0 (.cons .t0 .nil))) .nil)) rfl rfl rfl) ?_
    refine dO 6 rfl (oS 2) ?_
    refine d_end (by kernel_rfl) ?_
    refine t_endblock ?_
    refine t_region ?_
    refine r_op oM ?_
    refine r_op oB ?_
    refine r_op oA ?_
    refine r_end ?_
    refine t_le ?_ (ih0 (IntKind.i64.wrap (kk - 1), putF (fs) ((((x8))), ((ts27))), (i228), (h229)) (by (try dsimp only); ((try simp only [IntKind.wrap_i64] at *); omega)) (by (try dsimp only); exact ⟨(by ((try simp only [IntKind.wrap_i64] at *); omega)), putF_kk b2 (by ((try simp only [IntKind.wrap_i64] at *); omega)), putF_5 b2 (by omega), putF_all b4 ⟨by (try dsimp only); ((try simp only [IntKind.wrap_i64] at *); omega), by (try dsimp only); omega, t3⟩, by omega⟩))
    exact ⟨⟨rfl, ⟨rfl, ⟨rfl, ⟨rfl, trivial⟩⟩⟩⟩, ⟨rfl, ⟨rfl, ⟨rfl, trivial⟩⟩⟩, rfl⟩
 ·
  have h7' := of_decide_eq_false h7
  refine t_exit rfl ?_
  refine tsr ?_
  refine r_op (oC 2) ?_
  refine r_op (o_call 5 10 false (Go.Proofs.enters_of Try.func28 (by kernel_rfl) rfl) (c_spec_l5Copy (sigs5) (fs) (by (rw [sigs5_len]; omega)) (by (have e7 := szF_L b4; omega))) rfl (.cons rfl (.agg (.cons .t0 (.cons .t0 .nil))) .nil) rfl rfl rfl) ?_
  refine r_op (oS 2) ?_
  refine r_end ?_
  refine gt_mv 3 7 rfl rfl rfl ?_
  refine gt_mv 4 9 rfl rfl rfl ?_
  refine t_ret Try.func35 (.cells (n := 2) (by kernel_rfl) (by kernel_rfl) rfl rfl rfl .nil) rfl fun E S w u hI hd => ?_
  refine post_mkG (⟨(fs), i3, h3⟩) ?_ hI hd ?_ ⟨rfl, ⟨rfl, ⟨rfl, trivial⟩⟩⟩ rfl rfl <;> clear hI hd <;> (try clear ih0)
  · (try dsimp only) <;> (exact ⟨by omega, b4, by omega⟩)
  · rfl
set_option maxHeartbeats 1000000 in
set_option maxRecDepth 10000 in
theorem c_spec_l1PickInt (code : List Int) (i h : Int) (l : List Int) (hc : code.length ≤ 1048576) (hi0 : 0 ≤ i) (hi1 : i ≤ code.length) (hl : 1 ≤ l.length) (hl2 : l.length ≤ 256) : MuG Try.prog 61 [.c (.ptr 0 0), .c (.t none (.sl 1 encI (l)))] [.t none (.sl 1 encU (code)), .t none (.v (.int .i64 (i))), .t none (.v (.int .i64 (h)))] (fun (⟨x, i2, h2⟩ : Int × Int × Int) => x ∈ l ∧ 0 ≤ i2 ∧ i2 ≤ code.length) (fun (⟨x, i2, h2⟩ : Int × Int × Int) => [.t none (.sl 1 encU (code)), .t none (.v (.int .i64 (i2))), .t none (.v (.int .i64 (h2)))]) (fun (⟨x, i2, h2⟩ : Int × Int × Int) => []) 1 (fun (⟨x, i2, h2⟩ : Int × Int × Int) => .c (.t none (.v (.int .i64 (x))))) := by
 refine mu_enterG Try.func61 rfl (Nat.le_of_ble_eq_true rfl) fun v0 w S M hM => ?_
 refine tsr ?_
 refine r_op oA ?_
 refine etr ?_
 refine r_op oM ?_
 refine r_op oM ?_
 refine r_op oM ?_
 refine r_op (o_len rfl rfl rfl) ?_
 refine r_opX (o_callGM 0 1 2 (pv := some (v0)) (Go.Proofs.enters_of Try.func37 (by kernel_rfl) rfl) (c_spec_l1Below (code) (i) (h) (((l).length : Int)) (by omega) (by omega) (by omega) (by omega) (by omega)) rfl rfl (.cur rfl (.cons rfl .nil)) rfl (fun ⟨_, _, _⟩ => rfl) (fun _ => rfl) (fun ⟨_, _, _⟩ => rfl) rfl rfl) ?_
 rintro ⟨⟨x1, i22, h23⟩, hq4⟩
 try dsimp only at hq4
 try dsimp only
 obtain ⟨q5, q6⟩ := hq4
 obtain ⟨z7, hz8, b9⟩ := at_get (xs := l) (n := (x1)) (by omega) (by omega)
 refine r_op (o_index rfl (by kernel_rfl) rfl rfl b9 hz8) ?_
 refine r_op (o_load1 rfl (by kernel_rfl) rfl rfl) ?_
 refine r_op oA ?_
 refine r_end ?_
 refine t_ret Try.func61 (.tmp rfl .nil) rfl fun E S w u hI hd => ?_
 refine post_mkG (⟨z7, (i22), (h23)⟩) ?_ hI hd ?_ ⟨rfl, trivial⟩ rfl rfl <;> clear hI hd
 · (try dsimp only) <;> (exact ⟨List.mem_of_getElem? (by assumption), by omega⟩)
 · rfl
set_option maxHeartbeats 1000000 in
set_option maxRecDepth 10000 in
theorem c_spec_l4Any (code : List Int) (i h : Int) (hc : code.length ≤ 1048576) (hi0 : 0 ≤ i) (hi1 : i ≤ code.length) : MuG Try.prog 38 [.c (.ptr 0 0)] [.t none (.sl 1 encU (code)), .t none (.v (.int .i64 (i))), .t none (.v (.int .i64 (h)))] (fun (⟨r, ts, i2, h2⟩ : Int × (List Int) × Int × Int) => factL (r, ts) ∧ 0 ≤ i2 ∧ i2 ≤ code.length) (fun (⟨r, ts, i2, h2⟩ : Int × (List Int) × Int × Int) => [.t none (.sl 1 encU (code)), .t none (.v (.int .i64 (i2))), .t none (.v (.int .i64 (h2)))]) (fun (⟨r, ts, i2, h2⟩ : Int × (List Int) × Int × Int) => [(7, some (.row none 3 true 1 encI (ts)))]) 8 (fun (⟨r, ts, i2, h2⟩ : Int × (List Int) × Int × Int) => .agg [.t none (.v (.int .i64 (r))), .own 7]) := by
 refine mu_enterG Try.func38 rfl (Nat.le_of_ble_eq_true rfl) fun v0 w S M hM => ?_
 refine tsr ?_
 refine r_op (o_alloc 1 (zs := [.int .i64 (0), .slice none 0 0]) rfl rfl (by kernel_rfl) rfl) ?_
 refine etr ?_
 refine r_op oM ?_
 refine r_op oM ?_
 refine r_opX (o_callGM 0 2 3 (pv := some (v0)) (Go.Proofs.enters_of Try.func37 (by kernel_rfl) rfl) (c_spec_l1Below (code) (i) (h) (5) (by omega) (by omega) (by omega) (by omega) (by omega)) rfl rfl (.cur rfl (.cons rfl .nil)) rfl (fun ⟨_, _, _⟩ => rfl) (fun _ => rfl) (fun ⟨_, _, _⟩ => rfl) rfl rfl) ?_
 rintro ⟨⟨x1, i22, h23⟩, hq4⟩
 try dsimp only at hq4
 try dsimp only
 obtain ⟨q5, q6⟩ := hq4
 refine r_opX (o_callGM 0 3 8 (pv := some (v0)) (Go.Proofs.enters_of Try.func59 (by kernel_rfl) rfl) (c_spec_l4Fact ((code)) ((i22)) ((h23)) ((x1)) (4) (by omega) (by omega) (by omega) (by omega) (by omega)) rfl rfl (.cur rfl (.cons rfl (.cons rfl .nil))) rfl (fun ⟨_, _, _⟩ => rfl) (fun _ => rfl) (fun ⟨_, _, _⟩ => rfl) rfl rfl) ?_
 rintro ⟨⟨ts7, i28, h29⟩, hq10⟩
 try dsimp only at hq10
 try dsimp only
 obtain ⟨q11, q12, q13⟩ := hq10
 have t1 : 1 ≤ ts7.length ∧ ts7.length ≤ 2 := (by assumption); have t2 : ∀ x ∈ ts7, -256 ≤ x ∧ x ≤ 2 := (by assumption); have t3 : ∀ x ∈ ts7, -256 ≤ x ∧ x ≤ 256 := fun x hx => by have := t2 x hx; omega
 refine r_op (o_alloc 8 (zs := [.int .i64 (0), .slice none 0 0]) rfl rfl (by kernel_rfl) rfl) ?_
 refine r_op (oS 2) ?_
 refine r_end ?_
 refine t_seq ?_
 refine tsr ?_
 refine r_op oM ?_
 refine r_opX (o_callGM 0 9 10 (pv := some (v0)) (Go.Proofs.enters_of Try.func37 (by kernel_rfl) rfl) (c_spec_l1Below (((code))) ((i28)) ((h29)) (10) (by omega) (by omega) (by omega) (by omega) (by omega)) rfl rfl (.cur rfl (.cons rfl .nil)) rfl (fun ⟨_, _, _⟩ => rfl) (fun _ => rfl) (fun ⟨_, _, _⟩ => rfl) rfl rfl) ?_
 rintro ⟨⟨x14, i215, h216⟩, hq17⟩
 try dsimp only at hq17
 try dsimp only
 obtain ⟨q18, q19⟩ := hq17
 refine r_end ?_
 refine t_block ?_
 refine tsr ?_
 refine r_op oB ?_
 refine r_op oA ?_
 refine r_end ?_
 refine t_cond rfl (fun h20 => ?_) (fun h20 => ?_)
 ·
  have h20' := of_decide_eq_true h20
  refine t_region ?_
  refine r_op oM ?_
  refine r_opX (o_callGM 0 10 11 (pv := some (v0)) (Go.Proofs.enters_of Try.func37 (by kernel_rfl) rfl) (c_spec_l1Below ((((code)))) ((i215)) ((h216)) (7) (by omega) (by omega) (by omega) (by omega) (by omega)) rfl rfl (.cur rfl (.cons rfl .nil)) rfl (fun ⟨_, _, _⟩ => rfl) (fun _ => rfl) (fun ⟨_, _, _⟩ => rfl) rfl rfl) ?_
  rintro ⟨⟨x21, i222, h223⟩, hq24⟩
  try dsimp only at hq24
  try dsimp only
  obtain ⟨q25, q26⟩ := hq24
  refine r_op oB ?_
  refine r_op (oF 0) ?_
  refine r_op (oS 1) ?_
  refine r_end ?_
  refine t_endblock ?_
  refine tsr ?_
  refine r_op (oC 2) ?_
  refine r_op (oS 2) ?_
  refine r_end ?_
  refine t_ret Try.func38 (.cells (n := 2) (by kernel_rfl) (by kernel_rfl) rfl rfl rfl .nil) rfl fun E S w u hI hd => ?_
  refine post_mkG (⟨IntKind.i64.wrap ((x21) - 1), (ts7), (i222), (h223)⟩) ?_ hI hd ?_ ⟨rfl, ⟨rfl, trivial⟩⟩ rfl rfl <;> clear hI hd
  · (try dsimp only) <;> ((exact ⟨⟨by (try dsimp only); (try simp only [IntKind.wrap_i64] at *); omega, by (try dsimp only); omega, t3⟩, by omega⟩))
  · rfl
 ·
  have h20' := of_decide_eq_false h20
  refine tsr ?_
  refine r_op oB ?_
  refine r_op oA ?_
  refine r_end ?_
  refine t_cond rfl (fun h27 => ?_) (fun h27 => ?_)
  ·
   have h27' := of_decide_eq_true h27
   refine t_region ?_
   refine r_op (oF 1) ?_
   refine r_op oL ?_
   refine r_op (o_litS 10 (e := 3) (sz := 1) (zs := [.int .i64 (0)]) rfl rfl (by kernel_rfl) rfl rfl rfl rfl rfl) ?_
   refine r_op (o_append 7 (e := 3) (sz := 1) (by' := 8) (1) rfl (by kernel_rfl) rfl rfl rfl rfl rfl rfl (.cons .sc .nil) rfl (by omega) (by omega)) ?_
   refine r_op (oF 1) ?_
   refine r_op (oS 1) ?_
   refine r_end ?_
   refine t_endblock ?_
   refine tsr ?_
   refine r_op (oC 2) ?_
   refine r_op (oS 2) ?_
   refine r_end ?_
   refine t_ret Try.func38 (.cells (n := 2) (by kernel_rfl) (by kernel_rfl) rfl rfl rfl .nil) rfl fun E S w u hI hd => ?_
   refine post_mkG (⟨((x1)), (ts7) ++ [1], (i215), (h216)⟩) ?_ hI hd ?_ ⟨rfl, ⟨rfl, trivial⟩⟩ rfl rfl <;> clear hI hd
   · (try dsimp only) <;> ((exact ⟨⟨by (try dsimp only); omega, by (simp only [List.length_append, List.length_singleton]; omega), mem_snoc t3 (by omega)⟩, by omega⟩))
   · rfl
  ·
   have h27' := of_decide_eq_false h27
   refine tsr ?_
   refine r_op oB ?_
   refine r_op oA ?_
   refine r_end ?_
   refine t_cond rfl (fun h28 => ?_) (fun h28 => ?_)
   ·
    have h28' := of_decide_eq_true h28
    refine t_draw (fun i => !(Nat.beq i 4 || Nat.beq i 6)) (by kernel_rfl) ?_
    refine d_takeP 0 rfl rfl (by kernel_rfl) (by kernel_rfl) (by kernel_rfl) (pw_fieldb (off := 1) (by kernel_rfl) rfl) ?_
    refine dT 2 rfl pM ?_
    refine d_two 1 3 rfl rfl (by kernel_rfl) rfl rfl oL (o_litS 10 (e := 3) (sz := 1) (zs := [.int .i64 (0)]) rfl rfl (by kernel_rfl) rfl rfl rfl rfl rfl) ?_ ?_
    ·
     refine dO 3 rfl (o_litS 10 (e := 3) (sz := 1) (zs := [.int .i64 (0)]) rfl rfl (by kernel_rfl) rfl rfl rfl rfl rfl) ?_
     refine d_freezeB 10 (enc := encI) ([10, -41, 9]) rfl (.cons (.cons (.cons .nil))) (frz_cur (i := 10) hM rfl rfl rfl) ?_
     refine dOX 4 rfl (o_callGM 0 11 12 (pv := some (v0)) (Go.Proofs.enters_of Try.func61 (by kernel_rfl) rfl) (c_spec_l1PickInt ((((code)))) ((i215)) ((h216)) ([10, -41, 9]) (by omega) (by omega) (by omega) (by (simp only [List.length_cons, List.length_nil]; omega)) (by (simp only [List.length_cons, List.length_nil]; omega))) rfl rfl (.cur rfl (.cons rfl .nil)) rfl (fun ⟨_, _, _⟩ => rfl) (fun _ => rfl) (fun ⟨_, _, _⟩ => rfl) rfl rfl) ?_
     rintro ⟨⟨x29, i230, h231⟩, hq32⟩
     try dsimp only at hq32
     try dsimp only
     obtain ⟨q33, q34⟩ := hq32
     obtain ⟨z35, hz36, b37⟩ := at_get (xs := (ts7)) (n := 0) (by omega) (by omega)
     refine dT 5 rfl (p_indexo (by kernel_rfl) rfl rfl rfl b37 (at_lt b37 hz36)) ?_
     refine dO 6 rfl (o_storeo ((x29)) (n := 1) (by kernel_rfl) rfl rfl hz36 rfl rfl rfl rfl (.cons .sc .nil) rfl (fun j h1 h2 => by (simp at h1 h2; omega))) ?_
     refine d_end (by kernel_rfl) ?_
     refine t_endblock ?_
     refine tsr ?_
     refine r_op (oC 2) ?_
     refine r_op (oS 2) ?_
     refine r_end ?_
     refine t_ret Try.func38 (.cells (n := 2) (by kernel_rfl) (by kernel_rfl) rfl rfl rfl .nil) rfl fun E S w u hI hd => ?_
     refine post_mkG (⟨((x1)), ((ts7)).set ((0 : Int)).toNat ((x29)), (i230), (h231)⟩) ?_ hI hd ?_ ⟨rfl, ⟨rfl, trivial⟩⟩ rfl rfl <;> clear hI hd
     · (try dsimp only) <;> ((exact ⟨⟨by (try dsimp only); omega, by (simp only [List.length_set]; omega), mem_set t3 (by have e9 := pick10 (by assumption); omega)⟩, by omega⟩))
     · rfl
    ·
     refine d_freezeB 10 (enc := encI) ([10, -41, 9]) rfl (.cons (.cons (.cons .nil))) (frz_cur (i := 10) hM rfl rfl rfl) ?_
     refine d_twoX 1 4 rfl rfl (by kernel_rfl) rfl rfl (osX oL) (o_callGM 0 11 12 (pv := some (v0)) (Go.Proofs.enters_of Try.func61 (by kernel_rfl) rfl) (c_spec_l1PickInt ((((code)))) ((i215)) ((h216)) ([10, -41, 9]) (by omega) (by omega) (by omega) (by (simp only [List.length_cons, List.length_nil]; omega)) (by (simp only [List.length_cons, List.length_nil]; omega))) rfl rfl (.cur rfl (.cons rfl .nil)) rfl (fun ⟨_, _, _⟩ => rfl) (fun _ => rfl) (fun ⟨_, _, _⟩ => rfl) rfl rfl) ?_ ?_
     ·
      rintro ⟨⟩
      refine dOX 4 rfl (o_callGM 0 11 12 (pv := some (v0)) (Go.Proofs.enters_of Try.func61 (by kernel_rfl) rfl) (c_spec_l1PickInt ((((code)))) ((i215)) ((h216)) ([10, -41, 9]) (by omega) (by omega) (by omega) (by (simp only [List.length_cons, List.length_nil]; omega)) (by (simp only [List.length_cons, List.length_nil]; omega))) rfl rfl (.cur rfl (.cons rfl .nil)) rfl (fun ⟨_, _, _⟩ => rfl) (fun _ => rfl) (fun ⟨_, _, _⟩ => rfl) rfl rfl) ?_
      rintro ⟨⟨x44, i245, h246⟩, hq47⟩
      try dsimp only at hq47
      try dsimp only
      obtain ⟨q48, q49⟩ := hq47
      obtain ⟨z50, hz51, b52⟩ := at_get (xs := (ts7)) (n := 0) (by omega) (by omega)
      refine dT 5 rfl (p_indexo (by kernel_rfl) rfl rfl rfl b52 (at_lt b52 hz51)) ?_
      refine dO 6 rfl (o_storeo ((x44)) (n := 1) (by kernel_rfl) rfl rfl hz51 rfl rfl rfl rfl (.cons .sc .nil) rfl (fun j h1 h2 => by (simp at h1 h2; omega))) ?_
      refine d_end (by kernel_rfl) ?_
      refine t_endblock ?_
      refine tsr ?_
      refine r_op (oC 2) ?_
      refine r_op (oS 2) ?_
      refine r_end ?_
      refine t_ret Try.func38 (.cells (n := 2) (by kernel_rfl) (by kernel_rfl) rfl rfl rfl .nil) rfl fun E S w u hI hd => ?_
      refine post_mkG (⟨((x1)), ((ts7)).set ((0 : Int)).toNat ((x44)), (i245), (h246)⟩) ?_ hI hd ?_ ⟨rfl, ⟨rfl, trivial⟩⟩ rfl rfl <;> clear hI hd
      · (try dsimp only) <;> ((exact ⟨⟨by (try dsimp only); omega, by (simp only [List.length_set]; omega), mem_set t3 (by have e9 := pick10 (by assumption); omega)⟩, by omega⟩))
      · rfl
     ·
      rintro ⟨⟨x38, i239, h240⟩, hq41⟩
      try dsimp only at hq41
      try dsimp only
      obtain ⟨q42, q43⟩ := hq41
      refine dT 1 rfl pL ?_
      obtain ⟨z53, hz54, b55⟩ := at_get (xs := (ts7)) (n := 0) (by omega) (by omega)
      refine dT 5 rfl (p_indexo (by kernel_rfl) rfl rfl rfl b55 (at_lt b55 hz54)) ?_
      refine dO 6 rfl (o_storeo ((x38)) (n := 1) (by kernel_rfl) rfl rfl hz54 rfl rfl rfl rfl (.cons .sc .nil) rfl (fun j h1 h2 => by (simp at h1 h2; omega))) ?_
      refine d_end (by kernel_rfl) ?_
      refine t_endblock ?_
      refine tsr ?_
      refine r_op (oC 2) ?_
      refine r_op (oS 2) ?_
      refine r_end ?_
      refine t_ret Try.func38 (.cells (n := 2) (by kernel_rfl) (by kernel_rfl) rfl rfl rfl .nil) rfl fun E S w u hI hd => ?_
      refine post_mkG (⟨((x1)), ((ts7)).set ((0 : Int)).toNat ((x38)), (i239), (h240)⟩) ?_ hI hd ?_ ⟨rfl, ⟨rfl, trivial⟩⟩ rfl rfl <;> clear hI hd
      · (try dsimp only) <;> ((exact ⟨⟨by (try dsimp only); omega, by (simp only [List.length_set]; omega), mem_set t3 (by have e9 := pick10 (by assumption); omega)⟩, by omega⟩))
      · rfl
   ·
    have h28' := of_decide_eq_false h28
    refine t_skip ?_
    refine t_endblock ?_
    refine tsr ?_
    refine r_op (oC 2) ?_
    refine r_op (oS 2) ?_
    refine r_end ?_
    refine t_ret Try.func38 (.cells (n := 2) (by kernel_rfl) (by kernel_rfl) rfl rfl rfl .nil) rfl fun E S w u hI hd => ?_
    refine post_mkG (⟨((x1)), (ts7), (i215), (h216)⟩) ?_ hI hd ?_ ⟨rfl, ⟨rfl, trivial⟩⟩ rfl rfl <;> clear hI hd
    · (try dsimp only) <;> ((exact ⟨⟨by (try dsimp only); (try simp only [IntKind.wrap_i64] at *); omega, by (try dsimp only); omega, t3⟩, by omega⟩))
    · rfl
set_option maxHeartbeats 1000000 in
set_option maxRecDepth 10000 in
theorem c_spec_l1Pick (code : List Int) (i h : Int) (l : List (List UInt8)) (hc : code.length ≤ 1048576) (hi0 : 0 ≤ i) (hi1 : i ≤ code.length) (hl : 1 ≤ l.length) (hl2 : l.length ≤ 256) : MuG Try.prog 62 [.c (.ptr 0 0), .c (.t none (.sl 1 encS (l)))] [.t none (.sl 1 encU (code)), .t none (.v (.int .i64 (i))), .t none (.v (.int .i64 (h)))] (fun (⟨x, i2, h2⟩ : (List UInt8) × Int × Int) => x ∈ l ∧ 0 ≤ i2 ∧ i2 ≤ code.length) (fun (⟨x, i2, h2⟩ : (List UInt8) × Int × Int) => [.t none (.sl 1 encU (code)), .t none (.v (.int .i64 (i2))), .t none (.v (.int .i64 (h2)))]) (fun (⟨x, i2, h2⟩ : (List UInt8) × Int × Int) => []) 1 (fun (⟨x, i2, h2⟩ : (List UInt8) × Int × Int) => .c (.t none (.v (.string (mkS (x)))))) := by
 refine mu_enterG Try.func62 rfl (Nat.le_of_ble_eq_true rfl) fun v0 w S M hM => ?_
 refine tsr ?_
 refine r_op oA ?_
 refine etr ?_
 refine r_op oM ?_
 refine r_op oM ?_
 refine r_op oM ?_
 refine r_op (o_len rfl rfl rfl) ?_
 refine r_opX (o_callGM 0 1 2 (pv := some (v0)) (Go.Proofs.enters_of Try.func37 (by kernel_rfl) rfl) (c_spec_l1Below (code) (i) (h) (((l).length : Int)) (by omega) (by omega) (by omega) (by omega) (by omega)) rfl rfl (.cur rfl (.cons rfl .nil)) rfl (fun ⟨_, _, _⟩ => rfl) (fun _ => rfl) (fun ⟨_, _, _⟩ => rfl) rfl rfl) ?_
 rintro ⟨⟨x1, i22, h23⟩, hq4⟩
 try dsimp only at hq4
 try dsimp only
 obtain ⟨q5, q6⟩ := hq4
 obtain ⟨z7, hz8, b9⟩ := at_get (xs := l) (n := (x1)) (by omega) (by omega)
 refine r_op (o_index rfl (by kernel_rfl) rfl rfl b9 hz8) ?_
 refine r_op (o_load1 rfl (by kernel_rfl) rfl rfl) ?_
 refine r_op oA ?_
 refine r_end ?_
 refine t_ret Try.func62 (.tmp rfl .nil) rfl fun E S w u hI hd => ?_
 refine post_mkG (⟨z7, (i22), (h23)⟩) ?_ hI hd ?_ ⟨rfl, trivial⟩ rfl rfl <;> clear hI hd
 · (try dsimp only) <;> (exact ⟨List.mem_of_getElem? (by assumption), by omega⟩)
 · rfl
set_option maxHeartbeats 1000000 in
set_option maxRecDepth 10000 in
theorem c_spec_l3One (code : List Int) (i h : Int) (hc : code.length ≤ 1048576) (hi0 : 0 ≤ i) (hi1 : i ≤ code.length) : MuG Try.prog 39 [.c (.ptr 0 0)] [.t none (.sl 1 encU (code)), .t none (.v (.int .i64 (i))), .t none (.v (.int .i64 (h)))] (fun (⟨n, ar, b, i2, h2⟩ : (List UInt8) × Int × Bool × Int × Int) => (n.length ≤ 2 ∧ -1 ≤ ar ∧ ar ≤ 4) ∧ 0 ≤ i2 ∧ i2 ≤ code.length) (fun (⟨n, ar, b, i2, h2⟩ : (List UInt8) × Int × Bool × Int × Int) => [.t none (.sl 1 encU (code)), .t none (.v (.int .i64 (i2))), .t none (.v (.int .i64 (h2)))]) (fun (⟨n, ar, b, i2, h2⟩ : (List UInt8) × Int × Bool × Int × Int) => []) 1 (fun (⟨n, ar, b, i2, h2⟩ : (List UInt8) × Int × Bool × Int × Int) => .agg [.t none (.v (.string (mkS (n)))), .t none (.v (.int .i64 (ar))), .t none (.v (.bool (b)))]) := by
 refine mu_enterG Try.func39 rfl (Nat.le_of_ble_eq_true rfl) fun v0 w S M hM => ?_
 refine tsr ?_
 refine r_op (o_alloc 1 (zs := [.string (mkS ([])), .int .i64 (0), .bool (false)]) rfl rfl (by kernel_rfl) rfl) ?_
 refine etr ?_
 refine r_op oM ?_
 refine r_op (o_litS 2 (e := 9) (sz := 1) (zs := [.string (mkS ([]))]) rfl rfl (by kernel_rfl) rfl rfl rfl rfl rfl) ?_
 refine r_freezeB 2 (enc := encS) ([([97] : List UInt8), ([122] : List UInt8), ([] : List UInt8), ([65] : List UInt8), ([97, 98] : List UInt8), ([112] : List UInt8)]) rfl (.cons (.cons (.cons (.cons (.cons (.cons .nil)))))) (frz_cur (i := 2) hM rfl rfl rfl) ?_
 refine r_opX (o_callGM 0 3 4 (pv := some (v0)) (Go.Proofs.enters_of Try.func62 (by kernel_rfl) rfl) (c_spec_l1Pick (code) (i) (h) ([([97] : List UInt8), ([122] : List UInt8), ([] : List UInt8), ([65] : List UInt8), ([97, 98] : List UInt8), ([112] : List UInt8)]) (by omega) (by omega) (by omega) (by (simp only [List.length_cons, List.length_nil]; omega)) (by (simp only [List.length_cons, List.length_nil]; omega))) rfl rfl (.cur rfl (.cons rfl .nil)) rfl (fun ⟨_, _, _⟩ => rfl) (fun _ => rfl) (fun ⟨_, _, _⟩ => rfl) rfl rfl) ?_
 rintro ⟨⟨x1, i22, h23⟩, hq4⟩
 try dsimp only at hq4
 try dsimp only
 obtain ⟨q5, q6⟩ := hq4
 refine r_op oM ?_
 refine r_opX (o_callGM 0 4 5 (pv := some (v0)) (Go.Proofs.enters_of Try.func37 (by kernel_rfl) rfl) (c_spec_l1Below ((code)) ((i22)) ((h23)) (6) (by omega) (by omega) (by omega) (by omega) (by omega)) rfl rfl (.cur rfl (.cons rfl .nil)) rfl (fun ⟨_, _, _⟩ => rfl) (fun _ => rfl) (fun ⟨_, _, _⟩ => rfl) rfl rfl) ?_
 rintro ⟨⟨x7, i28, h29⟩, hq10⟩
 try dsimp only at hq10
 try dsimp only
 obtain ⟨q11, q12⟩ := hq10
 refine r_op oB ?_
 refine r_op oM ?_
 refine r_opX (o_callGM 0 5 6 (pv := some (v0)) (Go.Proofs.enters_of Try.func29 (by kernel_rfl) rfl) (c_spec_l1Once (((code))) ((i28)) ((h29)) (2) (by omega) (by omega) (by omega) (by omega) (by omega)) rfl rfl (.cur rfl (.cons rfl .nil)) rfl (fun ⟨_, _, _⟩ => rfl) (fun _ => rfl) (fun ⟨_, _, _⟩ => rfl) rfl rfl) ?_
 rintro ⟨⟨b13, i214, h215⟩, hq16⟩
 try dsimp only at hq16
 try dsimp only
 refine r_op (o_build rfl (pl := [(0, 1), (1, 1), (2, 1)]) (zs := [.string (mkS ([])), .int .i64 (0), .bool (false)]) (by kernel_rfl) (by kernel_rfl) rfl rfl rfl) ?_
 refine r_op (oS 3) ?_
 refine r_end ?_
 refine t_ret Try.func39 (.cells (n := 3) (by kernel_rfl) (by kernel_rfl) rfl rfl rfl .nil) rfl fun E S w u hI hd => ?_
 refine post_mkG (⟨(x1), IntKind.i64.wrap ((x7) - 1), (b13), (i214), (h215)⟩) ?_ hI hd ?_ ⟨rfl, trivial⟩ rfl rfl <;> clear hI hd
 · (try dsimp only) <;> ((have e8 := (by decide : ∀ x ∈ [([97] : List UInt8), ([122] : List UInt8), ([] : List UInt8), ([65] : List UInt8), ([97, 98] : List UInt8), ([112] : List UInt8)], x.length ≤ 2) _ (by assumption)); (simp only [IntKind.wrap_i64] at *; omega))
 · rfl
set_option maxHeartbeats 1000000 in
set_option maxRecDepth 10000 in
theorem c_spec_l5Any (code : List Int) (i h : Int) (hc : code.length ≤ 1048576) (hi0 : 0 ≤ i) (hi1 : i ≤ code.length) : MuG Try.prog 16 [.c (.ptr 0 0)] [.t none (.sl 1 encU (code)), .t none (.v (.int .i64 (i))), .t none (.v (.int .i64 (h)))] (fun (⟨rs, fs, i2, h2⟩ : Rels × Atoms × Int × Int) => instL rs fs ∧ 0 ≤ i2 ∧ i2 ≤ code.length) (fun (⟨rs, fs, i2, h2⟩ : Rels × Atoms × Int × Int) => [.t none (.sl 1 encU (code)), .t none (.v (.int .i64 (i2))), .t none (.v (.int .i64 (h2)))]) (fun (⟨rs, fs, i2, h2⟩ : Rels × Atoms × Int × Int) => []) 1 (fun (⟨rs, fs, i2, h2⟩ : Rels × Atoms × Int × Int) => .agg [.t none (.sl 3 (enS3 encS encI encB) (rs)), .t none (.sl 2 (enS2 encI (enSl 1 encI)) (fs))]) := by
 refine mu_enterG Try.func16 rfl (Nat.le_of_ble_eq_true rfl) fun v0 w S M hM => ?_
 refine tsr ?_
 refine r_op (o_alloc 1 (zs := [.slice none 0 0, .slice none 0 0]) rfl rfl (by kernel_rfl) rfl) ?_
 refine etr ?_
 refine r_op oM ?_
 refine r_opX (o_callGM 0 2 7 (pv := some (v0)) (Go.Proofs.enters_of Try.func34 (by kernel_rfl) rfl) (c_spec_l5Target (code) (i) (h) (5) (3) (by omega) (by omega) (by omega) (by omega) (by omega)) rfl rfl (.cur rfl (.cons rfl (.cons rfl .nil))) rfl (fun ⟨_, _, _⟩ => rfl) (fun _ => rfl) (fun ⟨_, _, _⟩ => rfl) rfl rfl) ?_
 rintro ⟨⟨fs1, i22, h23⟩, hq4⟩
 try dsimp only at hq4
 try dsimp only
 obtain ⟨q5, q6, q7⟩ := hq4
 refine r_op (o_alloc 7 (zs := [.slice none 0 0, .slice none 0 0]) rfl rfl (by kernel_rfl) rfl) ?_
 refine r_op (oS 2) ?_
 refine r_end ?_
 refine t_seq ?_
 refine tsr ?_
 refine r_op oM ?_
 refine r_opX (o_callGM 0 8 9 (pv := some (v0)) (Go.Proofs.enters_of Try.func29 (by kernel_rfl) rfl) (c_spec_l1Once ((code)) ((i22)) ((h23)) (2) (by omega) (by omega) (by omega) (by omega) (by omega)) rfl rfl (.cur rfl (.cons rfl .nil)) rfl (fun ⟨_, _, _⟩ => rfl) (fun _ => rfl) (fun ⟨_, _, _⟩ => rfl) rfl rfl) ?_
 rintro ⟨⟨b8, i29, h210⟩, hq11⟩
 try dsimp only at hq11
 try dsimp only
 refine r_end ?_
 refine t_cond rfl (fun h13 => ?_) (fun h13 => ?_)
 ·
  have h13' := h13
  refine tsr ?_
  refine r_op oM ?_
  refine r_opX (o_callGM 0 9 14 (pv := some (v0)) (Go.Proofs.enters_of Try.func35 (by kernel_rfl) rfl) (c_spec_l5Source (((code))) ((i29)) ((h210)) (3) (by omega) (by omega) (by omega) (by omega)) rfl rfl (.cur rfl (.cons rfl .nil)) rfl (fun ⟨_, _, _⟩ => rfl) (fun _ => rfl) (fun ⟨_, _, _⟩ => rfl) rfl rfl) ?_
  rintro ⟨⟨fs14, i215, h216⟩, hq17⟩
  try dsimp only at hq17
  try dsimp only
  obtain ⟨q18, q19, q20⟩ := hq17
  have b4f : ∀ a ∈ fs14, factL a := (by assumption)
  refine r_op (o_alloc 14 (zs := [.slice none 0 0, .slice none 0 0]) rfl rfl (by kernel_rfl) rfl) ?_
  refine r_op (oS 2) ?_
  refine r_end ?_
  refine t_seq ?_
  refine tsr ?_
  refine r_op oA ?_
  refine r_end ?_
  refine t_block ?_
  refine gt_freeze 5 rfl (frz_cur (i := 5) hM rfl rfl rfl) ?_
  refine gt_freeze 6 rfl (frz_cur (i := 6) hM rfl rfl rfl) ?_
  refine gt_freeze 12 rfl (frz_cur (i := 12) hM rfl rfl rfl) ?_
  refine gt_freeze 13 rfl (frz_cur (i := 13) hM rfl rfl rfl) ?_
  refine t_loopL (fun (m, xs) => ⟨[(0, some (.c (.ptr 0 0))), (2, some (.c (.ptr 1 0))), (3, some (.c (.ptr 7 0))), (4, some (.c (.ptr 14 0))), (5, some (.c (.t none (.v (.int .i64 ((m : Int)))))))], [(0, some (.pbox (v0) [.t none (.sl 1 encU ((((code))))), .t none (.v (.int .i64 ((i215)))), .t none (.v (.int .i64 ((h216))))])), (1, some (.box [.t none (.v (.slice none 0 0)), .t none (.v (.slice none 0 0))])), (7, some (.box [.t none (.sl 3 (enS3 encS encI encB) (sigs5)), .t none (.sl 2 (enS2 encI (enSl 1 encI)) (xs))])), (14, some (.box [.t none (.sl 3 (enS3 encS encI encB) (sigs5)), .t none (.sl 2 (enS2 encI (enSl 1 encI)) ((fs14)))]))], 15⟩ : Nat × Atoms → St) (fun (m, xs) => m ≤ fs14.length ∧ xs.length ≤ 5 + m ∧ (∀ a ∈ xs, factL a)) (fun (m, xs) => fs14.length - m) (0, (fs1)) ⟨⟨rfl, ⟨rfl, ⟨rfl, ⟨rfl, ⟨rfl, trivial⟩⟩⟩⟩⟩, ⟨rfl, ⟨rfl, ⟨rfl, ⟨rfl, trivial⟩⟩⟩⟩, rfl⟩ (by exact ⟨Nat.zero_le _, by (try dsimp only); omega, by assumption⟩) ?_
  rintro ⟨m, xs⟩ hI ih0
  try dsimp only at hI ih0
  obtain ⟨b1, b2, b4⟩ := hI
  refine t_seq ?_
  refine tsr ?_
  refine r_op oM ?_
  refine r_op (oF 1) ?_
  refine r_op oL ?_
  refine r_op (o_len rfl rfl rfl) ?_
  refine r_op oB ?_
  refine r_end ?_
  refine t_cond rfl (fun h21 => ?_) (fun h21 => ?_)
  ·
   have h21' := of_decide_eq_true h21
   refine t_skip ?_
   refine t_seq ?_
   refine t_block ?_
   refine t_draw (fun i => !(Nat.beq i 7)) (by kernel_rfl) ?_
   refine dT 0 rfl (pC 2) ?_
   refine dT 1 rfl (pF 1) ?_
   refine dT 2 rfl pL ?_
   refine dT 3 rfl pM ?_
   obtain ⟨z22, hz23, b24⟩ := at_get (xs := (fs14)) (n := (m : Int)) (by omega) (by omega)
   refine dT 4 rfl (p_index (by kernel_rfl) rfl rfl b24 hz23) ?_
   refine dT 5 rfl (p_loadA (n := 2) (by kernel_rfl) (by kernel_rfl) rfl rfl) ?_
   refine dO 6 rfl (o_call 15 15 true (Go.Proofs.enters_of Try.func36 (by kernel_rfl) rfl) (c_spec_l5Put (sigs5) (xs) (z22.1) (z22.2) (by (have e7 := szF_L b4; omega)) (by (have e7 := (b4f _ (List.mem_of_getElem? (by assumption))).2.1; omega))) rfl (.cons rfl (.agg (.cons .t0 (.cons .t0 .nil))) (.cons rfl (.agg (.cons .t0 (.cons .t0 .nil))) .nil)) rfl rfl rfl) ?_
   refine dO 7 rfl (oS 2) ?_
   refine d_end (by kernel_rfl) ?_
   refine t_endblock ?_
   refine t_region ?_
   refine r_op oM ?_
   refine r_op oB ?_
   refine r_op oA ?_
   refine r_end ?_
   refine t_le ?_ (ih0 (m + 1, putF (xs) ((z22.1), (z22.2))) (by (try dsimp only); omega) (by (try dsimp only); exact ⟨by omega, Nat.le_trans (putF_len _ _) (by omega), putF_all b4 (b4f _ (List.mem_of_getElem? hz23))⟩))
   exact ⟨⟨rfl, ⟨rfl, ⟨rfl, ⟨rfl, ⟨(eqI (wr64 (by omega) (by omega))), trivial⟩⟩⟩⟩⟩, ⟨rfl, ⟨rfl, ⟨rfl, ⟨rfl, trivial⟩⟩⟩⟩, rfl⟩
  ·
   have h21' := of_decide_eq_false h21
   refine t_exit rfl ?_
   refine t_region ?_
   refine r_op (oC 2) ?_
   refine r_op (o_call 15 20 false (Go.Proofs.enters_of Try.func28 (by kernel_rfl) rfl) (c_spec_l5Copy (sigs5) (xs) (by (rw [sigs5_len]; omega)) (by (have e7 := szF_L b4; omega))) rfl (.cons rfl (.agg (.cons .t0 (.cons .t0 .nil))) .nil) rfl rfl rfl) ?_
   refine r_op (oS 2) ?_
   refine r_end ?_
   refine t_seq ?_
   refine tsr ?_
   refine r_op oM ?_
   refine r_opX (o_callGM 0 20 21 (pv := some (v0)) (Go.Proofs.enters_of Try.func37 (by kernel_rfl) rfl) (c_spec_l1Below ((((code)))) ((i215)) ((h216)) (14) (by omega) (by omega) (by omega) (by omega) (by omega)) rfl rfl (.cur rfl (.cons rfl .nil)) rfl (fun ⟨_, _, _⟩ => rfl) (fun _ => rfl) (fun ⟨_, _, _⟩ => rfl) rfl rfl) ?_
   rintro ⟨⟨x25, i226, h227⟩, hq28⟩
   try dsimp only at hq28
   try dsimp only
   obtain ⟨q29, q30⟩ := hq28
   refine r_end ?_
   refine t_block ?_
   refine tsr ?_
   refine r_op oB ?_
   refine r_op oA ?_
   refine r_end ?_
   refine t_cond rfl (fun h31 => ?_) (fun h31 => ?_)
   ·
    have h31' := of_decide_eq_true h31
    refine t_draw (fun i => !(Nat.beq i 3 || Nat.beq i 5 || Nat.beq i 7)) (by kernel_rfl) ?_
    refine d_takeP 0 rfl rfl (by kernel_rfl) (by kernel_rfl) (by kernel_rfl) (pw_fieldb (off := 1) (by kernel_rfl) rfl) ?_
    refine dT 2 rfl pM ?_
    refine d_twoX 1 3 rfl rfl (by kernel_rfl) rfl rfl (osX oL) (o_callGM 0 21 29 (pv := some (v0)) (Go.Proofs.enters_of Try.func38 (by kernel_rfl) rfl) (c_spec_l4Any (((((code))))) ((i226)) ((h227)) (by omega) (by omega) (by omega)) rfl rfl (.cur rfl .nil) rfl (fun ⟨_, _, _, _⟩ => rfl) (fun _ => rfl) (fun ⟨_, _, _, _⟩ => rfl) rfl rfl) ?_ ?_
    ·
     rintro ⟨⟩
     refine dOX 3 rfl (o_callGM 0 21 29 (pv := some (v0)) (Go.Proofs.enters_of Try.func38 (by kernel_rfl) rfl) (c_spec_l4Any (((((code))))) ((i226)) ((h227)) (by omega) (by omega) (by omega)) rfl rfl (.cur rfl .nil) rfl (fun ⟨_, _, _, _⟩ => rfl) (fun _ => rfl) (fun ⟨_, _, _, _⟩ => rfl) rfl rfl) ?_
     rintro ⟨⟨r39, ts40, i241, h242⟩, hq43⟩
     try dsimp only at hq43
     try dsimp only
     obtain ⟨q44, q45⟩ := hq43
     refine dO 4 rfl (o_litS 29 (e := 43) (sz := 2) (zs := [.int .i64 (0), .slice none 0 0]) rfl rfl (by kernel_rfl) rfl rfl rfl rfl rfl) ?_
     refine dO 5 rfl (o_append 19 (e := 43) (sz := 2) (by' := 32) (((r39), (ts40))) rfl (by kernel_rfl) rfl rfl rfl rfl rfl rfl (.cons .sc (.take (.own rfl) rfl .nil)) rfl (by omega) (by omega)) ?_
     refine dT 6 rfl (pF 1) ?_
     refine dO 7 rfl (oS 1) ?_
     refine d_end (by kernel_rfl) ?_
     refine t_endblock ?_
     refine tsr ?_
     refine r_op (oC 2) ?_
     refine r_op (oS 2) ?_
     refine r_end ?_
     refine gt_freeze 17 rfl (frz_cur (i := 17) hM rfl rfl rfl) ?_
     refine gt_freeze 19 rfl (frz_cur (i := 19) hM rfl rfl rfl) ?_
     refine t_ret Try.func16 (.cells (n := 2) (by kernel_rfl) (by kernel_rfl) rfl rfl rfl .nil) rfl fun E S w u hI hd => ?_
     refine post_mkG (⟨(sigs5), (xs) ++ [((r39), (ts40))], (i241), (h242)⟩) ?_ hI hd ?_ ⟨rfl, trivial⟩ rfl rfl <;> clear hI hd <;> (try clear ih0)
     · (try dsimp only) <;> ((refine ⟨⟨?_, ?_, ?_, ?_⟩, by omega⟩ <;> (try dsimp only)) <;> first | decide | exact relS | (simp only [List.length_append, List.length_singleton]; omega) | exact mem_snoc (by assumption) (by assumption))
     · rfl
    ·
     rintro ⟨⟨r32, ts33, i234, h235⟩, hq36⟩
     try dsimp only at hq36
     try dsimp only
     obtain ⟨q37, q38⟩ := hq36
     refine dT 1 rfl pL ?_
     refine dO 4 rfl (o_litS 29 (e := 43) (sz := 2) (zs := [.int .i64 (0), .slice none 0 0]) rfl rfl (by kernel_rfl) rfl rfl rfl rfl rfl) ?_
     refine dO 5 rfl (o_append 19 (e := 43) (sz := 2) (by' := 32) (((r32), (ts33))) rfl (by kernel_rfl) rfl rfl rfl rfl rfl rfl (.cons .sc (.take (.own rfl) rfl .nil)) rfl (by omega) (by omega)) ?_
     refine dT 6 rfl (pF 1) ?_
     refine dO 7 rfl (oS 1) ?_
     refine d_end (by kernel_rfl) ?_
     refine t_endblock ?_
     refine tsr ?_
     refine r_op (oC 2) ?_
     refine r_op (oS 2) ?_
     refine r_end ?_
     refine gt_freeze 17 rfl (frz_cur (i := 17) hM rfl rfl rfl) ?_
     refine gt_freeze 19 rfl (frz_cur (i := 19) hM rfl rfl rfl) ?_
     refine t_ret Try.func16 (.cells (n := 2) (by kernel_rfl) (by kernel_rfl) rfl rfl rfl .nil) rfl fun E S w u hI hd => ?_
     refine post_mkG (⟨(sigs5), (xs) ++ [((r32), (ts33))], (i234), (h235)⟩) ?_ hI hd ?_ ⟨rfl, trivial⟩ rfl rfl <;> clear hI hd <;> (try clear ih0)
     · (try dsimp only) <;> ((refine ⟨⟨?_, ?_, ?_, ?_⟩, by omega⟩ <;> (try dsimp only)) <;> first | decide | exact relS | (simp only [List.length_append, List.length_singleton]; omega) | exact mem_snoc (by assumption) (by assumption))
     · rfl
   ·
    have h31' := of_decide_eq_false h31
    refine tsr ?_
    refine r_op oB ?_
    refine r_op oA ?_
    refine r_end ?_
    refine t_cond rfl (fun h46 => ?_) (fun h46 => ?_)
    ·
     have h46' := of_decide_eq_true h46
     refine t_region ?_
     refine r_op (oF 0) ?_
     refine r_op oL ?_
     refine r_op (o_subo rfl (by kernel_rfl) rfl rfl (.l rfl (by omega) (by (rw [sigs5_len]; omega)))) ?_
     refine r_op (oF 0) ?_
     refine r_op (oS 1) ?_
     refine r_end ?_
     refine t_endblock ?_
     refine tsr ?_
     refine r_op (oC 2) ?_
     refine r_op (oS 2) ?_
     refine r_end ?_
     refine gt_freeze 17 rfl (frz_cur (i := 17) hM rfl rfl rfl) ?_
     refine gt_freeze 19 rfl (frz_cur (i := 19) hM rfl rfl rfl) ?_
     refine t_ret Try.func16 (.cells (n := 2) (by kernel_rfl) (by kernel_rfl) rfl rfl rfl .nil) rfl fun E S w u hI hd => ?_
     refine post_mkG (⟨(((sigs5)).take ((sigs5)).length).drop ((1 : Int)).toNat, (xs), (i226), (h227)⟩) ?_ hI hd ?_ ⟨rfl, trivial⟩ rfl rfl <;> clear hI hd <;> (try clear ih0)
     · (try dsimp only) <;> ((refine ⟨⟨?_, ?_, ?_, ?_⟩, by omega⟩ <;> (try dsimp only)) <;> first | decide | exact fun z hz => relS z (List.mem_of_mem_take (List.mem_of_mem_drop hz)) | omega)
     · rfl
    ·
     have h46' := of_decide_eq_false h46
     refine tsr ?_
     refine r_op oB ?_
     refine r_op oA ?_
     refine r_end ?_
     refine t_cond rfl (fun h47 => ?_) (fun h47 => ?_)
     ·
      have h47' := of_decide_eq_true h47
      refine t_draw (fun i => !(Nat.beq i 3 || Nat.beq i 5 || Nat.beq i 7)) (by kernel_rfl) ?_
      refine d_takeP 0 rfl rfl (by kernel_rfl) (by kernel_rfl) (by kernel_rfl) (pw_fieldb (off := 0) (by kernel_rfl) rfl) ?_
      refine dT 2 rfl pM ?_
      refine d_takeP 4 rfl rfl (by kernel_rfl) (by kernel_rfl) (by kernel_rfl) (pw_move rfl) ?_
      refine d_twoX 1 3 rfl rfl (by kernel_rfl) rfl rfl (osX oL) (o_callGM 0 21 22 (pv := some (v0)) (Go.Proofs.enters_of Try.func37 (by kernel_rfl) rfl) (c_spec_l1Below (((((code))))) ((i226)) ((h227)) (5) (by omega) (by omega) (by omega) (by omega) (by omega)) rfl rfl (.cur rfl (.cons rfl .nil)) rfl (fun ⟨_, _, _⟩ => rfl) (fun _ => rfl) (fun ⟨_, _, _⟩ => rfl) rfl rfl) ?_ ?_
      ·
       rintro ⟨⟩
       refine dOX 3 rfl (o_callGM 0 21 22 (pv := some (v0)) (Go.Proofs.enters_of Try.func37 (by kernel_rfl) rfl) (c_spec_l1Below (((((code))))) ((i226)) ((h227)) (5) (by omega) (by omega) (by omega) (by omega) (by omega)) rfl rfl (.cur rfl (.cons rfl .nil)) rfl (fun ⟨_, _, _⟩ => rfl) (fun _ => rfl) (fun ⟨_, _, _⟩ => rfl) rfl rfl) ?_
       rintro ⟨⟨x54, i255, h256⟩, hq57⟩
       try dsimp only at hq57
       try dsimp only
       obtain ⟨q58, q59⟩ := hq57
       refine dOX 5 rfl (o_callGM 0 22 23 (pv := some (v0)) (Go.Proofs.enters_of Try.func39 (by kernel_rfl) rfl) (c_spec_l3One ((((((code)))))) ((i255)) ((h256)) (by omega) (by omega) (by omega)) rfl rfl (.cur rfl .nil) rfl (fun ⟨_, _, _, _, _⟩ => rfl) (fun _ => rfl) (fun ⟨_, _, _, _, _⟩ => rfl) rfl rfl) ?_
       rintro ⟨⟨n60, ar61, b62, i263, h264⟩, hq65⟩
       try dsimp only at hq65
       try dsimp only
       obtain ⟨q66, q67⟩ := hq65
       obtain ⟨z68, hz69, b70⟩ := at_get (xs := (sigs5)) (n := (x54)) (by omega) (by (rw [sigs5_len]; omega))
       refine dT 6 rfl (p_indexo (by kernel_rfl) rfl rfl rfl b70 (at_lt b70 hz69)) ?_
       refine dO 7 rfl (o_storeo (((n60), (ar61), (b62))) (n := 3) (by kernel_rfl) rfl rfl hz69 rfl rfl rfl rfl (.cons .sc (.cons .sc (.cons .sc .nil))) rfl (fun j h1 h2 => by (simp at h1 h2; omega))) ?_
       refine d_end (by kernel_rfl) ?_
       refine t_endblock ?_
       refine tsr ?_
       refine r_op (oC 2) ?_
       refine r_op (oS 2) ?_
       refine r_end ?_
       refine gt_freeze 17 rfl (frz_cur (i := 17) hM rfl rfl rfl) ?_
       refine gt_freeze 19 rfl (frz_cur (i := 19) hM rfl rfl rfl) ?_
       refine t_ret Try.func16 (.cells (n := 2) (by kernel_rfl) (by kernel_rfl) rfl rfl rfl .nil) rfl fun E S w u hI hd => ?_
       refine post_mkG (⟨((sigs5)).set ((x54)).toNat (((n60), (ar61), (b62))), (xs), (i263), (h264)⟩) ?_ hI hd ?_ ⟨rfl, trivial⟩ rfl rfl <;> clear hI hd <;> (try clear ih0)
       · (try dsimp only) <;> ((refine ⟨⟨?_, ?_, ?_, ?_⟩, by omega⟩ <;> (try dsimp only)) <;> first | (simp only [List.length_set, List.length_drop, List.length_take, sigs5_len]; omega) | exact mem_set relS (by unfold relL; (try dsimp only); omega) | omega)
       · rfl
      ·
       rintro ⟨⟨x48, i249, h250⟩, hq51⟩
       try dsimp only at hq51
       try dsimp only
       obtain ⟨q52, q53⟩ := hq51
       refine d_twoX 1 5 rfl rfl (by kernel_rfl) rfl rfl (osX oL) (o_callGM 0 22 23 (pv := some (v0)) (Go.Proofs.enters_of Try.func39 (by kernel_rfl) rfl) (c_spec_l3One ((((((code)))))) ((i249)) ((h250)) (by omega) (by omega) (by omega)) rfl rfl (.cur rfl .nil) rfl (fun ⟨_, _, _, _, _⟩ => rfl) (fun _ => rfl) (fun ⟨_, _, _, _, _⟩ => rfl) rfl rfl) ?_ ?_
       ·
        rintro ⟨⟩
        refine dOX 5 rfl (o_callGM 0 22 23 (pv := some (v0)) (Go.Proofs.enters_of Try.func39 (by kernel_rfl) rfl) (c_spec_l3One ((((((code)))))) ((i249)) ((h250)) (by omega) (by omega) (by omega)) rfl rfl (.cur rfl .nil) rfl (fun ⟨_, _, _, _, _⟩ => rfl) (fun _ => rfl) (fun ⟨_, _, _, _, _⟩ => rfl) rfl rfl) ?_
        rintro ⟨⟨n79, ar80, b81, i282, h283⟩, hq84⟩
        try dsimp only at hq84
        try dsimp only
        obtain ⟨q85, q86⟩ := hq84
        obtain ⟨z87, hz88, b89⟩ := at_get (xs := (sigs5)) (n := (x48)) (by omega) (by (rw [sigs5_len]; omega))
        refine dT 6 rfl (p_indexo (by kernel_rfl) rfl rfl rfl b89 (at_lt b89 hz88)) ?_
        refine dO 7 rfl (o_storeo (((n79), (ar80), (b81))) (n := 3) (by kernel_rfl) rfl rfl hz88 rfl rfl rfl rfl (.cons .sc (.cons .sc (.cons .sc .nil))) rfl (fun j h1 h2 => by (simp at h1 h2; omega))) ?_
        refine d_end (by kernel_rfl) ?_
        refine t_endblock ?_
        refine tsr ?_
        refine r_op (oC 2) ?_
        refine r_op (oS 2) ?_
        refine r_end ?_
        refine gt_freeze 17 rfl (frz_cur (i := 17) hM rfl rfl rfl) ?_
        refine gt_freeze 19 rfl (frz_cur (i := 19) hM rfl rfl rfl) ?_
        refine t_ret Try.func16 (.cells (n := 2) (by kernel_rfl) (by kernel_rfl) rfl rfl rfl .nil) rfl fun E S w u hI hd => ?_
        refine post_mkG (⟨((sigs5)).set ((x48)).toNat (((n79), (ar80), (b81))), (xs), (i282), (h283)⟩) ?_ hI hd ?_ ⟨rfl, trivial⟩ rfl rfl <;> clear hI hd <;> (try clear ih0)
        · (try dsimp only) <;> ((refine ⟨⟨?_, ?_, ?_, ?_⟩, by omega⟩ <;> (try dsimp only)) <;> first | (simp only [List.length_set, List.length_drop, List.length_take, sigs5_len]; omega) | exact mem_set relS (by unfold relL; (try dsimp only); omega) | omega)
        · rfl
       ·
        rintro ⟨⟨n71, ar72, b73, i274, h275⟩, hq76⟩
        try dsimp only at hq76
        try dsimp only
        obtain ⟨q77, q78⟩ := hq76
        refine dT 1 rfl pL ?_
        obtain ⟨z90, hz91, b92⟩ := at_get (xs := (sigs5)) (n := (x48)) (by omega) (by (rw [sigs5_len]; omega))
        refine dT 6 rfl (p_indexo (by kernel_rfl) rfl rfl rfl b92 (at_lt b92 hz91)) ?_
        refine dO 7 rfl (o_storeo (((n71), (ar72), (b73))) (n := 3) (by kernel_rfl) rfl rfl hz91 rfl rfl rfl rfl (.cons .sc (.cons .sc (.cons .sc .nil))) rfl (fun j h1 h2 => by (simp at h1 h2; omega))) ?_
        refine d_end (by kernel_rfl) ?_
        refine t_endblock ?_
        refine tsr ?_
        refine r_op (oC 2) ?_
        refine r_op (oS 2) ?_
        refine r_end ?_
        refine gt_freeze 17 rfl (frz_cur (i := 17) hM rfl rfl rfl) ?_
        refine gt_freeze 19 rfl (frz_cur (i := 19) hM rfl rfl rfl) ?_
        refine t_ret Try.func16 (.cells (n := 2) (by kernel_rfl) (by kernel_rfl) rfl rfl rfl .nil) rfl fun E S w u hI hd => ?_
        refine post_mkG (⟨((sigs5)).set ((x48)).toNat (((n71), (ar72), (b73))), (xs), (i274), (h275)⟩) ?_ hI hd ?_ ⟨rfl, trivial⟩ rfl rfl <;> clear hI hd <;> (try clear ih0)
        · (try dsimp only) <;> ((refine ⟨⟨?_, ?_, ?_, ?_⟩, by omega⟩ <;> (try dsimp only)) <;> first | (simp only [List.length_set, List.length_drop, List.length_take, sigs5_len]; omega) | exact mem_set relS (by unfold relL; (try dsimp only); omega) | omega)
        · rfl
     ·
      have h47' := of_decide_eq_false h47
      refine t_skip ?_
      refine t_endblock ?_
      refine tsr ?_
      refine r_op (oC 2) ?_
      refine r_op (oS 2) ?_
      refine r_end ?_
      refine gt_freeze 17 rfl (frz_cur (i := 17) hM rfl rfl rfl) ?_
      refine gt_freeze 19 rfl (frz_cur (i := 19) hM rfl rfl rfl) ?_
      refine t_ret Try.func16 (.cells (n := 2) (by kernel_rfl) (by kernel_rfl) rfl rfl rfl .nil) rfl fun E S w u hI hd => ?_
      refine post_mkG (⟨(sigs5), (xs), (i226), (h227)⟩) ?_ hI hd ?_ ⟨rfl, trivial⟩ rfl rfl <;> clear hI hd <;> (try clear ih0)
      · (try dsimp only) <;> ((refine ⟨⟨?_, ?_, ?_, ?_⟩, by omega⟩ <;> (try dsimp only)) <;> first | decide | exact relS | omega)
      · rfl
 ·
  have h13' := h13
  refine t_skip ?_
  refine t_seq ?_
  refine tsr ?_
  refine r_op oM ?_
  refine r_opX (o_callGM 0 9 10 (pv := some (v0)) (Go.Proofs.enters_of Try.func37 (by kernel_rfl) rfl) (c_spec_l1Below (((code))) ((i29)) ((h210)) (14) (by omega) (by omega) (by omega) (by omega) (by omega)) rfl rfl (.cur rfl (.cons rfl .nil)) rfl (fun ⟨_, _, _⟩ => rfl) (fun _ => rfl) (fun ⟨_, _, _⟩ => rfl) rfl rfl) ?_
  rintro ⟨⟨x93, i294, h295⟩, hq96⟩
  try dsimp only at hq96
  try dsimp only
  obtain ⟨q97, q98⟩ := hq96
  refine r_end ?_
  refine t_block ?_
  refine tsr ?_
  refine r_op oB ?_
  refine r_op oA ?_
  refine r_end ?_
  refine t_cond rfl (fun h99 => ?_) (fun h99 => ?_)
  ·
   have h99' := of_decide_eq_true h99
   refine t_draw (fun i => !(Nat.beq i 3 || Nat.beq i 5 || Nat.beq i 7)) (by kernel_rfl) ?_
   refine d_takeP 0 rfl rfl (by kernel_rfl) (by kernel_rfl) (by kernel_rfl) (pw_fieldb (off := 1) (by kernel_rfl) rfl) ?_
   refine dT 2 rfl pM ?_
   refine d_twoX 1 3 rfl rfl (by kernel_rfl) rfl rfl (osX oL) (o_callGM 0 10 18 (pv := some (v0)) (Go.Proofs.enters_of Try.func38 (by kernel_rfl) rfl) (c_spec_l4Any ((((code)))) ((i294)) ((h295)) (by omega) (by omega) (by omega)) rfl rfl (.cur rfl .nil) rfl (fun ⟨_, _, _, _⟩ => rfl) (fun _ => rfl) (fun ⟨_, _, _, _⟩ => rfl) rfl rfl) ?_ ?_
   ·
    rintro ⟨⟩
    refine dOX 3 rfl (o_callGM 0 10 18 (pv := some (v0)) (Go.Proofs.enters_of Try.func38 (by kernel_rfl) rfl) (c_spec_l4Any ((((code)))) ((i294)) ((h295)) (by omega) (by omega) (by omega)) rfl rfl (.cur rfl .nil) rfl (fun ⟨_, _, _, _⟩ => rfl) (fun _ => rfl) (fun ⟨_, _, _, _⟩ => rfl) rfl rfl) ?_
    rintro ⟨⟨r107, ts108, i2109, h2110⟩, hq111⟩
    try dsimp only at hq111
    try dsimp only
    obtain ⟨q112, q113⟩ := hq111
    refine dO 4 rfl (o_litS 18 (e := 43) (sz := 2) (zs := [.int .i64 (0), .slice none 0 0]) rfl rfl (by kernel_rfl) rfl rfl rfl rfl rfl) ?_
    refine dO 5 rfl (o_append 6 (e := 43) (sz := 2) (by' := 32) (((r107), (ts108))) rfl (by kernel_rfl) rfl rfl rfl rfl rfl rfl (.cons .sc (.take (.own rfl) rfl .nil)) rfl (by omega) (by omega)) ?_
    refine dT 6 rfl (pF 1) ?_
    refine dO 7 rfl (oS 1) ?_
    refine d_end (by kernel_rfl) ?_
    refine t_endblock ?_
    refine tsr ?_
    refine r_op (oC 2) ?_
    refine r_op (oS 2) ?_
    refine r_end ?_
    refine gt_freeze 5 rfl (frz_cur (i := 5) hM rfl rfl rfl) ?_
    refine gt_freeze 6 rfl (frz_cur (i := 6) hM rfl rfl rfl) ?_
    refine t_ret Try.func16 (.cells (n := 2) (by kernel_rfl) (by kernel_rfl) rfl rfl rfl .nil) rfl fun E S w u hI hd => ?_
    refine post_mkG (⟨sigs5, (fs1) ++ [((r107), (ts108))], (i2109), (h2110)⟩) ?_ hI hd ?_ ⟨rfl, trivial⟩ rfl rfl <;> clear hI hd <;> (try clear ih0)
    · (try dsimp only) <;> ((refine ⟨⟨?_, ?_, ?_, ?_⟩, by omega⟩ <;> (try dsimp only)) <;> first | decide | exact relS | (simp only [List.length_append, List.length_singleton]; omega) | exact mem_snoc (by assumption) (by assumption))
    · rfl
   ·
    rintro ⟨⟨r100, ts101, i2102, h2103⟩, hq104⟩
    try dsimp only at hq104
    try dsimp only
    obtain ⟨q105, q106⟩ := hq104
    refine dT 1 rfl pL ?_
    refine dO 4 rfl (o_litS 18 (e := 43) (sz := 2) (zs := [.int .i64 (0), .slice none 0 0]) rfl rfl (by kernel_rfl) rfl rfl rfl rfl rfl) ?_
    refine dO 5 rfl (o_append 6 (e := 43) (sz := 2) (by' := 32) (((r100), (ts101))) rfl (by kernel_rfl) rfl rfl rfl rfl rfl rfl (.cons .sc (.take (.own rfl) rfl .nil)) rfl (by omega) (by omega)) ?_
    refine dT 6 rfl (pF 1) ?_
    refine dO 7 rfl (oS 1) ?_
    refine d_end (by kernel_rfl) ?_
    refine t_endblock ?_
    refine tsr ?_
    refine r_op (oC 2) ?_
    refine r_op (oS 2) ?_
    refine r_end ?_
    refine gt_freeze 5 rfl (frz_cur (i := 5) hM rfl rfl rfl) ?_
    refine gt_freeze 6 rfl (frz_cur (i := 6) hM rfl rfl rfl) ?_
    refine t_ret Try.func16 (.cells (n := 2) (by kernel_rfl) (by kernel_rfl) rfl rfl rfl .nil) rfl fun E S w u hI hd => ?_
    refine post_mkG (⟨sigs5, (fs1) ++ [((r100), (ts101))], (i2102), (h2103)⟩) ?_ hI hd ?_ ⟨rfl, trivial⟩ rfl rfl <;> clear hI hd <;> (try clear ih0)
    · (try dsimp only) <;> ((refine ⟨⟨?_, ?_, ?_, ?_⟩, by omega⟩ <;> (try dsimp only)) <;> first | decide | exact relS | (simp only [List.length_append, List.length_singleton]; omega) | exact mem_snoc (by assumption) (by assumption))
    · rfl
  ·
   have h99' := of_decide_eq_false h99
   refine tsr ?_
   refine r_op oB ?_
   refine r_op oA ?_
   refine r_end ?_
   refine t_cond rfl (fun h114 => ?_) (fun h114 => ?_)
   ·
    have h114' := of_decide_eq_true h114
    refine t_region ?_
    refine r_op (oF 0) ?_
    refine r_op oL ?_
    refine r_op (o_subo rfl (by kernel_rfl) rfl rfl (.l rfl (by omega) (by (rw [sigs5_len]; omega)))) ?_
    refine r_op (oF 0) ?_
    refine r_op (oS 1) ?_
    refine r_end ?_
    refine t_endblock ?_
    refine tsr ?_
    refine r_op (oC 2) ?_
    refine r_op (oS 2) ?_
    refine r_end ?_
    refine gt_freeze 5 rfl (frz_cur (i := 5) hM rfl rfl rfl) ?_
    refine gt_freeze 6 rfl (frz_cur (i := 6) hM rfl rfl rfl) ?_
    refine t_ret Try.func16 (.cells (n := 2) (by kernel_rfl) (by kernel_rfl) rfl rfl rfl .nil) rfl fun E S w u hI hd => ?_
    refine post_mkG (⟨((sigs5).take (sigs5).length).drop ((1 : Int)).toNat, (fs1), (i294), (h295)⟩) ?_ hI hd ?_ ⟨rfl, trivial⟩ rfl rfl <;> clear hI hd <;> (try clear ih0)
    · (try dsimp only) <;> ((refine ⟨⟨?_, ?_, ?_, ?_⟩, by omega⟩ <;> (try dsimp only)) <;> first | decide | exact fun z hz => relS z (List.mem_of_mem_take (List.mem_of_mem_drop hz)) | omega)
    · rfl
   ·
    have h114' := of_decide_eq_false h114
    refine tsr ?_
    refine r_op oB ?_
    refine r_op oA ?_
    refine r_end ?_
    refine t_cond rfl (fun h115 => ?_) (fun h115 => ?_)
    ·
     have h115' := of_decide_eq_true h115
     refine t_draw (fun i => !(Nat.beq i 3 || Nat.beq i 5 || Nat.beq i 7)) (by kernel_rfl) ?_
     refine d_takeP 0 rfl rfl (by kernel_rfl) (by kernel_rfl) (by kernel_rfl) (pw_fieldb (off := 0) (by kernel_rfl) rfl) ?_
     refine dT 2 rfl pM ?_
     refine d_takeP 4 rfl rfl (by kernel_rfl) (by kernel_rfl) (by kernel_rfl) (pw_move rfl) ?_
     refine d_twoX 1 3 rfl rfl (by kernel_rfl) rfl rfl (osX oL) (o_callGM 0 10 11 (pv := some (v0)) (Go.Proofs.enters_of Try.func37 (by kernel_rfl) rfl) (c_spec_l1Below ((((code)))) ((i294)) ((h295)) (5) (by omega) (by omega) (by omega) (by omega) (by omega)) rfl rfl (.cur rfl (.cons rfl .nil)) rfl (fun ⟨_, _, _⟩ => rfl) (fun _ => rfl) (fun ⟨_, _, _⟩ => rfl) rfl rfl) ?_ ?_
     ·
      rintro ⟨⟩
      refine dOX 3 rfl (o_callGM 0 10 11 (pv := some (v0)) (Go.Proofs.enters_of Try.func37 (by kernel_rfl) rfl) (c_spec_l1Below ((((code)))) ((i294)) ((h295)) (5) (by omega) (by omega) (by omega) (by omega) (by omega)) rfl rfl (.cur rfl (.cons rfl .nil)) rfl (fun ⟨_, _, _⟩ => rfl) (fun _ => rfl) (fun ⟨_, _, _⟩ => rfl) rfl rfl) ?_
      rintro ⟨⟨x122, i2123, h2124⟩, hq125⟩
      try dsimp only at hq125
      try dsimp only
      obtain ⟨q126, q127⟩ := hq125
      refine dOX 5 rfl (o_callGM 0 11 12 (pv := some (v0)) (Go.Proofs.enters_of Try.func39 (by kernel_rfl) rfl) (c_spec_l3One (((((code))))) ((i2123)) ((h2124)) (by omega) (by omega) (by omega)) rfl rfl (.cur rfl .nil) rfl (fun ⟨_, _, _, _, _⟩ => rfl) (fun _ => rfl) (fun ⟨_, _, _, _, _⟩ => rfl) rfl rfl) ?_
      rintro ⟨⟨n128, ar129, b130, i2131, h2132⟩, hq133⟩
      try dsimp only at hq133
      try dsimp only
      obtain ⟨q134, q135⟩ := hq133
      obtain ⟨z136, hz137, b138⟩ := at_get (xs := sigs5) (n := (x122)) (by omega) (by (rw [sigs5_len]; omega))
      refine dT 6 rfl (p_indexo (by kernel_rfl) rfl rfl rfl b138 (at_lt b138 hz137)) ?_
      refine dO 7 rfl (o_storeo (((n128), (ar129), (b130))) (n := 3) (by kernel_rfl) rfl rfl hz137 rfl rfl rfl rfl (.cons .sc (.cons .sc (.cons .sc .nil))) rfl (fun j h1 h2 => by (simp at h1 h2; omega))) ?_
      refine d_end (by kernel_rfl) ?_
      refine t_endblock ?_
      refine tsr ?_
      refine r_op (oC 2) ?_
      refine r_op (oS 2) ?_
      refine r_end ?_
      refine gt_freeze 5 rfl (frz_cur (i := 5) hM rfl rfl rfl) ?_
      refine gt_freeze 6 rfl (frz_cur (i := 6) hM rfl rfl rfl) ?_
      refine t_ret Try.func16 (.cells (n := 2) (by kernel_rfl) (by kernel_rfl) rfl rfl rfl .nil) rfl fun E S w u hI hd => ?_
      refine post_mkG (⟨(sigs5).set ((x122)).toNat (((n128), (ar129), (b130))), (fs1), (i2131), (h2132)⟩) ?_ hI hd ?_ ⟨rfl, trivial⟩ rfl rfl <;> clear hI hd <;> (try clear ih0)
      · (try dsimp only) <;> ((refine ⟨⟨?_, ?_, ?_, ?_⟩, by omega⟩ <;> (try dsimp only)) <;> first | (simp only [List.length_set, List.length_drop, List.length_take, sigs5_len]; omega) | exact mem_set relS (by unfold relL; (try dsimp only); omega) | omega)
      · rfl
     ·
      rintro ⟨⟨x116, i2117, h2118⟩, hq119⟩
      try dsimp only at hq119
      try dsimp only
      obtain ⟨q120, q121⟩ := hq119
      refine d_twoX 1 5 rfl rfl (by kernel_rfl) rfl rfl (osX oL) (o_callGM 0 11 12 (pv := some (v0)) (Go.Proofs.enters_of Try.func39 (by kernel_rfl) rfl) (c_spec_l3One (((((code))))) ((i2117)) ((h2118)) (by omega) (by omega) (by omega)) rfl rfl (.cur rfl .nil) rfl (fun ⟨_, _, _, _, _⟩ => rfl) (fun _ => rfl) (fun ⟨_, _, _, _, _⟩ => rfl) rfl rfl) ?_ ?_
      ·
       rintro ⟨⟩
       refine dOX 5 rfl (o_callGM 0 11 12 (pv := some (v0)) (Go.Proofs.enters_of Try.func39 (by kernel_rfl) rfl) (c_spec_l3One (((((code))))) ((i2117)) ((h2118)) (by omega) (by omega) (by omega)) rfl rfl (.cur rfl .nil) rfl (fun ⟨_, _, _, _, _⟩ => rfl) (fun _ => rfl) (fun ⟨_, _, _, _, _⟩ => rfl) rfl rfl) ?_
       rintro ⟨⟨n147, ar148, b149, i2150, h2151⟩, hq152⟩
       try dsimp only at hq152
       try dsimp only
       obtain ⟨q153, q154⟩ := hq152
       obtain ⟨z155, hz156, b157⟩ := at_get (xs := sigs5) (n := (x116)) (by omega) (by (rw [sigs5_len]; omega))
       refine dT 6 rfl (p_indexo (by kernel_rfl) rfl rfl rfl b157 (at_lt b157 hz156)) ?_
       refine dO 7 rfl (o_storeo (((n147), (ar148), (b149))) (n := 3) (by kernel_rfl) rfl rfl hz156 rfl rfl rfl rfl (.cons .sc (.cons .sc (.cons .sc .nil))) rfl (fun j h1 h2 => by (simp at h1 h2; omega))) ?_
       refine d_end (by kernel_rfl) ?_
       refine t_endblock ?_
       refine tsr ?_
       refine r_op (oC 2) ?_
       refine r_op (oS 2) ?_
       refine r_end ?_
       refine gt_freeze 5 rfl (frz_cur (i := 5) hM rfl rfl rfl) ?_
       refine gt_freeze 6 rfl (frz_cur (i := 6) hM rfl rfl rfl) ?_
       refine t_ret Try.func16 (.cells (n := 2) (by kernel_rfl) (by kernel_rfl) rfl rfl rfl .nil) rfl fun E S w u hI hd => ?_
       refine post_mkG (⟨(sigs5).set ((x116)).toNat (((n147), (ar148), (b149))), (fs1), (i2150), (h2151)⟩) ?_ hI hd ?_ ⟨rfl, trivial⟩ rfl rfl <;> clear hI hd <;> (try clear ih0)
       · (try dsimp only) <;> ((refine ⟨⟨?_, ?_, ?_, ?_⟩, by omega⟩ <;> (try dsimp only)) <;> first | (simp only [List.length_set, List.length_drop, List.length_take, sigs5_len]; omega) | exact mem_set relS (by unfold relL; (try dsimp only); omega) | omega)
       · rfl
      ·
       rintro ⟨⟨n139, ar140, b141, i2142, h2143⟩, hq144⟩
       try dsimp only at hq144
       try dsimp only
       obtain ⟨q145, q146⟩ := hq144
       refine dT 1 rfl pL ?_
       obtain ⟨z158, hz159, b160⟩ := at_get (xs := sigs5) (n := (x116)) (by omega) (by (rw [sigs5_len]; omega))
       refine dT 6 rfl (p_indexo (by kernel_rfl) rfl rfl rfl b160 (at_lt b160 hz159)) ?_
       refine dO 7 rfl (o_storeo (((n139), (ar140), (b141))) (n := 3) (by kernel_rfl) rfl rfl hz159 rfl rfl rfl rfl (.cons .sc (.cons .sc (.cons .sc .nil))) rfl (fun j h1 h2 => by (simp at h1 h2; omega))) ?_
       refine d_end (by kernel_rfl) ?_
       refine t_endblock ?_
       refine tsr ?_
       refine r_op (oC 2) ?_
       refine r_op (oS 2) ?_
       refine r_end ?_
       refine gt_freeze 5 rfl (frz_cur (i := 5) hM rfl rfl rfl) ?_
       refine gt_freeze 6 rfl (frz_cur (i := 6) hM rfl rfl rfl) ?_
       refine t_ret Try.func16 (.cells (n := 2) (by kernel_rfl) (by kernel_rfl) rfl rfl rfl .nil) rfl fun E S w u hI hd => ?_
       refine post_mkG (⟨(sigs5).set ((x116)).toNat (((n139), (ar140), (b141))), (fs1), (i2142), (h2143)⟩) ?_ hI hd ?_ ⟨rfl, trivial⟩ rfl rfl <;> clear hI hd <;> (try clear ih0)
       · (try dsimp only) <;> ((refine ⟨⟨?_, ?_, ?_, ?_⟩, by omega⟩ <;> (try dsimp only)) <;> first | (simp only [List.length_set, List.length_drop, List.length_take, sigs5_len]; omega) | exact mem_set relS (by unfold relL; (try dsimp only); omega) | omega)
       · rfl
    ·
     have h115' := of_decide_eq_false h115
     refine t_skip ?_
     refine t_endblock ?_
     refine tsr ?_
     refine r_op (oC 2) ?_
     refine r_op (oS 2) ?_
     refine r_end ?_
     refine gt_freeze 5 rfl (frz_cur (i := 5) hM rfl rfl rfl) ?_
     refine gt_freeze 6 rfl (frz_cur (i := 6) hM rfl rfl rfl) ?_
     refine t_ret Try.func16 (.cells (n := 2) (by kernel_rfl) (by kernel_rfl) rfl rfl rfl .nil) rfl fun E S w u hI hd => ?_
     refine post_mkG (⟨sigs5, (fs1), (i294), (h295)⟩) ?_ hI hd ?_ ⟨rfl, trivial⟩ rfl rfl <;> clear hI hd <;> (try clear ih0)
     · (try dsimp only) <;> ((refine ⟨⟨?_, ?_, ?_, ?_⟩, by omega⟩ <;> (try dsimp only)) <;> first | decide | exact relS | omega)
     · rfl
set_option maxHeartbeats 1000000 in
set_option maxRecDepth 10000 in
theorem c_spec_DrawIsValidInstance (code : List Int) (hc : code.length ≤ 1048576) : PuG Try.prog 5 [.c (.t none (.sl 1 encU (code)))] (fun (⟨rs, fs⟩ : Rels × Atoms) => instL rs fs) (fun (⟨rs, fs⟩ : Rels × Atoms) => []) 0 (fun (⟨rs, fs⟩ : Rels × Atoms) => .agg [.t none (.sl 3 (enS3 encS encI encB) (rs)), .t none (.sl 2 (enS2 encI (enSl 1 encI)) (fs))]) := by
 refine pu_enterG Try.func5 rfl (Nat.le_of_ble_eq_true rfl) fun w S => ?_
 refine tsr ?_
 refine r_op (o_alloc 0 (zs := [.slice none 0 0, .slice none 0 0]) rfl rfl (by kernel_rfl) rfl) ?_
 refine etr ?_
 refine r_op oM ?_
 refine r_opX (o_callG 1 2 (Go.Proofs.enters_of Try.func17 (by kernel_rfl) rfl) (c_spec_l1New (code) (by omega)) rfl (.cons rfl (.c .t0) .nil) rfl rfl) ?_
 rintro ⟨h1, hq2⟩
 try dsimp only at hq2
 try dsimp only
 refine r_opX (o_callGM 1 2 3 (pv := none) (Go.Proofs.enters_of Try.func16 (by kernel_rfl) rfl) (c_spec_l5Any ((code)) (0) ((h1)) (by omega) (by omega) (by omega)) rfl rfl (.cur rfl .nil) rfl (fun ⟨_, _, _, _⟩ => rfl) (fun _ => rfl) (fun ⟨_, _, _, _⟩ => rfl) rfl rfl) ?_
 rintro ⟨⟨rs4, fs5, i26, h27⟩, hq8⟩
 try dsimp only at hq8
 try dsimp only
 obtain ⟨q9, q10⟩ := hq8
 refine r_op (oS 2) ?_
 refine r_end ?_
 refine t_ret Try.func5 (.cells (n := 2) (by kernel_rfl) (by kernel_rfl) rfl rfl rfl .nil) rfl fun E S w u hI hd => ?_
 refine post_mkG (⟨(rs4), (fs5)⟩) ?_ hI hd ?_ trivial rfl rfl <;> clear hI hd
 · (try dsimp only) <;> (assumption)
 · rfl
set_option maxHeartbeats 1000000 in
set_option maxRecDepth 10000 in
theorem c_impl_within (a0 a1 a2 : Int) : Pu Try.prog 64 [.c (.t none (.v (.int .i64 (a0)))), .c (.t none (.v (.int .i64 (a1)))), .c (.t none (.v (.int .i64 (a2))))] [] 0 (.c (.t none (.v (.bool (decide (a1 ≤ a0 ∧ a0 ≤ a2)))))) := by
 refine pu_enter Try.func64 rfl (Nat.le_of_ble_eq_true rfl) fun w S => ?_
 refine tsr ?_
 refine r_op oA ?_
 refine etr ?_
 refine r_op oM ?_
 refine r_op oM ?_
 refine r_op oB ?_
 refine r_op oM ?_
 refine r_guard rfl rfl rfl (fun g1 => ?_) (fun g1 => ?_)
 ·
  have g1' := of_decide_eq_true g1
  refine r_op oM ?_
  refine r_guard rfl rfl rfl (fun _ => ?_) (nc g1)
  refine r_op oM ?_
  refine r_guard rfl rfl rfl (fun _ => ?_) (nc g1)
  refine r_op oB ?_
  refine r_op (o_pickT rfl rfl g1 rfl) ?_
  refine r_op oA ?_
  refine r_end ?_
  refine t_ret Try.func64 (.tmp rfl .nil) rfl fun E S w u hI hd => ?_
  refine post_mk hI hd ?_ trivial rfl rfl rfl <;> clear hI hd
  all_goals (simp_all <;> omega)
 ·
  have g1' := of_decide_eq_false g1
  refine r_guard rfl rfl rfl (ncf g1) (fun _ => ?_)
  refine r_guard rfl rfl rfl (ncf g1) (fun _ => ?_)
  refine r_op (o_pickF rfl rfl g1 rfl) ?_
  refine r_op oA ?_
  refine r_end ?_
  refine t_ret Try.func64 (.tmp rfl .nil) rfl fun E S w u hI hd => ?_
  refine post_mk hI hd ?_ trivial rfl rfl rfl <;> clear hI hd
  all_goals (simp_all <;> omega)
set_option maxHeartbeats 1000000 in
set_option maxRecDepth 10000 in
theorem c_impl_IsValidRelation (n : List UInt8) (a : Int) (s : Bool) : Pu Try.prog 63 [.agg [.t none (.v (.string (mkS (n)))), .t none (.v (.int .i64 (a))), .t none (.v (.bool (s)))]] [] 0 (.c (.t none (.v (.bool (relOk (n, a, s)))))) := by
 refine pu_enter Try.func63 rfl (Nat.le_of_ble_eq_true rfl) fun w S => ?_
 refine tsr ?_
 refine r_op (o_box 0 rfl rfl rfl rfl) ?_
 refine r_op oA ?_
 refine etr ?_
 refine r_op (oF 0) ?_
 refine r_op oL ?_
 refine r_op (o_lenS rfl Try.underlying9 rfl) ?_
 refine r_op oB ?_
 refine r_op oM ?_
 refine r_guard rfl rfl rfl (fun g1 => ?_) (fun g1 => ?_)
 ·
  have g1' := of_decide_eq_true g1
  refine r_op (oF 0) ?_
  refine r_guard rfl rfl rfl (fun _ => ?_) (nc g1)
  refine r_op oL ?_
  refine r_guard rfl rfl rfl (fun _ => ?_) (nc g1)
  refine r_op (o_str rfl rfl rfl rfl) ?_
  refine r_op (o_pickT rfl rfl g1 rfl) ?_
  refine r_op oM ?_
  refine r_guard rfl rfl rfl (fun g2 => ?_) (fun g2 => ?_)
  ·
   have g2' := (bnt g2)
   refine r_op (oF 0) ?_
   refine r_guard rfl rfl rfl (fun _ => ?_) (nc g2)
   refine r_op oL ?_
   refine r_guard rfl rfl rfl (fun _ => ?_) (nc g2)
   refine r_op (o_str rfl rfl rfl rfl) ?_
   refine r_op (o_pickT rfl rfl g2 rfl) ?_
   refine r_op oM ?_
   refine r_guard rfl rfl rfl (fun g3 => ?_) (fun g3 => ?_)
   ·
    have g3' := (bnt g3)
    refine r_op (oF 1) ?_
    refine r_guard rfl rfl rfl (fun _ => ?_) (nc g3)
    refine r_op oL ?_
    refine r_guard rfl rfl rfl (fun _ => ?_) (nc g3)
    refine r_op (o_call 1 1 false (Go.Proofs.enters_of Try.func64 (by kernel_rfl) rfl) (c_impl_within (a) (1) (3)) rfl (.cons rfl (.c .t0) (.cons rfl (.c .t0) (.cons rfl (.c .t0) .nil))) rfl rfl rfl) ?_
    refine r_op (o_pickT rfl rfl g3 rfl) ?_
    refine r_op oA ?_
    refine r_end ?_
    refine t_ret Try.func63 (.tmp rfl .nil) rfl fun E S w u hI hd => ?_
    refine post_mk hI hd ?_ trivial rfl rfl rfl <;> clear hI hd
    all_goals (refine scB ?_; (obtain ⟨c, rfl⟩ := one_of (by assumption); simp only [less_lo, less_hi, Bool.not_eq_true', Bool.not_eq_false', decide_eq_true_eq, decide_eq_false_iff_not] at *; simp [relOk, nameOk]; omega))
   ·
    have g3' := (bnf g3)
    refine r_guard rfl rfl rfl (ncf g3) (fun _ => ?_)
    refine r_guard rfl rfl rfl (ncf g3) (fun _ => ?_)
    refine r_op (o_pickF rfl rfl g3 rfl) ?_
    refine r_op oA ?_
    refine r_end ?_
    refine t_ret Try.func63 (.tmp rfl .nil) rfl fun E S w u hI hd => ?_
    refine post_mk hI hd ?_ trivial rfl rfl rfl <;> clear hI hd
    all_goals (refine scB ?_; (obtain ⟨c, rfl⟩ := one_of (by assumption); simp only [less_lo, less_hi, Bool.not_eq_true', Bool.not_eq_false', decide_eq_true_eq, decide_eq_false_iff_not] at *; simp [relOk, nameOk]; omega))
  ·
   have g2' := (bnf g2)
   refine r_guard rfl rfl rfl (ncf g2) (fun _ => ?_)
   refine r_guard rfl rfl rfl (ncf g2) (fun _ => ?_)
   refine r_op (o_pickF rfl rfl g2 rfl) ?_
   refine r_op oM ?_
   refine r_guard rfl rfl rfl (ncf rfl) (fun _ => ?_)
   refine r_guard rfl rfl rfl (ncf rfl) (fun _ => ?_)
   refine r_guard rfl rfl rfl (ncf rfl) (fun _ => ?_)
   refine r_op (o_pickF rfl rfl rfl rfl) ?_
   refine r_op oA ?_
   refine r_end ?_
   refine t_ret Try.func63 (.tmp rfl .nil) rfl fun E S w u hI hd => ?_
   refine post_mk hI hd ?_ trivial rfl rfl rfl <;> clear hI hd
   all_goals (refine scB ?_; (obtain ⟨c, rfl⟩ := one_of (by assumption); simp only [less_lo, less_hi, Bool.not_eq_true', Bool.not_eq_false', decide_eq_true_eq, decide_eq_false_iff_not] at *; simp [relOk, nameOk]; omega))
 ·
  have g1' := of_decide_eq_false g1
  refine r_guard rfl rfl rfl (ncf g1) (fun _ => ?_)
  refine r_guard rfl rfl rfl (ncf g1) (fun _ => ?_)
  refine r_op (o_pickF rfl rfl g1 rfl) ?_
  refine r_op oM ?_
  refine r_guard rfl rfl rfl (ncf rfl) (fun _ => ?_)
  refine r_guard rfl rfl rfl (ncf rfl) (fun _ => ?_)
  refine r_guard rfl rfl rfl (ncf rfl) (fun _ => ?_)
  refine r_op (o_pickF rfl rfl rfl rfl) ?_
  refine r_op oM ?_
  refine r_guard rfl rfl rfl (ncf rfl) (fun _ => ?_)
  refine r_guard rfl rfl rfl (ncf rfl) (fun _ => ?_)
  refine r_guard rfl rfl rfl (ncf rfl) (fun _ => ?_)
  refine r_op (o_pickF rfl rfl rfl rfl) ?_
  refine r_op oA ?_
  refine r_end ?_
  refine t_ret Try.func63 (.tmp rfl .nil) rfl fun E S w u hI hd => ?_
  refine post_mk hI hd ?_ trivial rfl rfl rfl <;> clear hI hd
  all_goals (refine scB ?_; (have e := nameOk_not (by assumption); simp [relOk, e]; done))
set_option maxHeartbeats 1000000 in
set_option maxRecDepth 10000 in
theorem c_impl_AreValidRelations (l : List (List UInt8 × Int × Bool)) (hl : l.length ≤ 4611686018427387904) : Pu Try.prog 40 [.c (.t none (.sl 3 (enS3 encS encI encB) (l)))] [] 0 (.c (.t none (.v (.bool (relsOk l))))) := by
 refine pu_enter Try.func40 rfl (Nat.le_of_ble_eq_true rfl) fun w S => ?_
 refine tsr ?_
 refine r_op oA ?_
 refine r_end ?_
 refine t_seq ?_
 refine tsr ?_
 refine r_op oM ?_
 refine r_op (o_len rfl rfl rfl) ?_
 refine r_op oM ?_
 refine r_end ?_
 refine t_block ?_
 refine t_loopL (fun m => ⟨[(0, some (.c (.t none (.sl 3 (enS3 encS encI encB) (l))))), (5, some (.c (.t none (.sl 3 (enS3 encS encI encB) (l))))), (6, some (.c (.t none (.v (.int .i64 (((l).length : Int))))))), (7, some (.c (.t none (.v (.int .i64 ((m : Int)))))))], [], 0⟩ : Nat → St) (fun m => m ≤ l.length ∧ ∀ j, j < m → relStep l j = true) (fun m => l.length - m) 0 ⟨⟨rfl, ⟨rfl, ⟨rfl, ⟨rfl, trivial⟩⟩⟩⟩, trivial, rfl⟩ (by exact ⟨Nat.zero_le _, fun j h => by omega⟩) ?_
 rintro m hI ih0
 try dsimp only at hI ih0
 obtain ⟨i1, i2⟩ := hI
 refine tsr ?_
 refine r_op oB ?_
 refine r_end ?_
 refine t_seq ?_
 refine t_cond rfl (fun h1 => ?_) (fun h1 => ?_)
 ·
  have h1' := of_decide_eq_true h1
  refine t_skip ?_
  refine t_seq ?_
  refine t_block ?_
  refine tsr ?_
  refine r_op oM ?_
  obtain ⟨z2, hz3, b4⟩ := at_get (xs := l) (n := (m : Int)) (by omega) (by omega)
  refine r_op (o_index rfl (by kernel_rfl) rfl rfl b4 hz3) ?_
  refine r_op (o_loadA rfl (n := 3) (by kernel_rfl) (by kernel_rfl) rfl rfl) ?_
  refine r_op (o_alloc 0 (zs := [.string (mkS ([])), .int .i64 (0), .bool (false)]) rfl rfl (by kernel_rfl) rfl) ?_
  refine r_op oA ?_
  refine r_op (oS 3) ?_
  refine r_end ?_
  refine t_seq ?_
  refine t_draw (fun _ => true) (by kernel_rfl) ?_
  refine dT 0 rfl (pC 3) ?_
  refine dO 1 rfl (o_call 1 1 false (Go.Proofs.enters_of Try.func63 (by kernel_rfl) rfl) (c_impl_IsValidRelation (z2.1) (z2.2.1) (z2.2.2)) rfl (.cons rfl (.agg (.cons .t0 (.cons .t0 (.cons .t0 .nil)))) .nil) rfl rfl rfl) ?_
  refine dT 2 rfl (p_not rfl) ?_
  refine dT 3 rfl pM ?_
  refine dH 4 rfl (fun _ => pM) (fun g5 => ?_) (fun g5 => ?_)
  ·
   have g5' := (bnf g5)
   refine dH 5 rfl (fun _ => pB) (fun _ => ?_) (ncf g5)
   refine dH 6 rfl (fun _ => pM) (fun _ => ?_) (ncf g5)
   refine dH 7 rfl (fun _ => pF 0) (fun g6 => ?_) (fun g6 => ?_)
   ·
    have g6' := of_decide_eq_true g6
    refine dH 8 rfl (fun _ => pL) (fun _ => ?_) (nc g6)
    refine dH 9 rfl (fun _ => pM) (fun _ => ?_) (nc g6)
    refine dH 10 rfl (fun _ => pM) (fun _ => ?_) (nc g6)
    refine dH 11 rfl (fun _ => pB) (fun _ => ?_) (nc g6)
    obtain ⟨z7, hz8, b9⟩ := at_get (xs := l) (n := IntKind.i64.wrap ((m : Int) - 1)) (by (simp only [IntKind.wrap_i64]; omega)) (by (simp only [IntKind.wrap_i64]; omega))
    refine dH 12 rfl (fun _ => p_index (by kernel_rfl) rfl rfl b9 hz8) (fun _ => ?_) (nc g6)
    refine dH 13 rfl (fun _ => p_field (off := 0) (by kernel_rfl) rfl) (fun _ => ?_) (nc g6)
    refine dH 14 rfl (fun _ => p_load1 (by kernel_rfl) rfl rfl) (fun _ => ?_) (nc g6)
    refine dH 15 rfl (fun _ => p_str rfl rfl rfl) (fun _ => ?_) (nc g6)
    refine dH 16 rfl (fun _ => p_pickT rfl g6 rfl) (fun _ => ?_) (ncf g5)
    refine dT 17 rfl (p_pickF rfl g5 rfl) ?_
    refine d_end (by kernel_rfl) ?_
    refine t_cond rfl (fun h10 => ?_) (fun h10 => ?_)
    ·
     have h10' := (bnt h10)
     refine tsr ?_
     refine r_op oA ?_
     refine r_end ?_
     refine t_ret Try.func40 (.tmp rfl .nil) rfl fun E S w u hI hd => ?_
     refine post_mk hI hd ?_ trivial rfl rfl rfl <;> clear hI hd <;> (try clear ih0)
     all_goals (rw [relsOk_not (m := m) (by omega) (relStep_pos (n := (IntKind.i64.wrap ((m : Int) - 1)).toNat) (by assumption) (by assumption) (by omega) (by simp only [IntKind.wrap_i64]; omega) (by assumption) (by assumption))])
    ·
     have h10' := (bnf h10)
     refine t_skip ?_
     refine t_endblock ?_
     refine t_region ?_
     refine r_op oB ?_
     refine r_op oM ?_
     refine r_end ?_
     refine t_le ?_ (ih0 (m + 1) (by (try dsimp only); omega) (by (try dsimp only); exact ⟨by omega, step_all i2 (relStep_pos (n := (IntKind.i64.wrap ((m : Int) - 1)).toNat) (by assumption) (by assumption) (by omega) (by simp only [IntKind.wrap_i64]; omega) (by assumption) (by assumption))⟩))
     exact ⟨⟨rfl, ⟨rfl, ⟨rfl, ⟨(eqI (wr64 (by omega) (by omega))), trivial⟩⟩⟩⟩, trivial, rfl⟩
   ·
    have g6' := of_decide_eq_false g6
    refine dG 8 (ncf g6) (fun _ => ?_)
    refine dG 9 (ncf g6) (fun _ => ?_)
    refine dG 10 (ncf g6) (fun _ => ?_)
    refine dG 11 (ncf g6) (fun _ => ?_)
    refine dG 12 (ncf g6) (fun _ => ?_)
    refine dG 13 (ncf g6) (fun _ => ?_)
    refine dG 14 (ncf g6) (fun _ => ?_)
    refine dG 15 (ncf g6) (fun _ => ?_)
    refine dH 16 rfl (fun _ => p_pickF rfl g6 rfl) (fun _ => ?_) (ncf g5)
    refine dT 17 rfl (p_pickF rfl g5 rfl) ?_
    refine d_end (by kernel_rfl) ?_
    refine t_cond rfl (ncf rfl) (fun _ => ?_)
    refine t_skip ?_
    refine t_endblock ?_
    refine t_region ?_
    refine r_op oB ?_
    refine r_op oM ?_
    refine r_end ?_
    refine t_le ?_ (ih0 (m + 1) (by (try dsimp only); omega) (by (try dsimp only); exact ⟨by omega, step_all i2 (relStep_zero (by assumption) (by assumption) (by omega))⟩))
    exact ⟨⟨rfl, ⟨rfl, ⟨rfl, ⟨(eqI (wr64 (by omega) (by omega))), trivial⟩⟩⟩⟩, trivial, rfl⟩
  ·
   have g5' := (bnt g5)
   refine dG 5 (nc g5) (fun _ => ?_)
   refine dG 6 (nc g5) (fun _ => ?_)
   refine dK 7 ?_
   refine dK 8 ?_
   refine dK 9 ?_
   refine dK 10 ?_
   refine dK 11 ?_
   refine dK 12 ?_
   refine dK 13 ?_
   refine dK 14 ?_
   refine dK 15 ?_
   refine dG 16 (nc g5) (fun _ => ?_)
   refine dT 17 rfl (p_pickT rfl g5 rfl) ?_
   refine d_end (by kernel_rfl) ?_
   refine t_cond rfl (fun _ => ?_) (nc rfl)
   refine tsr ?_
   refine r_op oA ?_
   refine r_end ?_
   refine t_ret Try.func40 (.tmp rfl .nil) rfl fun E S w u hI hd => ?_
   refine post_mk hI hd ?_ trivial rfl rfl rfl <;> clear hI hd <;> (try clear ih0)
   all_goals (rw [relsOk_not (m := m) (by omega) (relStep_bad (by assumption) (by assumption))])
 ·
  have h1' := of_decide_eq_false h1
  refine t_exit rfl ?_
  refine tsr ?_
  refine r_op oM ?_
  refine r_op (o_len rfl rfl rfl) ?_
  refine r_op oB ?_
  refine r_op oA ?_
  refine r_end ?_
  refine t_ret Try.func40 (.tmp rfl .nil) rfl fun E S w u hI hd => ?_
  refine post_mk hI hd ?_ trivial rfl rfl rfl <;> clear hI hd <;> (try clear ih0)
  all_goals (rw [relsOk_end (m := m) i2 (by omega)]; exact scD (by omega))
set_option maxHeartbeats 1000000 in
set_option maxRecDepth 10000 in
theorem c_slices_IndexFunc___int_int_ (l : List (Int)) (f : Nat) (cs : List ((Nat → T) × Nat)) (p : Int → Bool) (hl : l.length ≤ 9223372036854775807) (hf : ∀ x ∈ l, Fu Try.prog f ([.c (.t none (.v (.int .i64 (x))))] ++ pels cs) (.c (.t none (.v (.bool (p x)))))) : Pu Try.prog 75 [.c (.t none (.sl 1 encI (l))), .c (.fv f cs)] [] 0 (.c (.t none (.v (.int .i64 (idxI p l))))) := by
 refine pu_enter Try.func75 rfl (Nat.le_of_ble_eq_true rfl) fun w S => ?_
 refine tsr ?_
 refine r_op oA ?_
 refine r_end ?_
 refine t_seq ?_
 refine tsr ?_
 refine r_op oM ?_
 refine r_op (o_len rfl rfl rfl) ?_
 refine r_op oM ?_
 refine r_end ?_
 refine t_block ?_
 refine t_loopL (fun m => ⟨[(0, some (.c (.t none (.sl 1 encI (l))))), (1, some (.c (.fv f cs))), (7, some (.c (.t none (.v (.int .i64 (((l).length : Int))))))), (8, some (.c (.t none (.v (.int .i64 ((m : Int)))))))], [], 0⟩ : Nat → St) (fun m => m ≤ l.length ∧ ∀ j z, j < m → l[j]? = some z → p z = false) (fun m => l.length - m) 0 ⟨⟨rfl, ⟨rfl, ⟨rfl, ⟨rfl, trivial⟩⟩⟩⟩, trivial, rfl⟩ (by exact ⟨Nat.zero_le _, fun j z h => by omega⟩) ?_
 rintro m hI ih0
 try dsimp only at hI ih0
 obtain ⟨i1, i2⟩ := hI
 refine tsr ?_
 refine r_op oB ?_
 refine r_end ?_
 refine t_seq ?_
 refine t_cond rfl (fun h1 => ?_) (fun h1 => ?_)
 ·
  have h1' := of_decide_eq_true h1
  refine t_skip ?_
  refine t_seq ?_
  refine t_block ?_
  refine tsr ?_
  refine r_op oM ?_
  refine r_op oA ?_
  refine etr ?_
  refine r_op oM ?_
  refine r_op oM ?_
  refine r_op oM ?_
  obtain ⟨z2, hz3, b4⟩ := at_get (xs := l) (n := (m : Int)) (by omega) (by omega)
  refine r_op (o_index rfl (by kernel_rfl) rfl rfl b4 hz3) ?_
  refine r_op (o_load1 rfl (by kernel_rfl) rfl rfl) ?_
  refine r_op (o_callv 0 0 false (hf z2 (List.mem_of_getElem? (by assumption))).1 (hf z2 (List.mem_of_getElem? (by assumption))).2 rfl rfl (.c .fv) (.cons rfl (.c .t0) .nil) rfl rfl rfl) ?_
  refine r_end ?_
  refine t_cond rfl (fun h5 => ?_) (fun h5 => ?_)
  ·
   have h5' := h5
   refine tsr ?_
   refine r_op oM ?_
   refine r_op oA ?_
   refine r_end ?_
   refine t_ret Try.func75 (.tmp rfl .nil) rfl fun E S w u hI hd => ?_
   refine post_mk hI hd ?_ trivial rfl rfl rfl <;> clear hI hd <;> (try clear ih0)
   all_goals (rw [idx_hit i2 (by assumption) (by assumption)])
  ·
   have h5' := h5
   refine t_skip ?_
   refine t_endblock ?_
   refine t_region ?_
   refine r_op oB ?_
   refine r_op oM ?_
   refine r_end ?_
   refine t_le ?_ (ih0 (m + 1) (by (try dsimp only); omega) (by (try dsimp only); exact ⟨by omega, no_step i2 (by assumption) rfl (by assumption)⟩))
   exact ⟨⟨rfl, ⟨rfl, ⟨rfl, ⟨(eqI (wr64 (by omega) (by omega))), trivial⟩⟩⟩⟩, trivial, rfl⟩
 ·
  have h1' := of_decide_eq_false h1
  refine t_exit rfl ?_
  refine tsr ?_
  refine r_op oA ?_
  refine r_end ?_
  refine t_ret Try.func75 (.tmp rfl .nil) rfl fun E S w u hI hd => ?_
  refine post_mk hI hd ?_ trivial rfl rfl rfl <;> clear hI hd <;> (try clear ih0)
  all_goals (rw [idx_none i2 (by omega)])
set_option maxHeartbeats 1000000 in
set_option maxRecDepth 10000 in
theorem c_slices_ContainsFunc___int_int_ (l : List (Int)) (f : Nat) (cs : List ((Nat → T) × Nat)) (p : Int → Bool) (hl : l.length ≤ 9223372036854775807) (hf : ∀ x ∈ l, Fu Try.prog f ([.c (.t none (.v (.int .i64 (x))))] ++ pels cs) (.c (.t none (.v (.bool (p x)))))) : Pu Try.prog 65 [.c (.t none (.sl 1 encI (l))), .c (.fv f cs)] [] 0 (.c (.t none (.v (.bool (l.any p))))) := by
 refine pu_enter Try.func65 rfl (Nat.le_of_ble_eq_true rfl) fun w S => ?_
 refine tsr ?_
 refine r_op oA ?_
 refine etr ?_
 refine r_op oM ?_
 refine r_op oM ?_
 refine r_op (o_call 0 0 false (Go.Proofs.enters_of Try.func75 (by kernel_rfl) rfl) (c_slices_IndexFunc___int_int_ (l) (f) (cs) (p) (by omega) (hf)) rfl (.cons rfl (.c .t0) (.cons rfl (.c .fv) .nil)) rfl rfl rfl) ?_
 refine r_op oB ?_
 refine r_op oA ?_
 refine r_end ?_
 refine t_ret Try.func65 (.tmp rfl .nil) rfl fun E S w u hI hd => ?_
 refine post_mk hI hd ?_ trivial rfl rfl rfl <;> clear hI hd
 all_goals (exact scB idx_any)
set_option maxHeartbeats 1000000 in
set_option maxRecDepth 10000 in
theorem c_impl_IsValidValue (v : Int) : Pu Try.prog 67 [.c (.t none (.v (.int .i64 (v))))] [] 0 (.c (.t none (.v (.bool (decide (-40 ≤ v ∧ v ≤ 9)))))) := by
 refine pu_enter Try.func67 rfl (Nat.le_of_ble_eq_true rfl) fun w S => ?_
 refine tsr ?_
 refine r_op oA ?_
 refine etr ?_
 refine r_op oM ?_
 refine r_op (o_call 0 0 false (Go.Proofs.enters_of Try.func64 (by kernel_rfl) rfl) (c_impl_within (v) (-40) (9)) rfl (.cons rfl (.c .t0) (.cons rfl (.c .t0) (.cons rfl (.c .t0) .nil))) rfl rfl rfl) ?_
 refine r_op oA ?_
 refine r_end ?_
 refine t_ret Try.func67 (.tmp rfl .nil) rfl fun E S w u hI hd => ?_
 refine post_mk hI hd ?_ trivial rfl rfl rfl <;> clear hI hd
 all_goals (rfl)
set_option maxHeartbeats 1000000 in
set_option maxRecDepth 10000 in
theorem c_impl_IsValidFact_1 (t : Int) : Pu Try.prog 66 [.c (.t none (.v (.int .i64 (t))))] [] 0 (.c (.t none (.v (.bool (!(valOk t)))))) := by
 refine pu_enter Try.func66 rfl (Nat.le_of_ble_eq_true rfl) fun w S => ?_
 refine tsr ?_
 refine r_op oA ?_
 refine etr ?_
 refine r_op oM ?_
 refine r_op (o_call 0 0 false (Go.Proofs.enters_of Try.func67 (by kernel_rfl) rfl) (c_impl_IsValidValue (t)) rfl (.cons rfl (.c .t0) .nil) rfl rfl rfl) ?_
 refine r_op (o_not rfl rfl) ?_
 refine r_op oA ?_
 refine r_end ?_
 refine t_ret Try.func66 (.tmp rfl .nil) rfl fun E S w u hI hd => ?_
 refine post_mk hI hd ?_ trivial rfl rfl rfl <;> clear hI hd
 all_goals (rfl)
set_option maxHeartbeats 1000000 in
set_option maxRecDepth 10000 in
theorem c_impl_IsValidFact (rs : List (List UInt8 × Int × Bool)) (r : Int) (ts : List Int) (hrs : rs.length ≤ 4611686018427387904) (hts : ts.length ≤ 4611686018427387904) (ho : ∀ x ∈ ts, okI x) : Pu Try.prog 41 [.c (.t none (.sl 3 (enS3 encS encI encB) (rs))), .agg [.t none (.v (.int .i64 (r))), .t none (.sl 1 encI (ts))]] [] 0 (.c (.t none (.v (.bool (factOk rs r ts))))) := by
 refine pu_enter Try.func41 rfl (Nat.le_of_ble_eq_true rfl) fun w S => ?_
 refine tsr ?_
 refine r_op (o_box 0 rfl rfl rfl rfl) ?_
 refine r_op oA ?_
 refine r_end ?_
 refine t_seq ?_
 refine t_seq ?_
 refine t_draw (fun _ => true) (by kernel_rfl) ?_
 refine dT 0 rfl pM ?_
 refine dO 1 rfl (o_call 1 1 false (Go.Proofs.enters_of Try.func40 (by kernel_rfl) rfl) (c_impl_AreValidRelations (rs) (by omega)) rfl (.cons rfl (.c .t0) .nil) rfl rfl rfl) ?_
 refine dT 2 rfl (p_not rfl) ?_
 refine dT 3 rfl pM ?_
 refine dH 4 rfl (fun _ => pF 0) (fun g1 => ?_) (fun g1 => ?_)
 ·
  have g1' := (bnf g1)
  refine dH 5 rfl (fun _ => pL) (fun _ => ?_) (ncf g1)
  refine dH 6 rfl (fun _ => pM) (fun _ => ?_) (ncf g1)
  refine dH 7 rfl (fun _ => p_len rfl rfl) (fun _ => ?_) (ncf g1)
  refine dH 8 rfl (fun _ => pB) (fun _ => ?_) (ncf g1)
  refine d_onlyG 9 rfl rfl (by kernel_rfl) rfl rfl rfl (fun _ => (o_call 1 1 false (Go.Proofs.enters_of Try.func64 (by kernel_rfl) rfl) (c_impl_within (r) (0) (IntKind.i64.wrap (((rs).length : Int) - 1))) rfl (.cons rfl (.c .t0) (.cons rfl (.c .t0) (.cons rfl (.c .t0) .nil))) rfl rfl rfl)) (fun _ => ?_) (ncf g1)
  refine dH 10 rfl (fun _ => p_not rfl) (fun _ => ?_) (ncf g1)
  refine dT 11 rfl (p_pickF rfl g1 rfl) ?_
  refine dT 12 rfl pM ?_
  refine dH 13 rfl (fun _ => pF 1) (fun g2 => ?_) (fun g2 => ?_)
  ·
   have g2' := of_decide_eq_true (bnf g2)
   refine dH 14 rfl (fun _ => pL) (fun _ => ?_) (ncf g2)
   refine dH 15 rfl (fun _ => p_len rfl rfl) (fun _ => ?_) (ncf g2)
   refine dH 16 rfl (fun _ => pM) (fun _ => ?_) (ncf g2)
   refine dH 17 rfl (fun _ => pF 0) (fun _ => ?_) (ncf g2)
   refine dH 18 rfl (fun _ => pL) (fun _ => ?_) (ncf g2)
   obtain ⟨z3, hz4, b5⟩ := at_get (xs := rs) (n := r) (by omega) (by (simp only [IntKind.wrap_i64] at *; omega))
   refine dH 19 rfl (fun _ => p_index (by kernel_rfl) rfl rfl b5 hz4) (fun _ => ?_) (ncf g2)
   refine dH 20 rfl (fun _ => p_field (off := 1) (by kernel_rfl) rfl) (fun _ => ?_) (ncf g2)
   refine dH 21 rfl (fun _ => p_load1 (by kernel_rfl) rfl rfl) (fun _ => ?_) (ncf g2)
   refine dH 22 rfl (fun _ => pB) (fun _ => ?_) (ncf g2)
   refine dT 23 rfl (p_pickF rfl g2 rfl) ?_
   refine d_end (by kernel_rfl) ?_
   refine t_cond rfl (fun h6 => ?_) (fun h6 => ?_)
   ·
    have h6' := of_decide_eq_true h6
    refine tsr ?_
    refine r_op oA ?_
    refine r_end ?_
    refine t_ret Try.func41 (.tmp rfl .nil) rfl fun E S w u hI hd => ?_
    refine post_mk hI hd ?_ trivial rfl rfl rfl <;> clear hI hd
    all_goals (refine scB ?_; (rw [fact_no3 (by assumption) (by assumption)]; done))
   ·
    have h6' := of_decide_eq_false h6
    refine t_skip ?_
    refine tsr ?_
    refine r_op (oF 1) ?_
    refine r_op oL ?_
    refine r_op (o_call 1 1 false (Go.Proofs.enters_of Try.func65 (by kernel_rfl) rfl) (c_slices_ContainsFunc___int_int_ (ts) (66) ([]) (fun (x0 : Int) => !(valOk (x0))) (by omega) (fun x0 mx0 => ⟨Go.Proofs.enters_of Try.func66 (by kernel_rfl) rfl, c_impl_IsValidFact_1 (x0)⟩)) rfl (.cons rfl (.c .t0) (.cons rfl (.c (.clo .nil)) .nil)) rfl rfl rfl) ?_
    refine r_op (o_not rfl rfl) ?_
    refine r_op oA ?_
    refine r_end ?_
    refine t_ret Try.func41 (.tmp rfl .nil) rfl fun E S w u hI hd => ?_
    refine post_mk hI hd ?_ trivial rfl rfl rfl <;> clear hI hd
    all_goals (refine scB ?_; (rw [fact_yes (by assumption) (by simp only [IntKind.wrap_i64] at *; omega) (by assumption) (by omega)]; done))
  ·
   have g2' := of_decide_eq_false (bnt g2)
   refine dG 14 (nc g2) (fun _ => ?_)
   refine dG 15 (nc g2) (fun _ => ?_)
   refine dG 16 (nc g2) (fun _ => ?_)
   refine dG 17 (nc g2) (fun _ => ?_)
   refine dG 18 (nc g2) (fun _ => ?_)
   refine dG 19 (nc g2) (fun _ => ?_)
   refine dG 20 (nc g2) (fun _ => ?_)
   refine dG 21 (nc g2) (fun _ => ?_)
   refine dG 22 (nc g2) (fun _ => ?_)
   refine dT 23 rfl (p_pickT rfl g2 rfl) ?_
   refine d_end (by kernel_rfl) ?_
   refine t_cond rfl (fun _ => ?_) (nc rfl)
   refine tsr ?_
   refine r_op oA ?_
   refine r_end ?_
   refine t_ret Try.func41 (.tmp rfl .nil) rfl fun E S w u hI hd => ?_
   refine post_mk hI hd ?_ trivial rfl rfl rfl <;> clear hI hd
   all_goals (refine scB ?_; (rw [fact_no2 (by simp only [IntKind.wrap_i64] at *; omega)]; done))
 ·
  have g1' := (bnt g1)
  refine dG 5 (nc g1) (fun _ => ?_)
  refine dG 6 (nc g1) (fun _ => ?_)
  refine dG 7 (nc g1) (fun _ => ?_)
  refine dG 8 (nc g1) (fun _ => ?_)
  refine dG 9 (nc g1) (fun _ => ?_)
  refine dG 10 (nc g1) (fun _ => ?_)
  refine dT 11 rfl (p_pickT rfl g1 rfl) ?_
  refine dT 12 rfl pM ?_
  refine dG 13 (nc rfl) (fun _ => ?_)
  refine dG 14 (nc rfl) (fun _ => ?_)
  refine dG 15 (nc rfl) (fun _ => ?_)
  refine dG 16 (nc rfl) (fun _ => ?_)
  refine dG 17 (nc rfl) (fun _ => ?_)
  refine dG 18 (nc rfl) (fun _ => ?_)
  refine dG 19 (nc rfl) (fun _ => ?_)
  refine dG 20 (nc rfl) (fun _ => ?_)
  refine dG 21 (nc rfl) (fun _ => ?_)
  refine dG 22 (nc rfl) (fun _ => ?_)
  refine dT 23 rfl (p_pickT rfl rfl rfl) ?_
  refine d_end (by kernel_rfl) ?_
  refine t_cond rfl (fun _ => ?_) (nc rfl)
  refine tsr ?_
  refine r_op oA ?_
  refine r_end ?_
  refine t_ret Try.func41 (.tmp rfl .nil) rfl fun E S w u hI hd => ?_
  refine post_mk hI hd ?_ trivial rfl rfl rfl <;> clear hI hd
  all_goals (refine scB ?_; (rw [fact_no1 (by assumption)]; done))
set_option maxHeartbeats 1000000 in
set_option maxRecDepth 10000 in
theorem c_cmp_isNaN_int_ (x : Int) : Pu Try.prog 76 [.c (.t none (.v (.int .i64 (x))))] [] 0 (.c (.t none (.v (.bool (false))))) := by
 refine pu_enter Try.func76 rfl (Nat.le_of_ble_eq_true rfl) fun w S => ?_
 refine tsr ?_
 refine r_op oA ?_
 refine etr ?_
 refine r_op oM ?_
 refine r_op oM ?_
 refine r_op oB ?_
 refine r_op oA ?_
 refine r_end ?_
 refine t_ret Try.func76 (.tmp rfl .nil) rfl fun E S w u hI hd => ?_
 refine post_mk hI hd ?_ trivial rfl rfl rfl <;> clear hI hd
 all_goals (simp)
set_option maxHeartbeats 1000000 in
set_option maxRecDepth 10000 in
theorem c_cmp_Compare_int_ (x y : Int) : Pu Try.prog 69 [.c (.t none (.v (.int .i64 (x)))), .c (.t none (.v (.int .i64 (y))))] [] 0 (.c (.t none (.v (.int .i64 (cmpI x y))))) := by
 refine pu_enter Try.func69 rfl (Nat.le_of_ble_eq_true rfl) fun w S => ?_
 refine tsr ?_
 refine r_op oA ?_
 refine etr ?_
 refine r_op oM ?_
 refine r_op (o_call 0 0 false (Go.Proofs.enters_of Try.func76 (by kernel_rfl) rfl) (c_cmp_isNaN_int_ (x)) rfl (.cons rfl (.c .t0) .nil) rfl rfl rfl) ?_
 refine r_op oA ?_
 refine etr ?_
 refine r_op oM ?_
 refine r_op (o_call 0 0 false (Go.Proofs.enters_of Try.func76 (by kernel_rfl) rfl) (c_cmp_isNaN_int_ (y)) rfl (.cons rfl (.c .t0) .nil) rfl rfl rfl) ?_
 refine r_op oA ?_
 refine r_end ?_
 refine t_seq ?_
 refine tsr ?_
 refine r_op oM ?_
 refine r_end ?_
 refine t_cond rfl (ncf rfl) (fun _ => ?_)
 refine t_skip ?_
 refine t_seq ?_
 refine tsr ?_
 refine r_op oM ?_
 refine r_end ?_
 refine t_cond rfl (ncf rfl) (fun _ => ?_)
 refine t_skip ?_
 refine t_seq ?_
 refine tsr ?_
 refine r_op oM ?_
 refine r_op oM ?_
 refine r_op oB ?_
 refine r_end ?_
 refine t_cond rfl (fun h1 => ?_) (fun h1 => ?_)
 ·
  have h1' := of_decide_eq_true h1
  refine tsr ?_
  refine r_op oA ?_
  refine r_end ?_
  refine t_ret Try.func69 (.tmp rfl .nil) rfl fun E S w u hI hd => ?_
  refine post_mk hI hd ?_ trivial rfl rfl rfl <;> clear hI hd
  all_goals (refine scI ?_; unfold cmpI; (rw [if_pos (by assumption)]; done))
 ·
  have h1' := of_decide_eq_false h1
  refine t_skip ?_
  refine t_seq ?_
  refine tsr ?_
  refine r_op oM ?_
  refine r_op oM ?_
  refine r_op oB ?_
  refine r_end ?_
  refine t_cond rfl (fun h2 => ?_) (fun h2 => ?_)
  ·
   have h2' := of_decide_eq_true h2
   refine tsr ?_
   refine r_op oA ?_
   refine r_end ?_
   refine t_ret Try.func69 (.tmp rfl .nil) rfl fun E S w u hI hd => ?_
   refine post_mk hI hd ?_ trivial rfl rfl rfl <;> clear hI hd
   all_goals (refine scI ?_; unfold cmpI; (rw [if_neg (by assumption), if_pos (by omega)]; done))
  ·
   have h2' := of_decide_eq_false h2
   refine t_skip ?_
   refine tsr ?_
   refine r_op oA ?_
   refine r_end ?_
   refine t_ret Try.func69 (.tmp rfl .nil) rfl fun E S w u hI hd => ?_
   refine post_mk hI hd ?_ trivial rfl rfl rfl <;> clear hI hd
   all_goals (refine scI ?_; unfold cmpI; (rw [if_neg (by assumption), if_neg (by omega)]; done))
set_option maxHeartbeats 1000000 in
set_option maxRecDepth 10000 in
theorem c_slices_Compare___int_int_ (a b : List Int) (ha : a.length ≤ 4611686018427387904) (hb : b.length ≤ 4611686018427387904) : Pu Try.prog 70 [.c (.t none (.sl 1 encI (a))), .c (.t none (.sl 1 encI (b)))] [] 0 (.c (.t none (.v (.int .i64 (cmpL a b))))) := by
 refine pu_enter Try.func70 rfl (Nat.le_of_ble_eq_true rfl) fun w S => ?_
 refine tsr ?_
 refine r_op oA ?_
 refine r_end ?_
 refine t_seq ?_
 refine tsr ?_
 refine r_op oM ?_
 refine r_op (o_len rfl rfl rfl) ?_
 refine r_op oM ?_
 refine r_end ?_
 refine t_block ?_
 refine t_loopL (fun m => ⟨[(0, some (.c (.t none (.sl 1 encI (a))))), (1, some (.c (.t none (.sl 1 encI (b))))), (9, some (.c (.t none (.sl 1 encI (a))))), (10, some (.c (.t none (.v (.int .i64 (((a).length : Int))))))), (11, some (.c (.t none (.v (.int .i64 ((m : Int)))))))], [], 0⟩ : Nat → St) (fun m => m ≤ a.length ∧ m ≤ b.length ∧ a.take m = b.take m) (fun m => a.length - m) 0 ⟨⟨rfl, ⟨rfl, ⟨rfl, ⟨rfl, ⟨rfl, trivial⟩⟩⟩⟩⟩, trivial, rfl⟩ (by exact ⟨Nat.zero_le _, Nat.zero_le _, rfl⟩) ?_
 rintro m hI ih0
 try dsimp only at hI ih0
 obtain ⟨i1, i2, i3⟩ := hI
 refine tsr ?_
 refine r_op oB ?_
 refine r_end ?_
 refine t_seq ?_
 refine t_cond rfl (fun h1 => ?_) (fun h1 => ?_)
 ·
  have h1' := of_decide_eq_true h1
  refine t_skip ?_
  refine t_seq ?_
  refine t_block ?_
  refine tsr ?_
  refine r_op oM ?_
  obtain ⟨z2, hz3, b4⟩ := at_get (xs := a) (n := (m : Int)) (by omega) (by omega)
  refine r_op (o_index rfl (by kernel_rfl) rfl rfl b4 hz3) ?_
  refine r_op (o_load1 rfl (by kernel_rfl) rfl rfl) ?_
  refine r_op oA ?_
  refine r_op oA ?_
  refine r_end ?_
  refine t_seq ?_
  refine tsr ?_
  refine r_op oM ?_
  refine r_op oM ?_
  refine r_op (o_len rfl rfl rfl) ?_
  refine r_op oB ?_
  refine r_end ?_
  refine t_cond rfl (fun h5 => ?_) (fun h5 => ?_)
  ·
   have h5' := of_decide_eq_true h5
   refine tsr ?_
   refine r_op oA ?_
   refine r_end ?_
   refine t_ret Try.func70 (.tmp rfl .nil) rfl fun E S w u hI hd => ?_
   refine post_mk hI hd ?_ trivial rfl rfl rfl <;> clear hI hd <;> (try clear ih0)
   all_goals (refine scI ?_; (rw [(cmpL_end i3 i1 i2).2.1 (by omega) (by omega)]; done))
  ·
   have h5' := of_decide_eq_false h5
   refine t_skip ?_
   refine tsr ?_
   refine r_op oM ?_
   refine r_op oM ?_
   obtain ⟨z6, hz7, b8⟩ := at_get (xs := b) (n := (m : Int)) (by omega) (by omega)
   refine r_op (o_index rfl (by kernel_rfl) rfl rfl b8 hz7) ?_
   refine r_op (o_load1 rfl (by kernel_rfl) rfl rfl) ?_
   refine r_op oA ?_
   refine etr ?_
   refine r_op oM ?_
   refine r_op oM ?_
   refine r_op (o_call 0 0 false (Go.Proofs.enters_of Try.func69 (by kernel_rfl) rfl) (c_cmp_Compare_int_ (z2) (z6)) rfl (.cons rfl (.c .t0) (.cons rfl (.c .t0) .nil)) rfl rfl rfl) ?_
   refine r_op oA ?_
   refine etr ?_
   refine r_op oM ?_
   refine r_op oB ?_
   refine r_end ?_
   refine t_cond rfl (fun h9 => ?_) (fun h9 => ?_)
   ·
    have h9' := of_decide_eq_true h9
    refine tsr ?_
    refine r_op oM ?_
    refine r_op oA ?_
    refine r_end ?_
    refine t_ret Try.func70 (.tmp rfl .nil) rfl fun E S w u hI hd => ?_
    refine post_mk hI hd ?_ trivial rfl rfl rfl <;> clear hI hd <;> (try clear ih0)
    all_goals (refine scI ?_; (exact cmpL_cmpI i3 (by assumption) (by assumption) (by omega)))
   ·
    have h9' := of_decide_eq_false h9
    refine t_skip ?_
    refine t_endblock ?_
    refine t_region ?_
    refine r_op oB ?_
    refine r_op oM ?_
    refine r_end ?_
    refine t_le ?_ (ih0 (m + 1) (by (try dsimp only); omega) (by (try dsimp only); exact ⟨by omega, by omega, take_same i3 (same_at (by assumption) (by assumption) (cmpI_eq (by omega)))⟩))
    exact ⟨⟨rfl, ⟨rfl, ⟨rfl, ⟨rfl, ⟨(eqI (wr64 (by omega) (by omega))), trivial⟩⟩⟩⟩⟩, trivial, rfl⟩
 ·
  have h1' := of_decide_eq_false h1
  refine t_exit rfl ?_
  refine t_seq ?_
  refine tsr ?_
  refine r_op oM ?_
  refine r_op (o_len rfl rfl rfl) ?_
  refine r_op oM ?_
  refine r_op (o_len rfl rfl rfl) ?_
  refine r_op oB ?_
  refine r_end ?_
  refine t_cond rfl (fun h10 => ?_) (fun h10 => ?_)
  ·
   have h10' := of_decide_eq_true h10
   refine tsr ?_
   refine r_op oA ?_
   refine r_end ?_
   refine t_ret Try.func70 (.tmp rfl .nil) rfl fun E S w u hI hd => ?_
   refine post_mk hI hd ?_ trivial rfl rfl rfl <;> clear hI hd <;> (try clear ih0)
   all_goals (refine scI ?_; (rw [(cmpL_end i3 i1 i2).1 (by omega) (by omega)]; done))
  ·
   have h10' := of_decide_eq_false h10
   refine t_skip ?_
   refine tsr ?_
   refine r_op oA ?_
   refine r_end ?_
   refine t_ret Try.func70 (.tmp rfl .nil) rfl fun E S w u hI hd => ?_
   refine post_mk hI hd ?_ trivial rfl rfl rfl <;> clear hI hd <;> (try clear ih0)
   all_goals (refine scI ?_; (rw [(cmpL_end i3 i1 i2).2.2 (by omega) (by omega)]; done))
set_option maxHeartbeats 1000000 in
set_option maxRecDepth 10000 in
theorem c_cmp_Or_int_ (l : List Int) (hl : l.length ≤ 4611686018427387904) : Pu Try.prog 68 [.c (.t none (.sl 1 encI (l)))] [] 0 (.c (.t none (.v (.int .i64 (orI l))))) := by
 refine pu_enter Try.func68 rfl (Nat.le_of_ble_eq_true rfl) fun w S => ?_
 refine tsr ?_
 refine r_op oA ?_
 refine etr ?_
 refine r_op oA ?_
 refine r_end ?_
 refine t_seq ?_
 refine tsr ?_
 refine r_op oM ?_
 refine r_op (o_len rfl rfl rfl) ?_
 refine r_op oM ?_
 refine r_end ?_
 refine t_block ?_
 refine t_loopL (fun m => ⟨[(3, some (.c (.t none (.v (.int .i64 (0)))))), (6, some (.c (.t none (.sl 1 encI (l))))), (7, some (.c (.t none (.v (.int .i64 (((l).length : Int))))))), (8, some (.c (.t none (.v (.int .i64 ((m : Int)))))))], [], 0⟩ : Nat → St) (fun m => m ≤ l.length ∧ ∀ j y, j < m → l[j]? = some y → y = 0) (fun m => l.length - m) 0 ⟨⟨rfl, ⟨rfl, ⟨rfl, ⟨rfl, trivial⟩⟩⟩⟩, trivial, rfl⟩ (by exact ⟨Nat.zero_le _, fun j z h => by omega⟩) ?_
 rintro m hI ih0
 try dsimp only at hI ih0
 obtain ⟨i1, i2⟩ := hI
 refine tsr ?_
 refine r_op oB ?_
 refine r_end ?_
 refine t_seq ?_
 refine t_cond rfl (fun h1 => ?_) (fun h1 => ?_)
 ·
  have h1' := of_decide_eq_true h1
  refine t_skip ?_
  refine t_seq ?_
  refine t_block ?_
  refine tsr ?_
  obtain ⟨z2, hz3, b4⟩ := at_get (xs := l) (n := (m : Int)) (by omega) (by omega)
  refine r_op (o_index rfl (by kernel_rfl) rfl rfl b4 hz3) ?_
  refine r_op (o_load1 rfl (by kernel_rfl) rfl rfl) ?_
  refine r_op oA ?_
  refine etr ?_
  refine r_op oM ?_
  refine r_op oM ?_
  refine r_op oB ?_
  refine r_end ?_
  refine t_cond rfl (fun h5 => ?_) (fun h5 => ?_)
  ·
   have h5' := of_decide_eq_true h5
   refine tsr ?_
   refine r_op oM ?_
   refine r_op oA ?_
   refine r_end ?_
   refine t_ret Try.func68 (.tmp rfl .nil) rfl fun E S w u hI hd => ?_
   refine post_mk hI hd ?_ trivial rfl rfl rfl <;> clear hI hd <;> (try clear ih0)
   all_goals (refine scI ?_; (rw [orI_at i2 (by assumption) (by omega)]; done))
  ·
   have h5' := of_decide_eq_false h5
   refine t_skip ?_
   refine t_endblock ?_
   refine t_region ?_
   refine r_op oB ?_
   refine r_op oM ?_
   refine r_end ?_
   refine t_le ?_ (ih0 (m + 1) (by (try dsimp only); omega) (by (try dsimp only); exact ⟨by omega, zero_step i2 (by assumption) rfl (by omega)⟩))
   exact ⟨⟨rfl, ⟨rfl, ⟨rfl, ⟨(eqI (wr64 (by omega) (by omega))), trivial⟩⟩⟩⟩, trivial, rfl⟩
 ·
  have h1' := of_decide_eq_false h1
  refine t_exit rfl ?_
  refine tsr ?_
  refine r_op oM ?_
  refine r_op oA ?_
  refine r_end ?_
  refine t_ret Try.func68 (.tmp rfl .nil) rfl fun E S w u hI hd => ?_
  refine post_mk hI hd ?_ trivial rfl rfl rfl <;> clear hI hd <;> (try clear ih0)
  all_goals (refine scI ?_; (rw [orI_none fun j y hj hy => i2 j y (by omega) hy]; done))
set_option maxHeartbeats 1000000 in
set_option maxRecDepth 10000 in
theorem c_impl_CompareFacts (r : Int) (l : List Int) (r2 : Int) (l2 : List Int) (hl : l.length ≤ 1048576) (hl2 : l2.length ≤ 1048576) : Pu Try.prog 42 [.agg [.t none (.v (.int .i64 (r))), .t none (.sl 1 encI (l))], .agg [.t none (.v (.int .i64 (r2))), .t none (.sl 1 encI (l2))]] [] 0 (.c (.t none (.v (.int .i64 (cmpF (r, l) (r2, l2)))))) := by
 refine pu_enter Try.func42 rfl (Nat.le_of_ble_eq_true rfl) fun w S => ?_
 refine tsr ?_
 refine r_op (o_box 0 rfl rfl rfl rfl) ?_
 refine r_op (o_box 1 rfl rfl rfl rfl) ?_
 refine r_op oA ?_
 refine r_end ?_
 refine t_seq ?_
 refine t_draw (fun _ => true) (by kernel_rfl) ?_
 refine dT 0 rfl (pF 0) ?_
 refine dT 1 rfl pL ?_
 refine dT 2 rfl (pF 0) ?_
 refine dT 3 rfl pL ?_
 refine dT 5 rfl (pF 1) ?_
 refine dT 6 rfl pL ?_
 refine dT 7 rfl (pF 1) ?_
 refine dT 8 rfl pL ?_
 refine dO 4 rfl (o_call 2 2 false (Go.Proofs.enters_of Try.func69 (by kernel_rfl) rfl) (c_cmp_Compare_int_ (r) (r2)) rfl (.cons rfl (.c .t0) (.cons rfl (.c .t0) .nil)) rfl rfl rfl) ?_
 refine dO 9 rfl (o_call 2 2 false (Go.Proofs.enters_of Try.func70 (by kernel_rfl) rfl) (c_slices_Compare___int_int_ (l) (l2) (by omega) (by omega)) rfl (.cons rfl (.c .t0) (.cons rfl (.c .t0) .nil)) rfl rfl rfl) ?_
 refine dO 10 rfl (o_litS 2 (e := 3) (sz := 1) (zs := [.int .i64 (0)]) rfl rfl (by kernel_rfl) rfl rfl rfl rfl rfl) ?_
 refine dO 11 rfl (o_call 3 3 false (Go.Proofs.enters_of Try.func68 (by kernel_rfl) rfl) (c_cmp_Or_int_ ([cmpI (r) (r2), cmpL (l) (l2)]) (by (simp; done))) rfl (.cons rfl (.c (.bsl rfl rfl (.cons .t (.cons .t .nil)))) .nil) rfl rfl rfl) ?_
 refine dT 12 rfl pA ?_
 refine d_end (by kernel_rfl) ?_
 refine t_ret Try.func42 (.tmp rfl .nil) rfl fun E S w u hI hd => ?_
 refine post_mk hI hd ?_ trivial rfl rfl rfl <;> clear hI hd
 all_goals (refine scI ?_; exact cmpF_or (r, l) (r2, l2))
set_option maxHeartbeats 1000000 in
set_option maxRecDepth 10000 in
theorem c_impl_NullNumber (v : Int) (hv : -9223372036854775808 ≤ v) (hv2 : v ≤ 9223372036854775807) : Pu Try.prog 47 [.c (.t none (.v (.int .i64 (v))))] [] 0 (.tup [(false, [.t none (.v (.int .i64 (if -40 ≤ v ∧ v ≤ -1 then -1 - v else 0)))]), (false, [.t none (.v (.bool (decide (-40 ≤ v ∧ v ≤ -1))))])]) := by
 refine pu_enter Try.func47 rfl (Nat.le_of_ble_eq_true rfl) fun w S => ?_
 refine tsr ?_
 refine r_op oA ?_
 refine r_op oA ?_
 refine r_end ?_
 refine t_seq ?_
 refine tsr ?_
 refine r_op oM ?_
 refine r_op oB ?_
 refine r_op (o_call 0 0 false (Go.Proofs.enters_of Try.func64 (by kernel_rfl) rfl) (c_impl_within (IntKind.i64.wrap ((-1) - v)) (0) (39)) rfl (.cons rfl (.c .t0) (.cons rfl (.c .t0) (.cons rfl (.c .t0) .nil))) rfl rfl rfl) ?_
 refine r_op (o_not rfl rfl) ?_
 refine r_end ?_
 refine t_cond rfl (fun h1 => ?_) (fun h1 => ?_)
 ·
  have h1' := of_decide_eq_false (bnt h1)
  refine tsr ?_
  refine r_op oA ?_
  refine r_op oA ?_
  refine r_end ?_
  refine t_ret Try.func47 (.tmp rfl (.tmp rfl .nil)) rfl fun E S w u hI hd => ?_
  refine post_mk hI hd ?_ trivial rfl rfl rfl <;> clear hI hd
  all_goals (((have hn : ¬(-40 ≤ v ∧ v ≤ -1) := by (simp only [IntKind.wrap_i64] at *; omega)); (simp [hn]; done)))
 ·
  have h1' := of_decide_eq_true (bnf h1)
  refine t_skip ?_
  refine tsr ?_
  refine r_op oM ?_
  refine r_op oB ?_
  refine r_op oA ?_
  refine r_op oA ?_
  refine r_end ?_
  refine t_ret Try.func47 (.tmp rfl (.tmp rfl .nil)) rfl fun E S w u hI hd => ?_
  refine post_mk hI hd ?_ trivial rfl rfl rfl <;> clear hI hd
  all_goals (((have hn : (-40 ≤ v ∧ v ≤ -1) := by (simp only [IntKind.wrap_i64] at *; omega)); (have e : IntKind.i64.wrap (-1 - v) = -1 - v := wr64 (by omega) (by omega)); (simp [hn, e]; done)))
def Try.sortL_ren : Go.Shelf.Ren := ⟨fun | 5 => 48 | 8 => 73 | 7 => 72 | 19 => 87 | 20 => 88 | 10 => 78 | 11 => 79 | 12 => 80 | 13 => 81 | 14 => 82 | 15 => 83 | 16 => 84 | 17 => 85 | 18 => 86 | 30 => 90 | 31 => 91 | 32 => 92 | 33 => 93 | 34 => 94 | 35 => 76 | 40 => 95 | n => n, fun | 23 => 30 | 25 => 3 | 3 => 3 | 32 => 88 | 22 => 30 | 0 => 0 | 44 => 99 | 46 => 101 | 4 => 4 | 36 => 92 | 35 => 91 | 41 => 68 | 5 => 5 | 9 => 9 | 53 => 103 | 57 => 107 | 63 => 109 | 64 => 110 | n => n, fun | n => n⟩
theorem Try.sortL : Go.Proofs.SlLaysM.n5 Try.prog Try.sortL_ren := {
 mixed := by kernel_rfl
 f5 := ⟨Try.f48.name, by decide, Try.func48.trans (congrArg some (by kernel_rfl))⟩
 f7 := ⟨Try.f72.name, by decide, Try.func72.trans (congrArg some (by kernel_rfl))⟩
 f8 := Try.func73.trans (congrArg some (by kernel_rfl))
 f10 := ⟨Try.f78.name, by decide, Try.func78.trans (congrArg some (by kernel_rfl))⟩
 f11 := ⟨Try.f79.name, by decide, Try.func79.trans (congrArg some (by kernel_rfl))⟩
 f12 := ⟨Try.f80.name, by decide, Try.func80.trans (congrArg some (by kernel_rfl))⟩
 f13 := ⟨Try.f81.name, by decide, Try.func81.trans (congrArg some (by kernel_rfl))⟩
 f14 := ⟨Try.f82.name, by decide, Try.func82.trans (congrArg some (by kernel_rfl))⟩
 f15 := ⟨Try.f83.name, by decide, Try.func83.trans (congrArg some (by kernel_rfl))⟩
 f16 := ⟨Try.f84.name, by decide, Try.func84.trans (congrArg some (by kernel_rfl))⟩
 f17 := ⟨Try.f85.name, by decide, Try.func85.trans (congrArg some (by kernel_rfl))⟩
 f18 := ⟨Try.f86.name, by decide, Try.func86.trans (congrArg some (by kernel_rfl))⟩
 f19 := Try.func87.trans (congrArg some (by kernel_rfl))
 f20 := Try.func88.trans (congrArg some (by kernel_rfl))
 f30 := ⟨Try.f90.name, by decide, Try.func90.trans (congrArg some (by kernel_rfl))⟩
 f31 := Try.func91.trans (congrArg some (by kernel_rfl))
 f32 := Try.func92.trans (congrArg some (by kernel_rfl))
 f33 := ⟨Try.f93.name, by decide, Try.func93.trans (congrArg some (by kernel_rfl))⟩
 f34 := ⟨Try.f94.name, by decide, Try.func94.trans (congrArg some (by kernel_rfl))⟩
 f35 := ⟨Try.f76.name, by decide, Try.func76.trans (congrArg some (by kernel_rfl))⟩
 f40 := ⟨Try.f95.name, by decide, Try.func95.trans (congrArg some (by kernel_rfl))⟩
 t0 := Try.underlying0
 a0 := Try.isAgg0
 z0 := Try.sizeOf0
 v0 := Try.zeroValue0
 t3 := Try.underlying3
 a3 := Try.isAgg3
 z3 := Try.sizeOf3
 v3 := Try.zeroValue3
 t4 := Try.underlying4
 a4 := Try.isAgg4
 z4 := Try.sizeOf4
 v4 := Try.zeroValue4
 t5 := Try.underlying5
 a5 := Try.isAgg5
 z5 := Try.sizeOf5
 v5 := Try.zeroValue5
 t9 := Try.underlying9
 a9 := Try.isAgg9
 z9 := Try.sizeOf9
 v9 := Try.zeroValue9
 t22 := Try.underlying30
 a22 := Try.isAgg30
 z22 := Try.sizeOf30
 v22 := Try.zeroValue30
 t23 := Try.underlying30
 a23 := Try.isAgg30
 z23 := Try.sizeOf30
 v23 := Try.zeroValue30
 t25 := Try.underlying3
 a25 := Try.isAgg3
 z25 := Try.sizeOf3
 v25 := Try.zeroValue3
 t32 := Try.underlying88
 a32 := Try.isAgg88
 z32 := Try.sizeOf88
 v32 := Try.zeroValue88
 t35 := Try.underlying91
 a35 := Try.isAgg91
 z35 := Try.sizeOf91
 v35 := Try.zeroValue91
 t36 := Try.underlying92
 a36 := Try.isAgg92
 z36 := Try.sizeOf92
 v36 := Try.zeroValue92
 t41 := Try.underlying68
 a41 := Try.isAgg68
 z41 := Try.sizeOf68
 v41 := Try.zeroValue68
 t44 := Try.underlying99
 a44 := Try.isAgg99
 z44 := Try.sizeOf99
 v44 := Try.zeroValue99
 t46 := Try.underlying101
 a46 := Try.isAgg101
 z46 := Try.sizeOf101
 v46 := Try.zeroValue101
 t53 := Try.underlying103
 a53 := Try.isAgg103
 z53 := Try.sizeOf103
 v53 := Try.zeroValue103
 t57 := Try.underlying107
 a57 := Try.isAgg107
 z57 := Try.sizeOf107
 v57 := Try.zeroValue107
 t63 := Try.underlying109
 a63 := Try.isAgg109
 z63 := Try.sizeOf109
 v63 := Try.zeroValue109
 t64 := Try.underlying110
 a64 := Try.isAgg110
 z64 := Try.sizeOf110
 v64 := Try.zeroValue110 }
set_option maxHeartbeats 1000000 in
set_option maxRecDepth 10000 in
theorem c_slices_Sort___int_int_ (U : Nat → Value) (e0 : Nat) (l : List Int) (hl : l.length ≤ 1099511627776) : Mu Try.prog 48 [.c (.own 0)] [(0, some (.row (some (U 0)) e0 true 1 encI (l)))] 1 [(0, some (.row (some (U 0)) e0 true 1 encI (sortI l)))] 1 (.tup []) := by
 exact sort_mu Try.sortL U e0 l (by omega)
set_option maxHeartbeats 1000000 in
set_option maxRecDepth 10000 in
theorem c_slices_Compact___int_int_ (U : Nat → Value) (e0 : Nat) (l : List Int) (hl : l.length ≤ 4611686018427387904) : Mu Try.prog 49 [.c (.own 0)] [(0, some (.row (some (U 0)) e0 true 1 encI (l)))] 1 [(0, some (.row none e0 true 1 encI (compactI l)))] 1 (.c (.own 0)) := by
 refine mu_enter Try.func49 rfl (Nat.le_of_ble_eq_true rfl) fun w S M => ?_
 refine tsr ?_
 refine r_op oA ?_
 refine r_end ?_
 refine t_seq ?_
 refine tsr ?_
 refine r_op oM ?_
 refine r_op (o_leno rfl rfl rfl rfl) ?_
 refine r_op oB ?_
 refine r_end ?_
 refine t_cond rfl (fun h1 => ?_) (fun h1 => ?_)
 ·
  have h1' := of_decide_eq_true h1
  refine tsr ?_
  refine r_op oM ?_
  refine r_op oA ?_
  refine r_end ?_
  refine gt_unpin 0 rfl ?_
  refine t_ret Try.func49 (.tmp rfl .nil) rfl fun E S w u hI hd => ?_
  refine postM_mk hI hd ?_ ⟨eqR ?_, trivial⟩ rfl rfl <;> clear hI hd <;> (try clear ih0) <;> (try clear ih1)
  all_goals first | rfl | ((match l with | [] => rfl | [_] => rfl | _ :: _ :: _ => (exfalso; simp at *; omega)))
 ·
  have h1' := of_decide_eq_false h1
  refine t_skip ?_
  refine t_seq ?_
  refine tsr ?_
  refine r_op oA ?_
  refine r_end ?_
  refine t_block ?_
  refine t_loopL (fun m => ⟨[(0, some (.c (.own 0))), (3, some (.c (.t none (.v (.int .i64 ((m : Int)))))))], [(0, some (.row (some (U 0)) e0 true 1 encI (l)))], 1⟩ : Nat → St) (fun m => 1 ≤ m ∧ m ≤ l.length ∧ compactI (l.take m) = l.take m) (fun m => l.length - m) 1 ⟨⟨rfl, ⟨(eqI rfl), trivial⟩⟩, ⟨rfl, trivial⟩, rfl⟩ (by exact ⟨Nat.le_refl _, by omega, by (rcases l with _ | ⟨x, l⟩ <;> simp [compactI])⟩) ?_
  rintro m hI ih0
  try dsimp only at hI ih0
  obtain ⟨i1, i2, i3⟩ := hI
  refine t_seq ?_
  refine tsr ?_
  refine r_op oM ?_
  refine r_op oM ?_
  refine r_op (o_leno rfl rfl rfl rfl) ?_
  refine r_op oB ?_
  refine r_end ?_
  refine t_cond rfl (fun h2 => ?_) (fun h2 => ?_)
  ·
   have h2' := of_decide_eq_true h2
   refine t_skip ?_
   refine t_seq ?_
   refine t_block ?_
   refine t_seq ?_
   refine t_draw (fun _ => true) (by kernel_rfl) ?_
   refine dT 0 rfl pM ?_
   refine dT 1 rfl pM ?_
   obtain ⟨z3, hz4, b5⟩ := at_get (xs := l) (n := (m : Int)) (by omega) (by omega)
   refine dT 2 rfl (p_indexo (by kernel_rfl) rfl rfl rfl b5 (at_lt b5 hz4)) ?_
   refine dT 3 rfl (p_load1o (by kernel_rfl) rfl rfl rfl hz4) ?_
   refine dT 4 rfl pM ?_
   refine dT 5 rfl pM ?_
   refine dT 6 rfl pB ?_
   obtain ⟨z6, hz7, b8⟩ := at_get (xs := l) (n := IntKind.i64.wrap ((m : Int) - 1)) (by (simp only [IntKind.wrap_i64]; omega)) (by (simp only [IntKind.wrap_i64]; omega))
   refine dT 7 rfl (p_indexo (by kernel_rfl) rfl rfl rfl b8 (at_lt b8 hz7)) ?_
   refine dT 8 rfl (p_load1o (by kernel_rfl) rfl rfl rfl hz7) ?_
   refine dT 9 rfl pB ?_
   refine d_end (by kernel_rfl) ?_
   refine t_cond rfl (fun h9 => ?_) (fun h9 => ?_)
   ·
    have h9' := of_decide_eq_true h9
    refine tsr ?_
    refine r_op oM ?_
    refine r_op oM ?_
    refine r_op (o_subvl rfl (by kernel_rfl) rfl rfl rfl (by omega) (by omega)) ?_
    refine r_op oA ?_
    refine r_end ?_
    refine t_seq ?_
    refine tsr ?_
    refine r_op oA ?_
    refine r_end ?_
    refine t_block ?_
    refine t_loopL (fun (j, k, q) => ⟨[(0, some (.c (.own 0))), (3, some (.c (.t none (.v (.int .i64 ((k : Int))))))), (4, some (.c (.vw 0 (((m : Int)).toNat) (((l).length - ((m : Int)).toNat)) 1))), (5, some (.c (.t none (.v (.int .i64 ((j : Int)))))))], [(0, some (.row (some (U 0)) e0 true 1 encI (q)))], 1⟩ : Nat × Nat × List Int → St) (fun (j, k, q) => 1 ≤ j ∧ cmpK l q k (m + j)) (fun (j, k, q) => l.length - j) (1, m, l) ⟨⟨rfl, ⟨rfl, ⟨rfl, ⟨(eqI rfl), trivial⟩⟩⟩⟩, ⟨rfl, trivial⟩, rfl⟩ (by exact ⟨Nat.le_refl _, cmpK_start i3 (by assumption) (by assumption) (by simp only [IntKind.wrap_i64]; omega) i1 (by omega)⟩) ?_
    rintro ⟨j, k, q⟩ hI ih1
    try dsimp only at hI ih1
    obtain ⟨j0, j1⟩ := hI; have j2 := j1.1; have j3 := j1.2.1; have j4 := j1.2.2.1
    refine t_seq ?_
    refine tsr ?_
    refine r_op oM ?_
    refine r_op oM ?_
    refine r_op (o_lenv rfl rfl rfl) ?_
    refine r_op oB ?_
    refine r_end ?_
    refine t_cond rfl (fun h10 => ?_) (fun h10 => ?_)
    ·
     have h10' := of_decide_eq_true h10
     refine t_skip ?_
     refine t_seq ?_
     refine t_block ?_
     refine t_seq ?_
     refine t_draw (fun _ => true) (by kernel_rfl) ?_
     refine dT 0 rfl pM ?_
     refine dT 1 rfl pM ?_
     obtain ⟨z11, hz12⟩ := vw_get (xs := q) (n := (((m : Int)).toNat + ((j : Int)).toNat)) (by omega)
     refine dT 2 rfl (p_indexv (by kernel_rfl) rfl rfl (by omega) (by omega)) ?_
     refine dT 3 rfl (p_load1o (by kernel_rfl) rfl rfl rfl hz12) ?_
     refine dT 4 rfl pM ?_
     refine dT 5 rfl pM ?_
     refine dT 6 rfl pB ?_
     obtain ⟨z14, hz15⟩ := vw_get (xs := q) (n := (((m : Int)).toNat + (IntKind.i64.wrap ((j : Int) - 1)).toNat)) (by (simp only [IntKind.wrap_i64]; omega))
     refine dT 7 rfl (p_indexv (by kernel_rfl) rfl rfl (by (simp only [IntKind.wrap_i64]; omega)) (by (simp only [IntKind.wrap_i64]; omega))) ?_
     refine dT 8 rfl (p_load1o (by kernel_rfl) rfl rfl rfl hz15) ?_
     refine dT 9 rfl pB ?_
     refine d_end (by kernel_rfl) ?_
     refine t_cond rfl (fun h17 => ?_) (fun h17 => ?_)
     ·
      have h17' := of_decide_eq_true h17
      refine tsr ?_
      refine r_op oM ?_
      refine r_op oM ?_
      refine r_op oM ?_
      refine r_op oM ?_
      refine r_op (o_indexv rfl (by kernel_rfl) rfl rfl (by omega) (by omega)) ?_
      refine r_op (o_load1o rfl (by kernel_rfl) rfl rfl rfl hz12) ?_
      obtain ⟨z18, hz19, b20⟩ := at_get (xs := q) (n := (k : Int)) (by omega) (by omega)
      refine r_op (o_indexo rfl (by kernel_rfl) rfl rfl rfl b20 (at_lt b20 hz19)) ?_
      refine r_op (o_storeo (z11) (n := 1) (by kernel_rfl) rfl rfl hz19 rfl rfl rfl rfl (.cons .sc .nil) rfl (fun j h1 h2 => by (simp at h1 h2; omega))) ?_
      refine rtr ?_
      refine r_op oM ?_
      refine r_op oB ?_
      refine r_op oA ?_
      refine r_end ?_
      refine t_endblock ?_
      refine t_region ?_
      refine r_op oM ?_
      refine r_op oB ?_
      refine r_op oA ?_
      refine r_end ?_
      refine t_le ?_ (ih1 (j + 1, k + 1, (q).set ((k : Int)).toNat (z11)) (by (try dsimp only); omega) (by (try dsimp only); exact ⟨by omega, cmpK_more (j := m + j) (n := ((m : Int)).toNat + (IntKind.i64.wrap ((j : Int) - 1)).toNat) j1 (by assumption) (by assumption) (by simp only [IntKind.wrap_i64]; omega) (by omega)⟩))
      exact ⟨⟨rfl, ⟨(eqI (wr64 (by omega) (by omega))), ⟨rfl, ⟨(eqI (wr64 (by omega) (by omega))), trivial⟩⟩⟩⟩, ⟨rfl, trivial⟩, rfl⟩
     ·
      have h17' := of_decide_eq_false h17
      refine t_skip ?_
      refine t_endblock ?_
      refine t_region ?_
      refine r_op oM ?_
      refine r_op oB ?_
      refine r_op oA ?_
      refine r_end ?_
      refine t_le ?_ (ih1 (j + 1, k, q) (by (try dsimp only); omega) (by (try dsimp only); exact ⟨by omega, cmpK_same (j := m + j) (n := ((m : Int)).toNat + (IntKind.i64.wrap ((j : Int) - 1)).toNat) j1 (by assumption) (by assumption) (by simp only [IntKind.wrap_i64]; omega) (by omega)⟩))
      exact ⟨⟨rfl, ⟨rfl, ⟨rfl, ⟨(eqI (wr64 (by omega) (by omega))), trivial⟩⟩⟩⟩, ⟨rfl, trivial⟩, rfl⟩
    ·
     have h10' := of_decide_eq_false h10
     refine t_exit rfl ?_
     refine tsr ?_
     refine r_op oM ?_
     refine r_op oM ?_
     refine r_op (o_subvl rfl (by kernel_rfl) rfl rfl rfl (by omega) (by omega)) ?_
     refine r_op (o_clearv (0) rfl rfl Try.underlying30 (by kernel_rfl) rfl (.v rfl) (by omega) (by omega)) ?_
     refine etr ?_
     refine r_op oM ?_
     refine r_op oM ?_
     refine r_op (o_subvh rfl (by kernel_rfl) rfl rfl rfl (by omega) (by (simp only [List.length_append, List.length_take, List.length_replicate, List.length_drop]; omega)) (by (simp only [List.length_append, List.length_take, List.length_replicate, List.length_drop]; omega))) ?_
     refine r_op oA ?_
     refine r_end ?_
     refine gt_shrink 2 0 rfl rfl (by (simp only [List.length_append, List.length_take, List.length_replicate, List.length_drop]; omega)) (by (simp only [List.length_append, List.length_take, List.length_replicate, List.length_drop]; omega)) ?_
     refine t_ret Try.func49 (.tmp rfl .nil) rfl fun E S w u hI hd => ?_
     refine postM_mk hI hd ?_ ⟨eqR ?_, trivial⟩ rfl rfl <;> clear hI hd <;> (try clear ih0) <;> (try clear ih1)
     all_goals first | rfl | (rw [List.append_assoc]; exact cmpK_fin j1 (by omega))
   ·
    have h9' := of_decide_eq_false h9
    refine t_skip ?_
    refine t_endblock ?_
    refine t_region ?_
    refine r_op oM ?_
    refine r_op oB ?_
    refine r_op oA ?_
    refine r_end ?_
    refine t_le ?_ (ih0 (m + 1) (by (try dsimp only); omega) (by (try dsimp only); exact ⟨by omega, by omega, cmp_first i3 (by assumption) (by assumption) (by simp only [IntKind.wrap_i64]; omega) i1 (by omega)⟩))
    exact ⟨⟨rfl, ⟨(eqI (wr64 (by omega) (by omega))), trivial⟩⟩, ⟨rfl, trivial⟩, rfl⟩
  ·
   have h2' := of_decide_eq_false h2
   refine t_exit rfl ?_
   refine tsr ?_
   refine r_op oM ?_
   refine r_op oA ?_
   refine r_end ?_
   refine gt_unpin 0 rfl ?_
   refine t_ret Try.func49 (.tmp rfl .nil) rfl fun E S w u hI hd => ?_
   refine postM_mk hI hd ?_ ⟨eqR ?_, trivial⟩ rfl rfl <;> clear hI hd <;> (try clear ih0) <;> (try clear ih1)
   all_goals first | rfl | (rw [List.take_of_length_le (by omega)] at i3; exact i3.symm)
set_option maxHeartbeats 1000000 in
set_option maxRecDepth 10000 in
theorem c_impl_nullsOf (l : List Int) (hl : l.length ≤ 1048576) (ho : ∀ x ∈ l, okI x) : Pu Try.prog 22 [.c (.t none (.sl 1 encI (l)))] [(0, some (.row none 3 true 1 encI (setI (nulV l))))] 1 (.c (.own 0)) := by
 refine pu_enter Try.func22 rfl (Nat.le_of_ble_eq_true rfl) fun w S => ?_
 refine tsr ?_
 refine r_op oA ?_
 refine etr ?_
 refine r_op (o_lit0 0 (e := 3) (sz := 1) (zs := [.int .i64 (0)]) encI rfl rfl (by kernel_rfl) rfl) ?_
 refine r_op oA ?_
 refine r_end ?_
 refine t_seq ?_
 refine tsr ?_
 refine r_op oM ?_
 refine r_op (o_len rfl rfl rfl) ?_
 refine r_op oM ?_
 refine r_end ?_
 refine t_block ?_
 refine t_loopL (fun m => ⟨[(2, some (.c (.t none (.v (.slice none 0 0))))), (3, some (.c (.own 0))), (9, some (.c (.t none (.sl 1 encI (l))))), (10, some (.c (.t none (.v (.int .i64 (((l).length : Int))))))), (11, some (.c (.t none (.v (.int .i64 ((m : Int)))))))], [(0, some (.row none 3 true 1 encI (nulV (l.take m))))], 1⟩ : Nat → St) (fun m => m ≤ l.length) (fun m => l.length - m) 0 ⟨⟨rfl, ⟨rfl, ⟨rfl, ⟨rfl, ⟨rfl, trivial⟩⟩⟩⟩⟩, ⟨rfl, trivial⟩, rfl⟩ (by exact Nat.zero_le _) ?_
 rintro m hI ih0
 try dsimp only at hI ih0
 have i1 := hI; have q2 := nulV_part l m
 refine tsr ?_
 refine r_op oB ?_
 refine r_end ?_
 refine t_seq ?_
 refine t_cond rfl (fun h1 => ?_) (fun h1 => ?_)
 ·
  have h1' := of_decide_eq_true h1
  refine t_skip ?_
  refine t_seq ?_
  refine t_block ?_
  refine tsr ?_
  obtain ⟨z2, hz3, b4⟩ := at_get (xs := l) (n := (m : Int)) (by omega) (by omega)
  refine r_op (o_index rfl (by kernel_rfl) rfl rfl b4 hz3) ?_
  refine r_op (o_load1 rfl (by kernel_rfl) rfl rfl) ?_
  refine r_op oA ?_
  refine etr ?_
  refine r_op oM ?_
  refine r_op (o_call 1 1 false (Go.Proofs.enters_of Try.func47 (by kernel_rfl) rfl) (c_impl_NullNumber (z2) (by exact (ho _ (List.mem_of_getElem? (by assumption))).1) (by exact (ho _ (List.mem_of_getElem? (by assumption))).2)) rfl (.cons rfl (.c .t0) .nil) rfl rfl rfl) ?_
  refine r_op oM ?_
  refine r_op (o_extract rfl rfl rfl rfl) ?_
  refine r_op (o_extract rfl rfl rfl rfl) ?_
  refine r_op oA ?_
  refine r_op oA ?_
  refine etr ?_
  refine r_op oM ?_
  refine r_end ?_
  refine t_cond rfl (fun h5 => ?_) (fun h5 => ?_)
  ·
   have h5' := of_decide_eq_true h5
   refine t_region ?_
   refine r_op oM ?_
   refine r_op oM ?_
   refine r_op (o_litS 1 (e := 3) (sz := 1) (zs := [.int .i64 (0)]) rfl rfl (by kernel_rfl) rfl rfl rfl rfl rfl) ?_
   refine r_op (o_append 0 (e := 3) (sz := 1) (by' := 8) (if -40 ≤ (z2) ∧ (z2) ≤ -1 then -1 - (z2) else 0) rfl (by kernel_rfl) rfl rfl rfl rfl rfl rfl (.cons .sc .nil) rfl (by omega) (by omega)) ?_
   refine r_op oA ?_
   refine r_end ?_
   refine t_endblock ?_
   refine t_region ?_
   refine r_op oB ?_
   refine r_op oM ?_
   refine r_end ?_
   refine t_le ?_ (ih0 (m + 1) (by (try dsimp only); omega) (by (try dsimp only); omega))
   exact ⟨⟨rfl, ⟨rfl, ⟨rfl, ⟨rfl, ⟨(eqI (wr64 (by omega) (by omega))), trivial⟩⟩⟩⟩⟩, ⟨(eqR (by (rw [nulV_more (by assumption) (by assumption)]; done))), trivial⟩, rfl⟩
  ·
   have h5' := of_decide_eq_false h5
   refine t_skip ?_
   refine t_endblock ?_
   refine t_region ?_
   refine r_op oB ?_
   refine r_op oM ?_
   refine r_end ?_
   refine t_le ?_ (ih0 (m + 1) (by (try dsimp only); omega) (by (try dsimp only); omega))
   exact ⟨⟨rfl, ⟨rfl, ⟨rfl, ⟨rfl, ⟨(eqI (wr64 (by omega) (by omega))), trivial⟩⟩⟩⟩⟩, ⟨(eqR (by (rw [nulV_same (by assumption) (by assumption)]; done))), trivial⟩, rfl⟩
 ·
  have h1' := of_decide_eq_false h1
  refine t_exit rfl ?_
  refine tsr ?_
  refine r_op oM ?_
  refine r_op (o_callH [⟨0, none, 3, 1, _, encI, nulV (l.take m), sortI (nulV (l.take m))⟩] (Go.Proofs.enters_of Try.func48 (by kernel_rfl) rfl) (fun U => c_slices_Sort___int_int_ U 3 (nulV (l.take m)) (by omega)) rfl ⟨rfl, trivial⟩ rfl rfl (.cons rfl (.own rfl) .nil) rfl) ?_
  refine etr ?_
  refine r_op oM ?_
  refine r_op (o_callC 0 (l' := compactI (sortI (nulV (l.take m)))) (Go.Proofs.enters_of Try.func49 (by kernel_rfl) rfl) (fun U => c_slices_Compact___int_int_ U 3 (sortI (nulV (l.take m))) (by (rw [sortI_len]; omega))) rfl rfl (.cons rfl (.own rfl) .nil)) ?_
  refine r_op oA ?_
  refine r_end ?_
  refine t_ret Try.func22 (.tmp rfl .nil) rfl fun E S w u hI hd => ?_
  refine post_mk hI hd ?_ ⟨eqR ?_, trivial⟩ rfl rfl rfl <;> clear hI hd <;> (try clear ih0)
  all_goals first | rfl | ((rw [nulV_end (by omega), compact_sort]))
set_option maxHeartbeats 1000000 in
set_option maxRecDepth 10000 in
theorem c_impl_NullsOfFact (r : Int) (l : List Int) (hl : l.length ≤ 1048576) (ho : ∀ x ∈ l, okI x) : Pu Try.prog 43 [.agg [.t none (.v (.int .i64 (r))), .t none (.sl 1 encI (l))]] [(1, some (.row none 3 true 1 encI (setI (nulV l))))] 2 (.c (.own 1)) := by
 refine pu_enter Try.func43 rfl (Nat.le_of_ble_eq_true rfl) fun w S => ?_
 refine tsr ?_
 refine r_op (o_box 0 rfl rfl rfl rfl) ?_
 refine r_op oA ?_
 refine etr ?_
 refine r_op (oF 1) ?_
 refine r_op oL ?_
 refine r_op (o_call 1 2 false (Go.Proofs.enters_of Try.func22 (by kernel_rfl) rfl) (c_impl_nullsOf (l) (by omega) (by omega)) rfl (.cons rfl (.c .t0) .nil) rfl rfl rfl) ?_
 refine r_op oA ?_
 refine r_end ?_
 refine t_ret Try.func43 (.tmp rfl .nil) rfl fun E S w u hI hd => ?_
 refine post_mk hI hd ?_ ⟨eqR ?_, trivial⟩ rfl rfl rfl <;> clear hI hd
 all_goals (rfl)
set_option maxHeartbeats 1000000 in
set_option maxRecDepth 10000 in
theorem c_impl_IsValidInstance (rs : Rels) (l : Atoms) (hrs : rs.length ≤ 4611686018427387904) (hl : szS (fun (x : Int × (List (Int))) => (x.2).length) l ≤ 1048576) (ho : ∀ z ∈ l, ∀ x ∈ z.2, okI x) : Pu Try.prog 18 [.agg [.t none (.sl 3 (enS3 encS encI encB) (rs)), .t none (.sl 2 (enS2 encI (enSl 1 encI)) (l))]] [] 0 (.c (.t none (.v (.bool (instOk rs l))))) := by
 refine pu_enter Try.func18 rfl (Nat.le_of_ble_eq_true rfl) fun w S => ?_
 have gl := sz_len (f := (fun (x : Int × (List (Int))) => (x.2).length)) (l := l)
 refine tsr ?_
 refine r_op (o_box 0 rfl rfl rfl rfl) ?_
 refine r_op oA ?_
 refine r_end ?_
 refine t_seq ?_
 refine tsr ?_
 refine r_op (oF 0) ?_
 refine r_op oL ?_
 refine r_op (o_call 1 1 false (Go.Proofs.enters_of Try.func40 (by kernel_rfl) rfl) (c_impl_AreValidRelations (rs) (by omega)) rfl (.cons rfl (.c .t0) .nil) rfl rfl rfl) ?_
 refine r_op (o_not rfl rfl) ?_
 refine r_op oM ?_
 refine r_guard rfl rfl rfl (fun g1 => ?_) (fun g1 => ?_)
 ·
  have g1' := (bnf g1)
  refine r_op (oF 1) ?_
  refine r_guard rfl rfl rfl (fun _ => ?_) (ncf g1)
  refine r_op oL ?_
  refine r_guard rfl rfl rfl (fun _ => ?_) (ncf g1)
  refine r_op (o_len rfl rfl rfl) ?_
  refine r_guard rfl rfl rfl (fun _ => ?_) (ncf g1)
  refine r_op oB ?_
  refine r_op (o_pickF rfl rfl g1 rfl) ?_
  refine r_end ?_
  refine t_cond rfl (fun h2 => ?_) (fun h2 => ?_)
  ·
   have h2' := of_decide_eq_true h2
   refine tsr ?_
   refine r_op oA ?_
   refine r_end ?_
   refine t_ret Try.func18 (.tmp rfl .nil) rfl fun E S w u hI hd => ?_
   refine post_mk hI hd ?_ trivial rfl rfl rfl <;> clear hI hd <;> (try clear ih0)
   all_goals (refine scB ?_; (rw [instOk_no (by clear hl gl ho hrs; grind)]; done))
  ·
   have h2' := of_decide_eq_false h2
   refine t_skip ?_
   refine t_seq ?_
   refine tsr ?_
   refine r_op (oF 1) ?_
   refine r_op oL ?_
   refine r_op (o_len rfl rfl rfl) ?_
   refine r_op oM ?_
   refine r_end ?_
   refine t_block ?_
   refine t_loopL (fun m => ⟨[(1, some (.c (.ptr 0 0))), (16, some (.c (.t none (.sl 2 (enS2 encI (enSl 1 encI)) (l))))), (17, some (.c (.t none (.v (.int .i64 (((l).length : Int))))))), (18, some (.c (.t none (.v (.int .i64 ((m : Int)))))))], [(0, some (.box [.t none (.sl 3 (enS3 encS encI encB) (rs)), .t none (.sl 2 (enS2 encI (enSl 1 encI)) (l))]))], 1⟩ : Nat → St) (fun m => m ≤ l.length ∧ ∀ j, j < m → instStep rs l j = true) (fun m => l.length - m) 0 ⟨⟨rfl, ⟨rfl, ⟨rfl, ⟨rfl, trivial⟩⟩⟩⟩, ⟨rfl, trivial⟩, rfl⟩ (by exact ⟨Nat.zero_le _, fun j h => by omega⟩) ?_
   rintro m hI ih0
   try dsimp only at hI ih0
   obtain ⟨i1, i2⟩ := hI
   refine tsr ?_
   refine r_op oB ?_
   refine r_end ?_
   refine t_seq ?_
   refine t_cond rfl (fun h3 => ?_) (fun h3 => ?_)
   ·
    have h3' := of_decide_eq_true h3
    refine t_skip ?_
    refine t_seq ?_
    refine t_block ?_
    refine tsr ?_
    refine r_op oM ?_
    obtain ⟨z4, hz5, b6⟩ := at_get (xs := l) (n := (m : Int)) (by omega) (by omega)
    refine r_op (o_index rfl (by kernel_rfl) rfl rfl b6 hz5) ?_
    refine r_op (o_loadA rfl (n := 2) (by kernel_rfl) (by kernel_rfl) rfl rfl) ?_
    refine r_op (o_alloc 1 (zs := [.int .i64 (0), .slice none 0 0]) rfl rfl (by kernel_rfl) rfl) ?_
    refine r_op oA ?_
    refine r_op (oS 2) ?_
    refine r_end ?_
    refine t_seq ?_
    refine t_seq ?_
    refine t_draw (fun _ => true) (by kernel_rfl) ?_
    refine dT 0 rfl (pF 0) ?_
    refine dT 1 rfl pL ?_
    refine dT 2 rfl (pC 2) ?_
    refine dO 3 rfl (o_call 2 2 false (Go.Proofs.enters_of Try.func41 (by kernel_rfl) rfl) (c_impl_IsValidFact (rs) (z4.1) (z4.2) (by omega) (by (have e1 := sz_at (f := (fun (x : Int × (List (Int))) => (x.2).length)) (l := l) (m := m) (by assumption); (try dsimp only at e1); omega)) (by exact ho _ (List.mem_of_getElem? (by assumption)))) rfl (.cons rfl (.c .t0) (.cons rfl (.agg (.cons .t0 (.cons .t0 .nil))) .nil)) rfl rfl rfl) ?_
    refine dT 4 rfl (p_not rfl) ?_
    refine dT 5 rfl pM ?_
    refine dH 6 rfl (fun _ => pM) (fun g7 => ?_) (fun g7 => ?_)
    ·
     have g7' := (bnf g7)
     refine dH 7 rfl (fun _ => pB) (fun _ => ?_) (ncf g7)
     refine dH 8 rfl (fun _ => pM) (fun _ => ?_) (ncf g7)
     refine dH 9 rfl (fun _ => pF 1) (fun g8 => ?_) (fun g8 => ?_)
     ·
      have g8' := of_decide_eq_true g8
      refine dH 10 rfl (fun _ => pL) (fun _ => ?_) (nc g8)
      refine dH 11 rfl (fun _ => pM) (fun _ => ?_) (nc g8)
      refine dH 12 rfl (fun _ => pB) (fun _ => ?_) (nc g8)
      obtain ⟨z9, hz10, b11⟩ := at_get (xs := l) (n := IntKind.i64.wrap ((m : Int) - 1)) (by (simp only [IntKind.wrap_i64] at *; omega)) (by (simp only [IntKind.wrap_i64] at *; omega))
      refine dH 13 rfl (fun _ => p_index (by kernel_rfl) rfl rfl b11 hz10) (fun _ => ?_) (nc g8)
      refine dH 14 rfl (fun _ => p_loadA (n := 2) (by kernel_rfl) (by kernel_rfl) rfl rfl) (fun _ => ?_) (nc g8)
      refine dH 15 rfl (fun _ => pC 2) (fun _ => ?_) (nc g8)
      refine d_onlyG 16 rfl rfl (by kernel_rfl) rfl rfl rfl (fun _ => (o_call 2 2 false (Go.Proofs.enters_of Try.func42 (by kernel_rfl) rfl) (c_impl_CompareFacts (z9.1) (z9.2) (z4.1) (z4.2) (by (have e1 := sz_at (f := (fun (x : Int × (List (Int))) => (x.2).length)) (l := l) (m := (IntKind.i64.wrap ((m : Int) - 1)).toNat) (by assumption); (try dsimp only at e1); omega)) (by (have e1 := sz_at (f := (fun (x : Int × (List (Int))) => (x.2).length)) (l := l) (m := m) (by assumption); (try dsimp only at e1); omega))) rfl (.cons rfl (.agg (.cons .t0 (.cons .t0 .nil))) (.cons rfl (.agg (.cons .t0 (.cons .t0 .nil))) .nil)) rfl rfl rfl)) (fun _ => ?_) (nc g8)
      refine dH 17 rfl (fun _ => pB) (fun _ => ?_) (nc g8)
      refine dH 18 rfl (fun _ => p_pickT rfl g8 rfl) (fun _ => ?_) (ncf g7)
      refine dT 19 rfl (p_pickF rfl g7 rfl) ?_
      refine d_end (by kernel_rfl) ?_
      refine t_cond rfl (fun h12 => ?_) (fun h12 => ?_)
      ·
       have h12' := of_decide_eq_true h12
       refine tsr ?_
       refine r_op oA ?_
       refine r_end ?_
       refine t_ret Try.func18 (.tmp rfl .nil) rfl fun E S w u hI hd => ?_
       refine post_mk hI hd ?_ trivial rfl rfl rfl <;> clear hI hd <;> (try clear ih0)
       all_goals (refine scB ?_; (rw [instOk_not (rs := rs) (l := l) (m := m) (by omega) (by (try (have qb := instStep_bad (rs := rs) (l := l) (m := m) hz5 (by assumption))); (try (have qz := instStep_zero (rs := rs) (l := l) (m := m) hz5 (by omega))); (try (have qp := instStep_pos (rs := rs) (l := l) (m := m) hz5 (by omega) hz10 (by simp only [IntKind.wrap_i64]; omega))); (try (have qS := srcA_at (rs := rs) (r := z4.1) (ts := z4.2) hz10)); (try (have qT := srcA_at (rs := rs) (r := z4.1) (ts := z4.2) (by assumption))); clear hl gl ho hrs; grind)]; done))
      ·
       have h12' := of_decide_eq_false h12
       refine t_skip ?_
       refine tsr ?_
       refine r_op (oF 0) ?_
       refine r_op oL ?_
       refine r_op (oF 0) ?_
       refine r_op oL ?_
       obtain ⟨z13, hz14, b15⟩ := at_get (xs := rs) (n := z4.1) (by exact (fact_idx (by assumption)).1) (by exact (fact_idx (by assumption)).2)
       refine r_op (o_index rfl (by kernel_rfl) rfl rfl b15 hz14) ?_
       refine r_op (o_field rfl (off := 2) (by kernel_rfl) rfl) ?_
       refine r_op (o_load1 rfl (by kernel_rfl) rfl rfl) ?_
       refine r_op oM ?_
       refine r_guard rfl rfl rfl (fun g16 => ?_) (fun g16 => ?_)
       ·
        have g16' := g16
        refine r_op (oC 2) ?_
        refine r_guard rfl rfl rfl (fun _ => ?_) (nc g16)
        refine r_op (o_call 2 4 false (Go.Proofs.enters_of Try.func43 (by kernel_rfl) rfl) (c_impl_NullsOfFact (z4.1) (z4.2) (by (have e1 := sz_at (f := (fun (x : Int × (List (Int))) => (x.2).length)) (l := l) (m := m) (by assumption); (try dsimp only at e1); omega)) (by exact ho _ (List.mem_of_getElem? (by assumption)))) rfl (.cons rfl (.agg (.cons .t0 (.cons .t0 .nil))) .nil) rfl rfl rfl) ?_
        refine r_guard rfl rfl rfl (fun _ => ?_) (nc g16)
        refine r_op (o_leno rfl rfl rfl rfl) ?_
        refine r_guard rfl rfl rfl (fun _ => ?_) (nc g16)
        refine r_op oB ?_
        refine r_op (o_pickT rfl rfl g16 rfl) ?_
        refine r_end ?_
        refine t_cond rfl (fun h17 => ?_) (fun h17 => ?_)
        ·
         have h17' := of_decide_eq_true h17
         refine tsr ?_
         refine r_op oA ?_
         refine r_end ?_
         refine t_ret Try.func18 (.tmp rfl .nil) rfl fun E S w u hI hd => ?_
         refine post_mk hI hd ?_ trivial rfl rfl rfl <;> clear hI hd <;> (try clear ih0)
         all_goals (refine scB ?_; (rw [instOk_not (rs := rs) (l := l) (m := m) (by omega) (by (try (have qb := instStep_bad (rs := rs) (l := l) (m := m) hz5 (by assumption))); (try (have qz := instStep_zero (rs := rs) (l := l) (m := m) hz5 (by omega))); (try (have qp := instStep_pos (rs := rs) (l := l) (m := m) hz5 (by omega) hz10 (by simp only [IntKind.wrap_i64]; omega))); (try (have qS := srcA_at (rs := rs) (r := z4.1) (ts := z4.2) hz10)); (try (have qT := srcA_at (rs := rs) (r := z4.1) (ts := z4.2) hz14)); clear hl gl ho hrs; grind)]; done))
        ·
         have h17' := of_decide_eq_false h17
         refine t_skip ?_
         refine t_endblock ?_
         refine t_region ?_
         refine r_op oB ?_
         refine r_op oM ?_
         refine r_end ?_
         refine t_le ?_ (ih0 (m + 1) (by (try dsimp only); omega) (by (try dsimp only); exact ⟨by omega, step_all i2 (by (try (have qb := instStep_bad (rs := rs) (l := l) (m := m) hz5 (by assumption))); (try (have qz := instStep_zero (rs := rs) (l := l) (m := m) hz5 (by omega))); (try (have qp := instStep_pos (rs := rs) (l := l) (m := m) hz5 (by omega) hz10 (by simp only [IntKind.wrap_i64]; omega))); (try (have qS := srcA_at (rs := rs) (r := z4.1) (ts := z4.2) hz10)); (try (have qT := srcA_at (rs := rs) (r := z4.1) (ts := z4.2) hz14)); clear hl gl ho hrs; grind)⟩))
         exact ⟨⟨rfl, ⟨rfl, ⟨rfl, ⟨(eqI (wr64 (by omega) (by omega))), trivial⟩⟩⟩⟩, ⟨rfl, trivial⟩, rfl⟩
       ·
        have g16' := g16
        refine r_guard rfl rfl rfl (ncf g16) (fun _ => ?_)
        refine r_guard rfl rfl rfl (ncf g16) (fun _ => ?_)
        refine r_guard rfl rfl rfl (ncf g16) (fun _ => ?_)
        refine r_op (o_pickF rfl rfl g16 rfl) ?_
        refine r_end ?_
        refine t_cond rfl (ncf rfl) (fun _ => ?_)
        refine t_skip ?_
        refine t_endblock ?_
        refine t_region ?_
        refine r_op oB ?_
        refine r_op oM ?_
        refine r_end ?_
        refine t_le ?_ (ih0 (m + 1) (by (try dsimp only); omega) (by (try dsimp only); exact ⟨by omega, step_all i2 (by (try (have qb := instStep_bad (rs := rs) (l := l) (m := m) hz5 (by assumption))); (try (have qz := instStep_zero (rs := rs) (l := l) (m := m) hz5 (by omega))); (try (have qp := instStep_pos (rs := rs) (l := l) (m := m) hz5 (by omega) hz10 (by simp only [IntKind.wrap_i64]; omega))); (try (have qS := srcA_at (rs := rs) (r := z4.1) (ts := z4.2) hz10)); (try (have qT := srcA_at (rs := rs) (r := z4.1) (ts := z4.2) hz14)); clear hl gl ho hrs; grind)⟩))
        exact ⟨⟨rfl, ⟨rfl, ⟨rfl, ⟨(eqI (wr64 (by omega) (by omega))), trivial⟩⟩⟩⟩, ⟨rfl, trivial⟩, rfl⟩
     ·
      have g8' := of_decide_eq_false g8
      refine dG 10 (ncf g8) (fun _ => ?_)
      refine dG 11 (ncf g8) (fun _ => ?_)
      refine dG 12 (ncf g8) (fun _ => ?_)
      refine dG 13 (ncf g8) (fun _ => ?_)
      refine dG 14 (ncf g8) (fun _ => ?_)
      refine dG 15 (ncf g8) (fun _ => ?_)
      refine dG 16 (ncf g8) (fun _ => ?_)
      refine dG 17 (ncf g8) (fun _ => ?_)
      refine dH 18 rfl (fun _ => p_pickF rfl g8 rfl) (fun _ => ?_) (ncf g7)
      refine dT 19 rfl (p_pickF rfl g7 rfl) ?_
      refine d_end (by kernel_rfl) ?_
      refine t_cond rfl (ncf rfl) (fun _ => ?_)
      refine t_skip ?_
      refine tsr ?_
      refine r_op (oF 0) ?_
      refine r_op oL ?_
      refine r_op (oF 0) ?_
      refine r_op oL ?_
      obtain ⟨z18, hz19, b20⟩ := at_get (xs := rs) (n := z4.1) (by exact (fact_idx (by assumption)).1) (by exact (fact_idx (by assumption)).2)
      refine r_op (o_index rfl (by kernel_rfl) rfl rfl b20 hz19) ?_
      refine r_op (o_field rfl (off := 2) (by kernel_rfl) rfl) ?_
      refine r_op (o_load1 rfl (by kernel_rfl) rfl rfl) ?_
      refine r_op oM ?_
      refine r_guard rfl rfl rfl (fun g21 => ?_) (fun g21 => ?_)
      ·
       have g21' := g21
       refine r_op (oC 2) ?_
       refine r_guard rfl rfl rfl (fun _ => ?_) (nc g21)
       refine r_op (o_call 2 4 false (Go.Proofs.enters_of Try.func43 (by kernel_rfl) rfl) (c_impl_NullsOfFact (z4.1) (z4.2) (by (have e1 := sz_at (f := (fun (x : Int × (List (Int))) => (x.2).length)) (l := l) (m := m) (by assumption); (try dsimp only at e1); omega)) (by exact ho _ (List.mem_of_getElem? (by assumption)))) rfl (.cons rfl (.agg (.cons .t0 (.cons .t0 .nil))) .nil) rfl rfl rfl) ?_
       refine r_guard rfl rfl rfl (fun _ => ?_) (nc g21)
       refine r_op (o_leno rfl rfl rfl rfl) ?_
       refine r_guard rfl rfl rfl (fun _ => ?_) (nc g21)
       refine r_op oB ?_
       refine r_op (o_pickT rfl rfl g21 rfl) ?_
       refine r_end ?_
       refine t_cond rfl (fun h22 => ?_) (fun h22 => ?_)
       ·
        have h22' := of_decide_eq_true h22
        refine tsr ?_
        refine r_op oA ?_
        refine r_end ?_
        refine t_ret Try.func18 (.tmp rfl .nil) rfl fun E S w u hI hd => ?_
        refine post_mk hI hd ?_ trivial rfl rfl rfl <;> clear hI hd <;> (try clear ih0)
        all_goals (refine scB ?_; (rw [instOk_not (rs := rs) (l := l) (m := m) (by omega) (by (try (have qb := instStep_bad (rs := rs) (l := l) (m := m) hz5 (by assumption))); (try (have qz := instStep_zero (rs := rs) (l := l) (m := m) hz5 (by omega))); (try (have qp := instStep_pos (rs := rs) (l := l) (m := m) hz5 (by omega) hz19 (by simp only [IntKind.wrap_i64]; omega))); (try (have qS := srcA_at (rs := rs) (r := z4.1) (ts := z4.2) hz19)); (try (have qT := srcA_at (rs := rs) (r := z4.1) (ts := z4.2) (by assumption))); clear hl gl ho hrs; grind)]; done))
       ·
        have h22' := of_decide_eq_false h22
        refine t_skip ?_
        refine t_endblock ?_
        refine t_region ?_
        refine r_op oB ?_
        refine r_op oM ?_
        refine r_end ?_
        refine t_le ?_ (ih0 (m + 1) (by (try dsimp only); omega) (by (try dsimp only); exact ⟨by omega, step_all i2 (by (try (have qb := instStep_bad (rs := rs) (l := l) (m := m) hz5 (by assumption))); (try (have qz := instStep_zero (rs := rs) (l := l) (m := m) hz5 (by omega))); (try (have qp := instStep_pos (rs := rs) (l := l) (m := m) hz5 (by omega) hz19 (by simp only [IntKind.wrap_i64]; omega))); (try (have qS := srcA_at (rs := rs) (r := z4.1) (ts := z4.2) hz19)); (try (have qT := srcA_at (rs := rs) (r := z4.1) (ts := z4.2) (by assumption))); clear hl gl ho hrs; grind)⟩))
        exact ⟨⟨rfl, ⟨rfl, ⟨rfl, ⟨(eqI (wr64 (by omega) (by omega))), trivial⟩⟩⟩⟩, ⟨rfl, trivial⟩, rfl⟩
      ·
       have g21' := g21
       refine r_guard rfl rfl rfl (ncf g21) (fun _ => ?_)
       refine r_guard rfl rfl rfl (ncf g21) (fun _ => ?_)
       refine r_guard rfl rfl rfl (ncf g21) (fun _ => ?_)
       refine r_op (o_pickF rfl rfl g21 rfl) ?_
       refine r_end ?_
       refine t_cond rfl (ncf rfl) (fun _ => ?_)
       refine t_skip ?_
       refine t_endblock ?_
       refine t_region ?_
       refine r_op oB ?_
       refine r_op oM ?_
       refine r_end ?_
       refine t_le ?_ (ih0 (m + 1) (by (try dsimp only); omega) (by (try dsimp only); exact ⟨by omega, step_all i2 (by (try (have qb := instStep_bad (rs := rs) (l := l) (m := m) hz5 (by assumption))); (try (have qz := instStep_zero (rs := rs) (l := l) (m := m) hz5 (by omega))); (try (have qp := instStep_pos (rs := rs) (l := l) (m := m) hz5 (by omega) hz19 (by simp only [IntKind.wrap_i64]; omega))); (try (have qS := srcA_at (rs := rs) (r := z4.1) (ts := z4.2) hz19)); (try (have qT := srcA_at (rs := rs) (r := z4.1) (ts := z4.2) (by assumption))); clear hl gl ho hrs; grind)⟩))
       exact ⟨⟨rfl, ⟨rfl, ⟨rfl, ⟨(eqI (wr64 (by omega) (by omega))), trivial⟩⟩⟩⟩, ⟨rfl, trivial⟩, rfl⟩
    ·
     have g7' := (bnt g7)
     refine dG 7 (nc g7) (fun _ => ?_)
     refine dG 8 (nc g7) (fun _ => ?_)
     refine dK 9 ?_
     refine dK 10 ?_
     refine dK 11 ?_
     refine dK 12 ?_
     refine dK 13 ?_
     refine dK 14 ?_
     refine dK 15 ?_
     refine dK 16 ?_
     refine dK 17 ?_
     refine dG 18 (nc g7) (fun _ => ?_)
     refine dT 19 rfl (p_pickT rfl g7 rfl) ?_
     refine d_end (by kernel_rfl) ?_
     refine t_cond rfl (fun _ => ?_) (nc rfl)
     refine tsr ?_
     refine r_op oA ?_
     refine r_end ?_
     refine t_ret Try.func18 (.tmp rfl .nil) rfl fun E S w u hI hd => ?_
     refine post_mk hI hd ?_ trivial rfl rfl rfl <;> clear hI hd <;> (try clear ih0)
     all_goals (refine scB ?_; (rw [instOk_not (rs := rs) (l := l) (m := m) (by omega) (by (try (have qb := instStep_bad (rs := rs) (l := l) (m := m) hz5 (by assumption))); (try (have qz := instStep_zero (rs := rs) (l := l) (m := m) hz5 (by omega))); (try (have qp := instStep_pos (rs := rs) (l := l) (m := m) hz5 (by omega) (by assumption) (by simp only [IntKind.wrap_i64]; omega))); (try (have qS := srcA_at (rs := rs) (r := z4.1) (ts := z4.2) (by assumption))); (try (have qT := srcA_at (rs := rs) (r := z4.1) (ts := z4.2) (by assumption))); clear hl gl ho hrs; grind)]; done))
   ·
    have h3' := of_decide_eq_false h3
    refine t_exit rfl ?_
    refine tsr ?_
    refine r_op oA ?_
    refine r_end ?_
    refine t_ret Try.func18 (.tmp rfl .nil) rfl fun E S w u hI hd => ?_
    refine post_mk hI hd ?_ trivial rfl rfl rfl <;> clear hI hd <;> (try clear ih0)
    all_goals (refine scB ?_; (rw [instOk_end (m := m) i2 (by omega)]; clear hl gl ho hrs; grind))
 ·
  have g1' := (bnt g1)
  refine r_guard rfl rfl rfl (nc g1) (fun _ => ?_)
  refine r_guard rfl rfl rfl (nc g1) (fun _ => ?_)
  refine r_guard rfl rfl rfl (nc g1) (fun _ => ?_)
  refine r_op (o_pickT rfl rfl g1 rfl) ?_
  refine r_end ?_
  refine t_cond rfl (fun _ => ?_) (nc rfl)
  refine tsr ?_
  refine r_op oA ?_
  refine r_end ?_
  refine t_ret Try.func18 (.tmp rfl .nil) rfl fun E S w u hI hd => ?_
  refine post_mk hI hd ?_ trivial rfl rfl rfl <;> clear hI hd <;> (try clear ih0)
  all_goals (refine scB ?_; (rw [instOk_no (by clear hl gl ho hrs; grind)]; done))
set_option maxHeartbeats 1000000 in
set_option maxRecDepth 10000 in
theorem c_slices_Clone___impl_Relation_impl_Relation_ (l : Rels) (hl : l.length ≤ 1048576) : Pu Try.prog 44 [.c (.t none (.sl 3 (enS3 encS encI encB) (l)))] [(0, some (.row none 45 true 3 (enS3 encS encI encB) (l)))] 1 (.c (.own 0)) := by
 refine pu_enter Try.func44 rfl (Nat.le_of_ble_eq_true rfl) fun w S => ?_
 refine tsr ?_
 refine r_op oA ?_
 refine r_end ?_
 refine t_seq ?_
 refine tsr ?_
 refine r_op oM ?_
 refine r_eqnil rfl rfl rfl (fun en1 => ?_) ?_
 ·
  refine r_end ?_
  refine t_cond rfl (fun _ => ?_) (nc rfl)
  refine tsr ?_
  refine r_op oA ?_
  refine r_end ?_
  refine gt_nil 0 (t := 2) (et := 45) (sz := 3) true (enS3 encS encI encB) rfl rfl ?_
  refine t_ret Try.func44 (.tmp rfl .nil) rfl fun E S w u hI hd => ?_
  refine post_mk hI hd ?_ ⟨eqR ?_, trivial⟩ rfl rfl rfl <;> clear hI hd
  all_goals first | rfl | ((exact en1.symm))
 ·
  refine r_end ?_
  refine t_cond rfl (ncf rfl) (fun _ => ?_)
  refine t_skip ?_
  refine tsr ?_
  refine r_op (o_lit0 0 (e := 45) (sz := 3) (zs := [.string (mkS ([])), .int .i64 (0), .bool (false)]) (enS3 encS encI encB) rfl rfl (by kernel_rfl) rfl) ?_
  refine r_op oM ?_
  refine r_op (o_appendS 0 (e := 45) (sz := 3) (by' := 32) rfl (by kernel_rfl) rfl rfl rfl rfl (fun _ j => by rcases j with _ | _ | j <;> exact ⟨_, rfl⟩) (by (simp; omega)) (by (simp; omega))) ?_
  refine r_op oA ?_
  refine r_end ?_
  refine t_ret Try.func44 (.tmp rfl .nil) rfl fun E S w u hI hd => ?_
  refine post_mk hI hd ?_ ⟨eqR ?_, trivial⟩ rfl rfl rfl <;> clear hI hd
  all_goals (rfl)
set_option maxHeartbeats 1000000 in
set_option maxRecDepth 10000 in
theorem c_slices_Clone___int_int_ (l : List Int) (hl : l.length ≤ 1099511627776) : Pu Try.prog 77 [.c (.t none (.sl 1 encI (l)))] [(0, some (.row none 3 true 1 encI (l)))] 1 (.c (.own 0)) := by
 refine pu_enter Try.func77 rfl (Nat.le_of_ble_eq_true rfl) fun w S => ?_
 refine tsr ?_
 refine r_op oA ?_
 refine r_end ?_
 refine t_seq ?_
 refine tsr ?_
 refine r_op oM ?_
 refine r_eqnil rfl rfl rfl (fun en1 => ?_) ?_
 ·
  refine r_end ?_
  refine t_cond rfl (fun _ => ?_) (nc rfl)
  refine tsr ?_
  refine r_op oA ?_
  refine r_end ?_
  refine gt_nil 0 (t := 2) (et := 3) (sz := 1) true encI rfl rfl ?_
  refine t_ret Try.func77 (.tmp rfl .nil) rfl fun E S w u hI hd => ?_
  refine post_mk hI hd ?_ ⟨eqR ?_, trivial⟩ rfl rfl rfl <;> clear hI hd
  all_goals first | rfl | ((exact en1.symm))
 ·
  refine r_end ?_
  refine t_cond rfl (ncf rfl) (fun _ => ?_)
  refine t_skip ?_
  refine tsr ?_
  refine r_op (o_lit0 0 (e := 3) (sz := 1) (zs := [.int .i64 (0)]) encI rfl rfl (by kernel_rfl) rfl) ?_
  refine r_op oM ?_
  refine r_op (o_appendS 0 (e := 3) (sz := 1) (by' := 8) rfl (by kernel_rfl) rfl rfl rfl rfl (fun _ _ => ⟨_, rfl⟩) (by (simp; omega)) (by (simp; omega))) ?_
  refine r_op oA ?_
  refine r_end ?_
  refine t_ret Try.func77 (.tmp rfl .nil) rfl fun E S w u hI hd => ?_
  refine post_mk hI hd ?_ ⟨eqR ?_, trivial⟩ rfl rfl rfl <;> clear hI hd
  all_goals (rfl)
set_option maxHeartbeats 1000000 in
set_option maxRecDepth 10000 in
theorem c_impl_factCopy (r : Int) (ts : List Int) (hl : ts.length ≤ 1048576) : Pu Try.prog 71 [.agg [.t none (.v (.int .i64 (r))), .t none (.sl 1 encI (ts))]] [(2, some (.row none 3 true 1 encI (ts)))] 3 (.agg [.t none (.v (.int .i64 (r))), .own 2]) := by
 refine pu_enter Try.func71 rfl (Nat.le_of_ble_eq_true rfl) fun w S => ?_
 refine tsr ?_
 refine r_op (o_box 0 rfl rfl rfl rfl) ?_
 refine r_op (o_alloc 1 (zs := [.int .i64 (0), .slice none 0 0]) rfl rfl (by kernel_rfl) rfl) ?_
 refine r_end ?_
 refine t_seq ?_
 refine t_draw (fun i => !(Nat.beq i 6)) (by kernel_rfl) ?_
 refine dT 0 rfl (pF 0) ?_
 refine dT 1 rfl pL ?_
 refine dT 2 rfl (pF 1) ?_
 refine dT 3 rfl pL ?_
 refine dO 4 rfl (o_call 2 3 false (Go.Proofs.enters_of Try.func77 (by kernel_rfl) rfl) (c_slices_Clone___int_int_ (ts) (by omega)) rfl (.cons rfl (.c .t0) .nil) rfl rfl rfl) ?_
 refine dT 5 rfl (p_build (pl := [(0, 1), (1, 1)]) (zs := [.int .i64 (0), .slice none 0 0]) (by kernel_rfl) (by kernel_rfl) rfl rfl rfl) ?_
 refine dO 6 rfl (oS 2) ?_
 refine d_end (by kernel_rfl) ?_
 refine t_ret Try.func71 (.cells (n := 2) (by kernel_rfl) (by kernel_rfl) rfl rfl rfl .nil) rfl fun E S w u hI hd => ?_
 refine post_mk hI hd ?_ ⟨eqR ?_, trivial⟩ rfl rfl rfl <;> clear hI hd
 all_goals (rfl)
set_option maxHeartbeats 1000000 in
set_option maxRecDepth 10000 in
theorem c_impl_factsCopy (fs : Atoms) (hfs : szS (fun (x : Int × (List (Int))) => (x.2).length) fs ≤ 1048576) : Pu Try.prog 45 [.c (.t none (.sl 2 (enS2 encI (enSl 1 encI)) (fs)))] [(0, some (.row none 43 true 2 (enS2 encI (enSl 1 encI)) (fs)))] 1 (.c (.own 0)) := by
 refine pu_enter Try.func45 rfl (Nat.le_of_ble_eq_true rfl) fun w S => ?_
 have gl := sz_len (f := (fun (x : Int × (List (Int))) => (x.2).length)) (l := fs)
 refine tsr ?_
 refine r_op oA ?_
 refine etr ?_
 refine r_op (o_lit0 0 (e := 43) (sz := 2) (zs := [.int .i64 (0), .slice none 0 0]) (enS2 encI (enSl 1 encI)) rfl rfl (by kernel_rfl) rfl) ?_
 refine r_op oA ?_
 refine r_end ?_
 refine t_seq ?_
 refine tsr ?_
 refine r_op oM ?_
 refine r_op (o_len rfl rfl rfl) ?_
 refine r_op oM ?_
 refine r_end ?_
 refine t_block ?_
 refine t_loopL (fun m => ⟨[(2, some (.c (.t none (.v (.slice none 0 0))))), (3, some (.c (.own 0))), (7, some (.c (.t none (.sl 2 (enS2 encI (enSl 1 encI)) (fs))))), (8, some (.c (.t none (.v (.int .i64 (((fs).length : Int))))))), (9, some (.c (.t none (.v (.int .i64 ((m : Int)))))))], [(0, some (.row none 43 true 2 (enS2 encI (enSl 1 encI)) (fs.take m)))], 1⟩ : Nat → St) (fun m => m ≤ fs.length) (fun m => fs.length - m) 0 ⟨⟨rfl, ⟨rfl, ⟨rfl, ⟨rfl, ⟨rfl, trivial⟩⟩⟩⟩⟩, ⟨rfl, trivial⟩, rfl⟩ (by exact Nat.zero_le _) ?_
 rintro m hI ih0
 try dsimp only at hI ih0
 have i1 := hI
 refine tsr ?_
 refine r_op oB ?_
 refine r_end ?_
 refine t_seq ?_
 refine t_cond rfl (fun h1 => ?_) (fun h1 => ?_)
 ·
  have h1' := of_decide_eq_true h1
  refine t_skip ?_
  refine t_seq ?_
  refine t_block ?_
  refine tsr ?_
  obtain ⟨z2, hz3, b4⟩ := at_get (xs := fs) (n := (m : Int)) (by omega) (by omega)
  refine r_op (o_index rfl (by kernel_rfl) rfl rfl b4 hz3) ?_
  refine r_op (o_loadA rfl (n := 2) (by kernel_rfl) (by kernel_rfl) rfl rfl) ?_
  refine r_op (o_alloc 1 (zs := [.int .i64 (0), .slice none 0 0]) rfl rfl (by kernel_rfl) rfl) ?_
  refine r_op (oS 2) ?_
  refine rtr ?_
  refine r_op oM ?_
  refine r_op (oC 2) ?_
  refine r_op (o_call 2 5 false (Go.Proofs.enters_of Try.func71 (by kernel_rfl) rfl) (c_impl_factCopy (z2.1) (z2.2) (by (have e1 := sz_at (f := (fun (x : Int × (List (Int))) => (x.2).length)) (l := fs) (m := m) (by assumption); (try dsimp only at e1); omega))) rfl (.cons rfl (.agg (.cons .t0 (.cons .t0 .nil))) .nil) rfl rfl rfl) ?_
  refine r_op (o_litS 5 (e := 43) (sz := 2) (zs := [.int .i64 (0), .slice none 0 0]) rfl rfl (by kernel_rfl) rfl rfl rfl rfl rfl) ?_
  refine r_op (o_append 0 (e := 43) (sz := 2) (by' := 32) (((z2.1), (z2.2))) rfl (by kernel_rfl) rfl rfl rfl rfl rfl rfl (.cons .sc (.take (.own rfl) rfl .nil)) rfl (by (simp; omega)) (by (simp; omega))) ?_
  refine r_op oA ?_
  refine r_end ?_
  refine t_endblock ?_
  refine t_region ?_
  refine r_op oB ?_
  refine r_op oM ?_
  refine r_end ?_
  refine t_le ?_ (ih0 (m + 1) (by (try dsimp only); omega) (by (try dsimp only); omega))
  exact ⟨⟨rfl, ⟨rfl, ⟨rfl, ⟨rfl, ⟨(eqI (wr64 (by omega) (by omega))), trivial⟩⟩⟩⟩⟩, ⟨(eqR (take_snoc hz3)), trivial⟩, rfl⟩
 ·
  have h1' := of_decide_eq_false h1
  refine t_exit rfl ?_
  refine tsr ?_
  refine r_op oM ?_
  refine r_op oA ?_
  refine r_end ?_
  refine t_ret Try.func45 (.tmp rfl .nil) rfl fun E S w u hI hd => ?_
  refine post_mk hI hd ?_ ⟨eqR ?_, trivial⟩ rfl rfl rfl <;> clear hI hd <;> (try clear ih0)
  all_goals first | rfl | ((rw [List.take_of_length_le (by omega)]))
end Go.Eng
