/- What the functions that FnExactFormatTerm reaches answer. -/
import Derived.Test.YtahmpdfnnnibbaaDoorEngP
import Derived.Test.YtahmpdfnnnibbaaDoorChecked
set_option linter.unusedVariables false
set_option linter.unusedSimpArgs false
namespace Go.Eng
open Go Go.RowKit Go.Proofs
set_option maxHeartbeats 1000000 in
set_option maxRecDepth 10000 in
theorem c_spec_l1In (a0 a1 a2 : Int) : Pu Tryd.prog 30 [.c (.t none (.v (.int .i64 (a0)))), .c (.t none (.v (.int .i64 (a1)))), .c (.t none (.v (.int .i64 (a2))))] [] 0 (.c (.t none (.v (.bool (decide (a1 ≤ a0 ∧ a0 ≤ a2)))))) := by
  refine pu_enter Tryd.func30 rfl (Nat.le_of_ble_eq_true rfl) fun w S => ?_
  refine t_seq ?_
  refine t_region ?_
  refine r_op (o_assign rfl rfl) ?_
  refine r_end ?_
  refine t_seq ?_
  refine t_region ?_
  refine r_op (o_move rfl rfl) ?_
  refine r_op (o_move rfl rfl) ?_
  refine r_op (o_bin rfl rfl rfl rfl) ?_
  refine r_op (o_move rfl rfl) ?_
  refine r_guard rfl rfl rfl (fun g1 => ?_) (fun g1 => ?_)
  ·
    have g1' := of_decide_eq_true g1
    refine r_op (o_move rfl rfl) ?_
    refine r_guard rfl rfl rfl (fun _ => ?_) (nc g1)
    refine r_op (o_move rfl rfl) ?_
    refine r_guard rfl rfl rfl (fun _ => ?_) (nc g1)
    refine r_op (o_bin rfl rfl rfl rfl) ?_
    refine r_op (o_pickT rfl rfl g1 rfl) ?_
    refine r_op (o_assign rfl rfl) ?_
    refine r_end ?_
    refine t_ret Tryd.func30 (.tmp rfl .nil) rfl fun E S w u hI hd => ?_
    refine post_mk hI hd ?_ trivial rfl rfl rfl <;> clear hI hd
    all_goals first | rfl | (simp_all <;> omega)
  ·
    have g1' := of_decide_eq_false g1
    refine r_guard rfl rfl rfl (ncf g1) (fun _ => ?_)
    refine r_guard rfl rfl rfl (ncf g1) (fun _ => ?_)
    refine r_op (o_pickF rfl rfl g1 rfl) ?_
    refine r_op (o_assign rfl rfl) ?_
    refine r_end ?_
    refine t_ret Tryd.func30 (.tmp rfl .nil) rfl fun E S w u hI hd => ?_
    refine post_mk hI hd ?_ trivial rfl rfl rfl <;> clear hI hd
    all_goals first | rfl | (simp_all <;> omega)
set_option maxHeartbeats 1000000 in
set_option maxRecDepth 10000 in
theorem c_spec_FormatInt (k : Int) (hk : 0 ≤ k) (hk2 : k < 4611686018427387904) : Pu Tryd.prog 31 [.c (.t none (.v (.int .i64 (k))))] [] 0 (.c (.t none (.v (.string (mkS (fmtN k)))))) := by
  refine pu_enter Tryd.func31 rfl (Nat.le_of_ble_eq_true rfl) fun w S => ?_
  refine t_seq ?_
  refine t_region ?_
  refine r_op (o_assign rfl rfl) ?_
  refine r_end ?_
  refine t_seq ?_
  refine t_seq ?_
  refine t_region ?_
  refine r_op (o_move rfl rfl) ?_
  refine r_op (o_bin rfl rfl rfl rfl) ?_
  refine r_end ?_
  refine t_cond rfl (fun h1 => ?_) (fun h1 => ?_)
  ·
    have h1' := of_decide_eq_true h1
    refine t_seq ?_
    refine t_region ?_
    refine r_op (o_assign rfl rfl) ?_
    refine r_end ?_
    refine t_ret Tryd.func31 (.tmp rfl .nil) rfl fun E S w u hI hd => ?_
    refine post_mk hI hd ?_ trivial rfl rfl rfl <;> clear hI hd <;> (try clear ih0)
    all_goals first | rfl | (refine scS ?_; unfold fmtN; first | (rw [if_pos (by assumption)]; done) | ((obtain rfl : q = 0 := by omega); (have e := i1; simp only [digs, List.nil_append] at e; rw [if_neg (by omega), e])))
  ·
    have h1' := of_decide_eq_false h1
    refine t_skip ?_
    refine t_seq ?_
    refine t_region ?_
    refine r_op (o_assign rfl rfl) ?_
    refine r_end ?_
    refine t_seq ?_
    refine t_region ?_
    refine r_op (o_move rfl rfl) ?_
    refine r_op (o_bin rfl rfl rfl rfl) ?_
    refine r_op (o_assign rfl rfl) ?_
    refine r_end ?_
    refine t_seq ?_
    refine t_block ?_
    refine t_loopL (fun (q, out) => ⟨[(0, some (.c (.t none (.v (.int .i64 ((q : Int))))))), (2, some (.c (.t none (.v (.string (mkS (([] : List UInt8)))))))), (3, some (.c (.t none (.v (.string (mkS (out))))))), (4, some (.c (.t none (.v (.bool (decide (k < 0)))))))], [], 0⟩ : Nat × List UInt8 → St) (fun (q, out) => digs q ++ out = digs k.toNat ∧ (q : Int) ≤ k ∧ out.length + q ≤ k.toNat) (fun (q, out) => q) (k.toNat, []) ⟨⟨(eqI (by omega)), ⟨rfl, ⟨rfl, ⟨rfl, trivial⟩⟩⟩⟩, trivial, rfl⟩ (by exact ⟨List.append_nil _, by omega, by simp⟩) ?_
    rintro ⟨q, out⟩ hI ih0
    try dsimp only at hI ih0
    obtain ⟨i1, i2, i3⟩ := hI
    refine t_seq ?_
    refine t_seq ?_
    refine t_region ?_
    refine r_op (o_move rfl rfl) ?_
    refine r_op (o_bin rfl rfl rfl rfl) ?_
    refine r_end ?_
    refine t_cond rfl (fun h2 => ?_) (fun h2 => ?_)
    ·
      have h2' := of_decide_eq_true h2
      refine t_skip ?_
      refine t_block ?_
      refine t_seq ?_
      refine t_region ?_
      refine r_op (o_move rfl rfl) ?_
      refine r_op (o_binD rfl rfl rfl (rem_lit 10 rfl (by decide))) ?_
      refine r_op (o_assign rfl rfl) ?_
      refine r_end ?_
      refine t_seq ?_
      refine t_seq ?_
      refine t_region ?_
      refine r_op (o_move rfl rfl) ?_
      refine r_op (o_bin rfl rfl rfl rfl) ?_
      refine r_end ?_
      refine t_cond rfl (fun h3 => ?_) (fun h3 => ?_)
      ·
        have h3' := of_decide_eq_true h3
        exfalso; omega
      ·
        have h3' := of_decide_eq_false h3
        refine t_skip ?_
        refine t_seq ?_
        refine t_region ?_
        refine r_op (o_move rfl rfl) ?_
        refine r_op (o_bin rfl rfl rfl rfl) ?_
        refine r_op (o_conv rfl Tryd.underlying3 Tryd.underlying5 rfl) ?_
        refine r_op (o_lit1 0 (e := 5) (sz := 1) (zs := [.int .u8 0]) (enc := encU) (IntKind.u8.wrap (IntKind.i64.wrap (48 + ((q % 10 : Nat) : Int)))) rfl rfl (by kernel_rfl) rfl rfl rfl rfl rfl rfl (.cons .sc .nil)) ?_
        refine r_op (o_convBSo rfl Tryd.underlying79 Tryd.underlying5 Tryd.underlying9 rfl rfl) ?_
        refine r_op (o_move rfl rfl) ?_
        refine r_op (o_cat rfl rfl rfl (by first | omega | (simp [bytesOf]; omega))) ?_
        refine r_op (o_assign rfl rfl) ?_
        refine r_end ?_
        refine t_region ?_
        refine r_op (o_move rfl rfl) ?_
        refine r_op (o_binD rfl rfl rfl (quo_lit 10 rfl (by decide) (by omega))) ?_
        refine r_op (o_assign rfl rfl) ?_
        refine r_end ?_
        refine t_endblock ?_
        refine t_le ?_ (ih0 (q / 10, (bytesOf ([IntKind.u8.wrap (IntKind.i64.wrap (48 + ((q % 10 : Nat) : Int)))])) ++ out) (by (try dsimp only); omega) (by (try dsimp only); exact ⟨by rw [digit_byte, ← i1, digs_step (q := q) (by omega), List.append_assoc], by omega, by rw [digit_byte]; simp only [List.length_append, List.length_cons, List.length_nil]; omega⟩))
        exact ⟨⟨rfl, ⟨rfl, ⟨rfl, ⟨rfl, trivial⟩⟩⟩⟩, trivial, rfl⟩
    ·
      have h2' := of_decide_eq_false h2
      refine t_exit rfl ?_
      refine t_seq ?_
      refine t_seq ?_
      refine t_region ?_
      refine r_op (o_move rfl rfl) ?_
      refine r_end ?_
      refine t_cond rfl (fun h4 => ?_) (fun h4 => ?_)
      ·
        have h4' := of_decide_eq_true h4
        exfalso; omega
      ·
        have h4' := of_decide_eq_false h4
        refine t_skip ?_
        refine t_seq ?_
        refine t_region ?_
        refine r_op (o_move rfl rfl) ?_
        refine r_op (o_assign rfl rfl) ?_
        refine r_end ?_
        refine t_ret Tryd.func31 (.tmp rfl .nil) rfl fun E S w u hI hd => ?_
        refine post_mk hI hd ?_ trivial rfl rfl rfl <;> clear hI hd <;> (try clear ih0)
        all_goals first | rfl | (refine scS ?_; unfold fmtN; first | (rw [if_pos (by assumption)]; done) | ((obtain rfl : q = 0 := by omega); (have e := i1; simp only [digs, List.nil_append] at e; rw [if_neg (by omega), e])))
set_option maxHeartbeats 1000000 in
set_option maxRecDepth 10000 in
theorem c_spec_FormatTerm (t : Int) (ht : okI t) : Pu Tryd.prog 8 [.c (.t none (.v (.int .i64 (t))))] [] 0 (.c (.t none (.v (.string (mkS (fmtT t)))))) := by
  refine pu_enter Tryd.func8 rfl (Nat.le_of_ble_eq_true rfl) fun w S => ?_
  have h1 := ht.1; have h2 := ht.2
  refine t_seq ?_
  refine t_region ?_
  refine r_op (o_assign rfl rfl) ?_
  refine r_end ?_
  refine t_seq ?_
  refine t_seq ?_
  refine t_region ?_
  refine r_op (o_move rfl rfl) ?_
  refine r_op (o_call 0 0 false (Go.Proofs.enters_of Tryd.func30 (by kernel_rfl) rfl) (c_spec_l1In (t) (-10) (-1)) rfl (.cons rfl (.c .t0) (.cons rfl (.c .t0) (.cons rfl (.c .t0) .nil))) rfl rfl rfl) ?_
  refine r_end ?_
  refine t_cond rfl (fun h1 => ?_) (fun h1 => ?_)
  ·
    have h1' := of_decide_eq_true h1
    refine t_seq ?_
    refine t_region ?_
    refine r_op (o_move rfl rfl) ?_
    refine r_op (o_bin rfl rfl rfl rfl) ?_
    refine r_op (o_call 0 0 false (Go.Proofs.enters_of Tryd.func31 (by kernel_rfl) rfl) (c_spec_FormatInt (IntKind.i64.wrap ((-1) - t)) (by first | omega | (rw [wr64 (by omega) (by omega)]; omega) | (rw [wr64 (by omega) (by omega)]; simp; omega) | (constructor <;> (rw [wr64 (by omega) (by omega)]; omega))) (by first | omega | (rw [wr64 (by omega) (by omega)]; omega) | (rw [wr64 (by omega) (by omega)]; simp; omega) | (constructor <;> (rw [wr64 (by omega) (by omega)]; omega)))) rfl (.cons rfl (.c .t0) .nil) rfl rfl rfl) ?_
    refine r_op (o_assign rfl rfl) ?_
    refine r_end ?_
    refine t_ret Tryd.func8 (.tmp rfl .nil) rfl fun E S w u hI hd => ?_
    refine post_mk hI hd ?_ trivial rfl rfl rfl <;> clear hI hd
    all_goals first | rfl | (refine scS ?_; first | exact fmtT_var (by omega) | exact fmtT_con (by omega) | exact fmtT_no (by omega) (by omega))
  ·
    have h1' := of_decide_eq_false h1
    refine t_skip ?_
    refine t_seq ?_
    refine t_seq ?_
    refine t_region ?_
    refine r_op (o_move rfl rfl) ?_
    refine r_op (o_call 0 0 false (Go.Proofs.enters_of Tryd.func30 (by kernel_rfl) rfl) (c_spec_l1In (t) (0) (4)) rfl (.cons rfl (.c .t0) (.cons rfl (.c .t0) (.cons rfl (.c .t0) .nil))) rfl rfl rfl) ?_
    refine r_op (o_not rfl rfl) ?_
    refine r_end ?_
    refine t_cond rfl (fun h2 => ?_) (fun h2 => ?_)
    ·
      have h2' := of_decide_eq_false (bnt h2)
      refine t_seq ?_
      refine t_region ?_
      refine r_op (o_assign rfl rfl) ?_
      refine r_end ?_
      refine t_ret Tryd.func8 (.tmp rfl .nil) rfl fun E S w u hI hd => ?_
      refine post_mk hI hd ?_ trivial rfl rfl rfl <;> clear hI hd
      all_goals first | rfl | (refine scS ?_; first | exact fmtT_var (by omega) | exact fmtT_con (by omega) | exact fmtT_no (by omega) (by omega))
    ·
      have h2' := of_decide_eq_true (bnf h2)
      refine t_skip ?_
      refine t_seq ?_
      refine t_region ?_
      refine r_op (o_move rfl rfl) ?_
      refine r_op (o_move rfl rfl) ?_
      refine r_op (o_bin rfl rfl rfl rfl) ?_
      refine r_op (o_subS rfl Tryd.underlying9 rfl rfl rfl (by first | omega | (rw [wr64 (by omega) (by omega)]; omega) | (rw [wr64 (by omega) (by omega)]; simp; omega) | (constructor <;> (rw [wr64 (by omega) (by omega)]; omega))) (by first | omega | (rw [wr64 (by omega) (by omega)]; omega) | (rw [wr64 (by omega) (by omega)]; simp; omega) | (constructor <;> (rw [wr64 (by omega) (by omega)]; omega))) (by first | omega | (rw [wr64 (by omega) (by omega)]; omega) | (rw [wr64 (by omega) (by omega)]; simp; omega) | (constructor <;> (rw [wr64 (by omega) (by omega)]; omega)))) ?_
      refine r_op (o_assign rfl rfl) ?_
      refine r_end ?_
      refine t_ret Tryd.func8 (.tmp rfl .nil) rfl fun E S w u hI hd => ?_
      refine post_mk hI hd ?_ trivial rfl rfl rfl <;> clear hI hd
      all_goals first | rfl | (refine scS ?_; first | exact fmtT_var (by omega) | exact fmtT_con (by omega) | exact fmtT_no (by omega) (by omega))
set_option maxHeartbeats 1000000 in
set_option maxRecDepth 10000 in
theorem c_impl_within (a0 a1 a2 : Int) : Pu Tryd.prog 32 [.c (.t none (.v (.int .i64 (a0)))), .c (.t none (.v (.int .i64 (a1)))), .c (.t none (.v (.int .i64 (a2))))] [] 0 (.c (.t none (.v (.bool (decide (a1 ≤ a0 ∧ a0 ≤ a2)))))) := by
  refine pu_enter Tryd.func32 rfl (Nat.le_of_ble_eq_true rfl) fun w S => ?_
  refine t_seq ?_
  refine t_region ?_
  refine r_op (o_assign rfl rfl) ?_
  refine r_end ?_
  refine t_seq ?_
  refine t_region ?_
  refine r_op (o_move rfl rfl) ?_
  refine r_op (o_move rfl rfl) ?_
  refine r_op (o_bin rfl rfl rfl rfl) ?_
  refine r_op (o_move rfl rfl) ?_
  refine r_guard rfl rfl rfl (fun g1 => ?_) (fun g1 => ?_)
  ·
    have g1' := of_decide_eq_true g1
    refine r_op (o_move rfl rfl) ?_
    refine r_guard rfl rfl rfl (fun _ => ?_) (nc g1)
    refine r_op (o_move rfl rfl) ?_
    refine r_guard rfl rfl rfl (fun _ => ?_) (nc g1)
    refine r_op (o_bin rfl rfl rfl rfl) ?_
    refine r_op (o_pickT rfl rfl g1 rfl) ?_
    refine r_op (o_assign rfl rfl) ?_
    refine r_end ?_
    refine t_ret Tryd.func32 (.tmp rfl .nil) rfl fun E S w u hI hd => ?_
    refine post_mk hI hd ?_ trivial rfl rfl rfl <;> clear hI hd
    all_goals first | rfl | (simp_all <;> omega)
  ·
    have g1' := of_decide_eq_false g1
    refine r_guard rfl rfl rfl (ncf g1) (fun _ => ?_)
    refine r_guard rfl rfl rfl (ncf g1) (fun _ => ?_)
    refine r_op (o_pickF rfl rfl g1 rfl) ?_
    refine r_op (o_assign rfl rfl) ?_
    refine r_end ?_
    refine t_ret Tryd.func32 (.tmp rfl .nil) rfl fun E S w u hI hd => ?_
    refine post_mk hI hd ?_ trivial rfl rfl rfl <;> clear hI hd
    all_goals first | rfl | (simp_all <;> omega)
def Tryd.laysI_ren : Go.Shelf.Ren := ⟨fun | 171 => 54 | 243 => 72 | 246 => 84 | 283 => 89 | 284 => 90 | 285 => 91 | 286 => 92 | 129 => 103 | 317 => 104 | 318 => 105 | 319 => 106 | 320 => 107 | 337 => 114 | 338 => 115 | n => n, fun | 3 => 3 | 9 => 9 | 2 => 2 | 4 => 4 | 171 => 111 | 0 => 0 | 53 => 112 | 37 => 79 | 5 => 5 | 173 => 115 | 212 => 129 | 51 => 126 | 20 => 20 | 213 => 130 | 46 => 110 | 232 => 140 | 233 => 141 | n => n, fun | 17 => 1 | 18 => 2 | 19 => 3 | n => n⟩
theorem Tryd.laysI : Go.Proofs.Lays.n171 Tryd.prog Tryd.laysI_ren := {
 mixed := by kernel_rfl
 f129 := Tryd.func103.trans (congrArg some (by kernel_rfl))
 f171 := Tryd.func54.trans (congrArg some (by kernel_rfl))
 f243 := Tryd.func72.trans (congrArg some (by kernel_rfl))
 f246 := Tryd.func84.trans (congrArg some (by kernel_rfl))
 f283 := Tryd.func89.trans (congrArg some (by kernel_rfl))
 f284 := Tryd.func90.trans (congrArg some (by kernel_rfl))
 f285 := Tryd.func91.trans (congrArg some (by kernel_rfl))
 f286 := Tryd.func92.trans (congrArg some (by kernel_rfl))
 f317 := Tryd.func104.trans (congrArg some (by kernel_rfl))
 f318 := Tryd.func105.trans (congrArg some (by kernel_rfl))
 f319 := Tryd.func106.trans (congrArg some (by kernel_rfl))
 f320 := Tryd.func107.trans (congrArg some (by kernel_rfl))
 f337 := Tryd.func114.trans (congrArg some (by kernel_rfl))
 f338 := Tryd.func115.trans (congrArg some (by kernel_rfl))
 t0 := Tryd.underlying0
 a0 := Tryd.isAgg0
 z0 := Tryd.sizeOf0
 v0 := Tryd.zeroValue0
 t2 := Tryd.underlying2
 a2 := Tryd.isAgg2
 z2 := Tryd.sizeOf2
 v2 := Tryd.zeroValue2
 t3 := Tryd.underlying3
 a3 := Tryd.isAgg3
 z3 := Tryd.sizeOf3
 v3 := Tryd.zeroValue3
 t4 := Tryd.underlying4
 a4 := Tryd.isAgg4
 z4 := Tryd.sizeOf4
 v4 := Tryd.zeroValue4
 t5 := Tryd.underlying5
 a5 := Tryd.isAgg5
 z5 := Tryd.sizeOf5
 v5 := Tryd.zeroValue5
 t9 := Tryd.underlying9
 a9 := Tryd.isAgg9
 z9 := Tryd.sizeOf9
 v9 := Tryd.zeroValue9
 t20 := Tryd.underlying20
 a20 := Tryd.isAgg20
 z20 := Tryd.sizeOf20
 v20 := Tryd.zeroValue20
 t37 := Tryd.underlying79
 a37 := Tryd.isAgg79
 z37 := Tryd.sizeOf79
 v37 := Tryd.zeroValue79
 t46 := Tryd.underlying110
 a46 := Tryd.isAgg110
 z46 := Tryd.sizeOf110
 v46 := Tryd.zeroValue110
 t51 := Tryd.underlying126
 a51 := Tryd.isAgg126
 z51 := Tryd.sizeOf126
 v51 := Tryd.zeroValue126
 t53 := Tryd.underlying112
 a53 := Tryd.isAgg112
 z53 := Tryd.sizeOf112
 v53 := Tryd.zeroValue112
 t171 := Tryd.underlying111
 a171 := Tryd.isAgg111
 z171 := Tryd.sizeOf111
 v171 := Tryd.zeroValue111
 t173 := Tryd.underlying115
 a173 := Tryd.isAgg115
 z173 := Tryd.sizeOf115
 v173 := Tryd.zeroValue115
 t212 := Tryd.underlying129
 a212 := Tryd.isAgg129
 z212 := Tryd.sizeOf129
 v212 := Tryd.zeroValue129
 t213 := Tryd.underlying130
 a213 := Tryd.isAgg130
 z213 := Tryd.sizeOf130
 t232 := Tryd.underlying140
 a232 := Tryd.isAgg140
 z232 := Tryd.sizeOf140
 v232 := Tryd.zeroValue140
 t233 := Tryd.underlying141
 a233 := Tryd.isAgg141
 z233 := Tryd.sizeOf141
 v233 := Tryd.zeroValue141
 g17 := by kernel_rfl
 g18 := by kernel_rfl
 g19 := by kernel_rfl }
set_option maxHeartbeats 1000000 in
set_option maxRecDepth 10000 in
theorem c_strconv_Itoa (i : Int) (hi : 0 ≤ i ∧ i < 100) : Pu Tryd.prog 54 [.c (.t none (.v (.int .i64 (i))))] [] 0 (.c (.t none (.v (.string (mkS (fmtN i)))))) := by
  exact (fmtN_dec (n := i) hi.1) ▸ itoa_pu Tryd.laysI i hi
set_option maxHeartbeats 1000000 in
set_option maxRecDepth 10000 in
theorem c_impl_FormatInt (i : Int) (hi : 0 ≤ i ∧ i < 100) : Pu Tryd.prog 33 [.c (.t none (.v (.int .i64 (i))))] [] 0 (.c (.t none (.v (.string (mkS (fmtN i)))))) := by
  refine pu_enter Tryd.func33 rfl (Nat.le_of_ble_eq_true rfl) fun w S => ?_
  refine t_seq ?_
  refine t_region ?_
  refine r_op (o_assign rfl rfl) ?_
  refine r_end ?_
  refine t_seq ?_
  refine t_region ?_
  refine r_op (o_move rfl rfl) ?_
  refine r_op (o_call 0 0 false (Go.Proofs.enters_of Tryd.func54 (by kernel_rfl) rfl) (c_strconv_Itoa (i) (by first | omega | assumption)) rfl (.cons rfl (.c .t0) .nil) rfl rfl rfl) ?_
  refine r_op (o_assign rfl rfl) ?_
  refine r_end ?_
  refine t_ret Tryd.func33 (.tmp rfl .nil) rfl fun E S w u hI hd => ?_
  refine post_mk hI hd ?_ trivial rfl rfl rfl <;> clear hI hd
  all_goals first | rfl | (simp_all <;> omega)
set_option maxHeartbeats 1000000 in
set_option maxRecDepth 10000 in
theorem c_impl_FormatTerm (t : Int) (ht : okI t) : Pu Tryd.prog 9 [.c (.t none (.v (.int .i64 (t))))] [] 0 (.c (.t none (.v (.string (mkS (fmtT t)))))) := by
  refine pu_enter Tryd.func9 rfl (Nat.le_of_ble_eq_true rfl) fun w S => ?_
  have h1 := ht.1; have h2 := ht.2
  refine t_seq ?_
  refine t_region ?_
  refine r_op (o_assign rfl rfl) ?_
  refine r_end ?_
  refine t_seq ?_
  refine t_block ?_
  refine t_seq ?_
  refine t_region ?_
  refine r_op (o_move rfl rfl) ?_
  refine r_op (o_call 0 0 false (Go.Proofs.enters_of Tryd.func32 (by kernel_rfl) rfl) (c_impl_within (t) (0) (4)) rfl (.cons rfl (.c .t0) (.cons rfl (.c .t0) (.cons rfl (.c .t0) .nil))) rfl rfl rfl) ?_
  refine r_op (o_assign rfl rfl) ?_
  refine r_end ?_
  refine t_cond rfl (fun h1 => ?_) (fun h1 => ?_)
  ·
    have h1' := of_decide_eq_true h1
    refine t_seq ?_
    refine t_region ?_
    refine r_op (o_move rfl rfl) ?_
    refine r_op (o_move rfl rfl) ?_
    refine r_op (o_bin rfl rfl rfl rfl) ?_
    refine r_op (o_subS rfl Tryd.underlying9 rfl rfl rfl (by first | omega | (rw [wr64 (by omega) (by omega)]; omega) | (rw [wr64 (by omega) (by omega)]; simp; omega) | (constructor <;> (rw [wr64 (by omega) (by omega)]; omega))) (by first | omega | (rw [wr64 (by omega) (by omega)]; omega) | (rw [wr64 (by omega) (by omega)]; simp; omega) | (constructor <;> (rw [wr64 (by omega) (by omega)]; omega))) (by first | omega | (rw [wr64 (by omega) (by omega)]; omega) | (rw [wr64 (by omega) (by omega)]; simp; omega) | (constructor <;> (rw [wr64 (by omega) (by omega)]; omega)))) ?_
    refine r_op (o_assign rfl rfl) ?_
    refine r_end ?_
    refine t_ret Tryd.func9 (.tmp rfl .nil) rfl fun E S w u hI hd => ?_
    refine post_mk hI hd ?_ trivial rfl rfl rfl <;> clear hI hd
    all_goals first | rfl | (refine scS ?_; first | exact fmtT_var (by omega) | exact fmtT_con (by omega) | exact fmtT_no (by omega) (by omega))
  ·
    have h1' := of_decide_eq_false h1
    refine t_seq ?_
    refine t_region ?_
    refine r_op (o_move rfl rfl) ?_
    refine r_op (o_call 0 0 false (Go.Proofs.enters_of Tryd.func32 (by kernel_rfl) rfl) (c_impl_within (t) (-10) (-1)) rfl (.cons rfl (.c .t0) (.cons rfl (.c .t0) (.cons rfl (.c .t0) .nil))) rfl rfl rfl) ?_
    refine r_op (o_assign rfl rfl) ?_
    refine r_end ?_
    refine t_cond rfl (fun h2 => ?_) (fun h2 => ?_)
    ·
      have h2' := of_decide_eq_true h2
      refine t_seq ?_
      refine t_region ?_
      refine r_op (o_move rfl rfl) ?_
      refine r_op (o_bin rfl rfl rfl rfl) ?_
      refine r_op (o_call 0 0 false (Go.Proofs.enters_of Tryd.func33 (by kernel_rfl) rfl) (c_impl_FormatInt (IntKind.i64.wrap ((-1) - t)) (by first | omega | (rw [wr64 (by omega) (by omega)]; omega) | (rw [wr64 (by omega) (by omega)]; simp; omega) | (constructor <;> (rw [wr64 (by omega) (by omega)]; omega)))) rfl (.cons rfl (.c .t0) .nil) rfl rfl rfl) ?_
      refine r_op (o_assign rfl rfl) ?_
      refine r_end ?_
      refine t_ret Tryd.func9 (.tmp rfl .nil) rfl fun E S w u hI hd => ?_
      refine post_mk hI hd ?_ trivial rfl rfl rfl <;> clear hI hd
      all_goals first | rfl | (refine scS ?_; first | exact fmtT_var (by omega) | exact fmtT_con (by omega) | exact fmtT_no (by omega) (by omega))
    ·
      have h2' := of_decide_eq_false h2
      refine t_skip ?_
      refine t_endblock ?_
      refine t_seq ?_
      refine t_region ?_
      refine r_op (o_assign rfl rfl) ?_
      refine r_end ?_
      refine t_ret Tryd.func9 (.tmp rfl .nil) rfl fun E S w u hI hd => ?_
      refine post_mk hI hd ?_ trivial rfl rfl rfl <;> clear hI hd
      all_goals first | rfl | (refine scS ?_; first | exact fmtT_var (by omega) | exact fmtT_con (by omega) | exact fmtT_no (by omega) (by omega))
set_option maxHeartbeats 1000000 in
set_option maxRecDepth 10000 in
theorem c_laws_FnExactFormatTerm (t : Int) (ht : okI t) : Pu Tryd.prog 3 [.c (.t none (.v (.int .i64 (t))))] [] 0 (.c (.t none (.v (.bool (true))))) := by
  refine pu_enter Tryd.func3 rfl (Nat.le_of_ble_eq_true rfl) fun w S => ?_
  refine t_seq ?_
  refine t_region ?_
  refine r_op (o_assign rfl rfl) ?_
  refine r_end ?_
  refine t_seq ?_
  refine t_region ?_
  refine r_op (o_move rfl rfl) ?_
  refine r_op (o_call 0 0 false (Go.Proofs.enters_of Tryd.func8 (by kernel_rfl) rfl) (c_spec_FormatTerm (t) (by first | omega | assumption)) rfl (.cons rfl (.c .t0) .nil) rfl rfl rfl) ?_
  refine r_op (o_assign rfl rfl) ?_
  refine r_end ?_
  refine t_seq ?_
  refine t_region ?_
  refine r_op (o_move rfl rfl) ?_
  refine r_op (o_call 0 0 false (Go.Proofs.enters_of Tryd.func9 (by kernel_rfl) rfl) (c_impl_FormatTerm (t) (by first | omega | assumption)) rfl (.cons rfl (.c .t0) .nil) rfl rfl rfl) ?_
  refine r_op (o_assign rfl rfl) ?_
  refine r_end ?_
  refine t_seq ?_
  refine t_seq ?_
  refine t_region ?_
  refine r_op (o_move rfl rfl) ?_
  refine r_op (o_move rfl rfl) ?_
  refine r_op (o_str rfl rfl rfl rfl) ?_
  refine r_end ?_
  refine t_cond rfl (fun h1 => ?_) (fun h1 => ?_)
  ·
    have h1' := of_decide_eq_true h1
    refine t_seq ?_
    refine t_region ?_
    refine r_op (o_assign rfl rfl) ?_
    refine r_end ?_
    refine t_ret Tryd.func3 (.tmp rfl .nil) rfl fun E S w u hI hd => ?_
    refine post_mk hI hd ?_ trivial rfl rfl rfl <;> clear hI hd
    all_goals first | rfl | (exfalso; simp at *; done)
  ·
    have h1' := of_decide_eq_false h1
    refine t_skip ?_
    refine t_seq ?_
    refine t_region ?_
    refine r_op (o_assign rfl rfl) ?_
    refine r_end ?_
    refine t_ret Tryd.func3 (.tmp rfl .nil) rfl fun E S w u hI hd => ?_
    refine post_mk hI hd ?_ trivial rfl rfl rfl <;> clear hI hd
    all_goals first | rfl | (exfalso; simp at *; done)
end Go.Eng
