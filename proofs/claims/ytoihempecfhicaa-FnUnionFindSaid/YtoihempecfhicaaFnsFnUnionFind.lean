/- What the functions that FnUnionFind reaches answer. -/
import Derived.Test.YtoihempecfhicaaFnsFnUnionFindp1
import Derived.Test.YtoihempecfhicaaEngT
import Derived.Test.YtoihempecfhicaaChecked
set_option linter.unusedVariables false
set_option linter.unusedSimpArgs false
namespace Go.Eng
open Go Go.RowKit Go.Proofs
set_option maxHeartbeats 1000000 in
set_option maxRecDepth 10000 in
theorem c_spec_IsValidSubstitution (ns vs : List Int) (hn : ns.length ≤ 4611686018427387904) (hv : vs.length ≤ 4611686018427387904) (on : ∀ x ∈ ns, okI x) (ov : ∀ x ∈ vs, okI x) : Pu Try.prog 21 [.agg [.t none (.sl 1 encI (ns)), .t none (.sl 1 encI (vs))]] [] 0 (.c (.t none (.v (.bool (subOk ns vs))))) := by
  refine pu_enter Try.func21 rfl (Nat.le_of_ble_eq_true rfl) fun w S => ?_
  refine t_seq ?_
  refine t_region ?_
  refine r_op (o_box 0 rfl rfl rfl rfl) ?_
  refine r_op (o_assign rfl rfl) ?_
  refine r_end ?_
  refine t_seq ?_
  refine t_seq ?_
  refine t_region ?_
  refine r_op (o_fieldb rfl (off := 0) (by kernel_rfl) rfl) ?_
  refine r_op (o_load1b rfl (by kernel_rfl) rfl rfl rfl) ?_
  refine r_op (o_len rfl rfl rfl) ?_
  refine r_op (o_fieldb rfl (off := 1) (by kernel_rfl) rfl) ?_
  refine r_op (o_load1b rfl (by kernel_rfl) rfl rfl rfl) ?_
  refine r_op (o_len rfl rfl rfl) ?_
  refine r_op (o_bin rfl rfl rfl rfl) ?_
  refine r_end ?_
  refine t_cond rfl (fun h1 => ?_) (fun h1 => ?_)
  ·
    have h1' := of_decide_eq_true h1
    refine t_seq ?_
    refine t_region ?_
    refine r_op (o_assign rfl rfl) ?_
    refine r_end ?_
    refine t_ret Try.func21 (.tmp rfl .nil) rfl fun E S w u hI hd => ?_
    refine post_mk hI hd ?_ trivial rfl rfl rfl <;> clear hI hd <;> (try clear ih0)
    all_goals first | rfl | (refine scB ?_; first | (rw [subOk_len (by omega)]; done) | (rw [subOk_not (m := m) (by omega) (by first | exact subStep_k (by assumption) (by omega) | exact subStep_p (m := m) (by assumption) (by omega) (by assumption) (by (try simp only [IntKind.wrap_i64]); omega) (by omega) | exact subStep_v (by assumption) (by omega))]; done) | (rw [subOk_end i2 i3 (by omega)]; done))
  ·
    have h1' := of_decide_eq_false h1
    refine t_skip ?_
    refine t_seq ?_
    refine t_seq ?_
    refine t_region ?_
    refine r_op (o_assign rfl rfl) ?_
    refine r_end ?_
    refine t_block ?_
    refine t_loopL (fun m => ⟨[(1, some (.c (.ptr 0 0))), (3, some (.c (.t none (.v (.int .i64 ((m : Int)))))))], [(0, some (.box [.t none (.sl 1 encI (ns)), .t none (.sl 1 encI (vs))]))], 1⟩ : Nat → St) (fun m => m ≤ ns.length ∧ ns.length = vs.length ∧ ∀ j, j < m → subStep ns vs j = true) (fun m => ns.length - m) 0 ⟨⟨rfl, ⟨rfl, trivial⟩⟩, ⟨rfl, trivial⟩, rfl⟩ (by exact ⟨Nat.zero_le _, by omega, fun j h => by omega⟩) ?_
    rintro m hI ih0
    try dsimp only at hI ih0
    obtain ⟨i1, i2, i3⟩ := hI
    refine t_seq ?_
    refine t_seq ?_
    refine t_region ?_
    refine r_op (o_move rfl rfl) ?_
    refine r_op (o_fieldb rfl (off := 0) (by kernel_rfl) rfl) ?_
    refine r_op (o_load1b rfl (by kernel_rfl) rfl rfl rfl) ?_
    refine r_op (o_len rfl rfl rfl) ?_
    refine r_op (o_bin rfl rfl rfl rfl) ?_
    refine r_end ?_
    refine t_cond rfl (fun h2 => ?_) (fun h2 => ?_)
    ·
      have h2' := of_decide_eq_true h2
      refine t_skip ?_
      refine t_seq ?_
      refine t_block ?_
      refine t_seq ?_
      refine t_draw (fun _ => true) (by kernel_rfl) ?_
      refine d_take 0 rfl rfl (by kernel_rfl) (by kernel_rfl) (by kernel_rfl) (p_fieldb (off := 0) (by kernel_rfl) rfl) ?_
      refine d_take 1 rfl rfl (by kernel_rfl) (by kernel_rfl) (by kernel_rfl) (p_load1b (by kernel_rfl) rfl rfl rfl) ?_
      refine d_take 2 rfl rfl (by kernel_rfl) (by kernel_rfl) (by kernel_rfl) (p_move rfl) ?_
      obtain ⟨z3, hz4, b5⟩ := at_get (xs := ns) (n := (m : Int)) (by first | omega | assumption | (simp only [IntKind.wrap_i64] at *; omega) | exact (ov _ (List.mem_of_getElem? (by assumption))).1 | exact (ov _ (List.mem_of_getElem? (by assumption))).2) (by first | omega | assumption | (simp only [IntKind.wrap_i64] at *; omega) | exact (ov _ (List.mem_of_getElem? (by assumption))).1 | exact (ov _ (List.mem_of_getElem? (by assumption))).2)
      refine d_take 3 rfl rfl (by kernel_rfl) (by kernel_rfl) (by kernel_rfl) (p_index (by kernel_rfl) rfl rfl b5 hz4) ?_
      refine d_take 4 rfl rfl (by kernel_rfl) (by kernel_rfl) (by kernel_rfl) (p_load1 (by kernel_rfl) rfl rfl) ?_
      refine d_only 5 rfl (by kernel_rfl) rfl (o_call 1 1 false (Go.Proofs.enters_of Try.func31 (by kernel_rfl) rfl) (c_spec_l1In (z3) (0) (39)) rfl (.cons rfl (.c .t0) (.cons rfl (.c .t0) (.cons rfl (.c .t0) .nil))) rfl rfl rfl) ?_
      refine d_take 6 rfl rfl (by kernel_rfl) (by kernel_rfl) (by kernel_rfl) (p_not rfl) ?_
      refine d_take 7 rfl rfl (by kernel_rfl) (by kernel_rfl) (by kernel_rfl) (p_move rfl) ?_
      refine d_guard 8 rfl rfl (by kernel_rfl) (by kernel_rfl) (by kernel_rfl) rfl rfl (fun _ => p_move rfl) (fun g6 => ?_) (fun g6 => ?_)
      ·
        have g6' := of_decide_eq_true (bnf g6)
        refine d_guard 9 rfl rfl (by kernel_rfl) (by kernel_rfl) (by kernel_rfl) rfl rfl (fun _ => p_bin rfl rfl rfl) (fun _ => ?_) (ncf g6)
        refine d_guard 10 rfl rfl (by kernel_rfl) (by kernel_rfl) (by kernel_rfl) rfl rfl (fun _ => p_move rfl) (fun _ => ?_) (ncf g6)
        refine d_guard 11 rfl rfl (by kernel_rfl) (by kernel_rfl) (by kernel_rfl) rfl rfl (fun _ => p_fieldb (off := 0) (by kernel_rfl) rfl) (fun g7 => ?_) (fun g7 => ?_)
        ·
          have g7' := of_decide_eq_true g7
          refine d_guard 12 rfl rfl (by kernel_rfl) (by kernel_rfl) (by kernel_rfl) rfl rfl (fun _ => p_load1b (by kernel_rfl) rfl rfl rfl) (fun _ => ?_) (nc g7)
          refine d_guard 13 rfl rfl (by kernel_rfl) (by kernel_rfl) (by kernel_rfl) rfl rfl (fun _ => p_move rfl) (fun _ => ?_) (nc g7)
          refine d_guard 14 rfl rfl (by kernel_rfl) (by kernel_rfl) (by kernel_rfl) rfl rfl (fun _ => p_index (by kernel_rfl) rfl rfl b5 hz4) (fun _ => ?_) (nc g7)
          refine d_guard 15 rfl rfl (by kernel_rfl) (by kernel_rfl) (by kernel_rfl) rfl rfl (fun _ => p_load1 (by kernel_rfl) rfl rfl) (fun _ => ?_) (nc g7)
          refine d_guard 16 rfl rfl (by kernel_rfl) (by kernel_rfl) (by kernel_rfl) rfl rfl (fun _ => p_fieldb (off := 0) (by kernel_rfl) rfl) (fun _ => ?_) (nc g7)
          refine d_guard 17 rfl rfl (by kernel_rfl) (by kernel_rfl) (by kernel_rfl) rfl rfl (fun _ => p_load1b (by kernel_rfl) rfl rfl rfl) (fun _ => ?_) (nc g7)
          refine d_guard 18 rfl rfl (by kernel_rfl) (by kernel_rfl) (by kernel_rfl) rfl rfl (fun _ => p_move rfl) (fun _ => ?_) (nc g7)
          refine d_guard 19 rfl rfl (by kernel_rfl) (by kernel_rfl) (by kernel_rfl) rfl rfl (fun _ => p_bin rfl rfl rfl) (fun _ => ?_) (nc g7)
          obtain ⟨z8, hz9, b10⟩ := at_get (xs := ns) (n := IntKind.i64.wrap ((m : Int) - 1)) (by first | omega | assumption | (simp only [IntKind.wrap_i64] at *; omega) | exact (ov _ (List.mem_of_getElem? (by assumption))).1 | exact (ov _ (List.mem_of_getElem? (by assumption))).2) (by first | omega | assumption | (simp only [IntKind.wrap_i64] at *; omega) | exact (ov _ (List.mem_of_getElem? (by assumption))).1 | exact (ov _ (List.mem_of_getElem? (by assumption))).2)
          refine d_guard 20 rfl rfl (by kernel_rfl) (by kernel_rfl) (by kernel_rfl) rfl rfl (fun _ => p_index (by kernel_rfl) rfl rfl b10 hz9) (fun _ => ?_) (nc g7)
          refine d_guard 21 rfl rfl (by kernel_rfl) (by kernel_rfl) (by kernel_rfl) rfl rfl (fun _ => p_load1 (by kernel_rfl) rfl rfl) (fun _ => ?_) (nc g7)
          refine d_guard 22 rfl rfl (by kernel_rfl) (by kernel_rfl) (by kernel_rfl) rfl rfl (fun _ => p_bin rfl rfl rfl) (fun _ => ?_) (nc g7)
          refine d_guard 23 rfl rfl (by kernel_rfl) (by kernel_rfl) (by kernel_rfl) rfl rfl (fun _ => p_pickT rfl g7 rfl) (fun _ => ?_) (ncf g6)
          refine d_take 24 rfl rfl (by kernel_rfl) (by kernel_rfl) (by kernel_rfl) (p_pickF rfl g6 rfl) ?_
          refine d_take 25 rfl rfl (by kernel_rfl) (by kernel_rfl) (by kernel_rfl) (p_move rfl) ?_
          refine d_guard 26 rfl rfl (by kernel_rfl) (by kernel_rfl) (by kernel_rfl) rfl rfl (fun _ => p_fieldb (off := 1) (by kernel_rfl) rfl) (fun g11 => ?_) (fun g11 => ?_)
          ·
            have g11' := of_decide_eq_false g11
            refine d_guard 27 rfl rfl (by kernel_rfl) (by kernel_rfl) (by kernel_rfl) rfl rfl (fun _ => p_load1b (by kernel_rfl) rfl rfl rfl) (fun _ => ?_) (ncf g11)
            refine d_guard 28 rfl rfl (by kernel_rfl) (by kernel_rfl) (by kernel_rfl) rfl rfl (fun _ => p_move rfl) (fun _ => ?_) (ncf g11)
            obtain ⟨z12, hz13, b14⟩ := at_get (xs := vs) (n := (m : Int)) (by first | omega | assumption | (simp only [IntKind.wrap_i64] at *; omega) | exact (ov _ (List.mem_of_getElem? (by assumption))).1 | exact (ov _ (List.mem_of_getElem? (by assumption))).2) (by first | omega | assumption | (simp only [IntKind.wrap_i64] at *; omega) | exact (ov _ (List.mem_of_getElem? (by assumption))).1 | exact (ov _ (List.mem_of_getElem? (by assumption))).2)
            refine d_guard 29 rfl rfl (by kernel_rfl) (by kernel_rfl) (by kernel_rfl) rfl rfl (fun _ => p_index (by kernel_rfl) rfl rfl b14 hz13) (fun _ => ?_) (ncf g11)
            refine d_guard 30 rfl rfl (by kernel_rfl) (by kernel_rfl) (by kernel_rfl) rfl rfl (fun _ => p_load1 (by kernel_rfl) rfl rfl) (fun _ => ?_) (ncf g11)
            refine d_onlyG 31 rfl rfl (by kernel_rfl) rfl rfl rfl (fun _ => (o_call 1 1 false (Go.Proofs.enters_of Try.func36 (by kernel_rfl) rfl) (c_spec_IsValidValue (z12) (by first | omega | assumption | (simp only [IntKind.wrap_i64] at *; omega) | exact (ov _ (List.mem_of_getElem? (by assumption))).1 | exact (ov _ (List.mem_of_getElem? (by assumption))).2) (by first | omega | assumption | (simp only [IntKind.wrap_i64] at *; omega) | exact (ov _ (List.mem_of_getElem? (by assumption))).1 | exact (ov _ (List.mem_of_getElem? (by assumption))).2)) rfl (.cons rfl (.c .t0) .nil) rfl rfl rfl)) (fun _ => ?_) (ncf g11)
            refine d_guard 32 rfl rfl (by kernel_rfl) (by kernel_rfl) (by kernel_rfl) rfl rfl (fun _ => p_not rfl) (fun _ => ?_) (ncf g11)
            refine d_take 33 rfl rfl (by kernel_rfl) (by kernel_rfl) (by kernel_rfl) (p_pickF rfl g11 rfl) ?_
            refine d_end (by kernel_rfl) ?_
            refine t_cond rfl (fun h15 => ?_) (fun h15 => ?_)
            ·
              have h15' := of_decide_eq_false (bnt h15)
              refine t_seq ?_
              refine t_region ?_
              refine r_op (o_assign rfl rfl) ?_
              refine r_end ?_
              refine t_ret Try.func21 (.tmp rfl .nil) rfl fun E S w u hI hd => ?_
              refine post_mk hI hd ?_ trivial rfl rfl rfl <;> clear hI hd <;> (try clear ih0)
              all_goals first | rfl | (refine scB ?_; first | (rw [subOk_len (by omega)]; done) | (rw [subOk_not (m := m) (by omega) (by first | exact subStep_k (by assumption) (by omega) | exact subStep_p (m := m) (by assumption) (by omega) (by assumption) (by (try simp only [IntKind.wrap_i64]); omega) (by omega) | exact subStep_v (by assumption) (by omega))]; done) | (rw [subOk_end i2 i3 (by omega)]; done))
            ·
              have h15' := of_decide_eq_true (bnf h15)
              refine t_skip ?_
              refine t_endblock ?_
              refine t_region ?_
              refine r_op (o_move rfl rfl) ?_
              refine r_op (o_bin rfl rfl rfl rfl) ?_
              refine r_op (o_assign rfl rfl) ?_
              refine r_end ?_
              refine t_le ?_ (ih0 (m + 1) (by (try dsimp only); omega) (by (try dsimp only); exact ⟨by omega, i2, step_all i3 (by first | (rw [subStep_0 (m := m) (by assumption) (by assumption) (by omega), decide_eq_true (by omega), decide_eq_true (by omega)]; rfl) | (rw [subStep_n (m := m) (by assumption) (by assumption) (by omega) (by assumption) (by (try simp only [IntKind.wrap_i64]); omega), decide_eq_true (by omega), decide_eq_true (by omega), decide_eq_true (by omega)]; rfl))⟩))
              exact ⟨⟨rfl, ⟨(eqI (wr64 (by omega) (by omega))), trivial⟩⟩, ⟨rfl, trivial⟩, rfl⟩
          ·
            have g11' := of_decide_eq_true g11
            refine d_guard 27 rfl rfl (by kernel_rfl) (by kernel_rfl) (by kernel_rfl) rfl rfl (v := .c .top) (nc g11) (nc g11) (fun _ => ?_)
            refine d_guard 28 rfl rfl (by kernel_rfl) (by kernel_rfl) (by kernel_rfl) rfl rfl (v := .c .top) (nc g11) (nc g11) (fun _ => ?_)
            refine d_guard 29 rfl rfl (by kernel_rfl) (by kernel_rfl) (by kernel_rfl) rfl rfl (v := .c .top) (nc g11) (nc g11) (fun _ => ?_)
            refine d_guard 30 rfl rfl (by kernel_rfl) (by kernel_rfl) (by kernel_rfl) rfl rfl (v := .c .top) (nc g11) (nc g11) (fun _ => ?_)
            refine d_guard 31 rfl rfl (by kernel_rfl) (by kernel_rfl) (by kernel_rfl) rfl rfl (v := .c .top) (nc g11) (nc g11) (fun _ => ?_)
            refine d_guard 32 rfl rfl (by kernel_rfl) (by kernel_rfl) (by kernel_rfl) rfl rfl (v := .c .top) (nc g11) (nc g11) (fun _ => ?_)
            refine d_take 33 rfl rfl (by kernel_rfl) (by kernel_rfl) (by kernel_rfl) (p_pickT rfl g11 rfl) ?_
            refine d_end (by kernel_rfl) ?_
            refine t_cond rfl (fun _ => ?_) (nc rfl)
            refine t_seq ?_
            refine t_region ?_
            refine r_op (o_assign rfl rfl) ?_
            refine r_end ?_
            refine t_ret Try.func21 (.tmp rfl .nil) rfl fun E S w u hI hd => ?_
            refine post_mk hI hd ?_ trivial rfl rfl rfl <;> clear hI hd <;> (try clear ih0)
            all_goals first | rfl | (refine scB ?_; first | (rw [subOk_len (by omega)]; done) | (rw [subOk_not (m := m) (by omega) (by first | exact subStep_k (by assumption) (by omega) | exact subStep_p (m := m) (by assumption) (by omega) (by assumption) (by (try simp only [IntKind.wrap_i64]); omega) (by omega) | exact subStep_v (by assumption) (by omega))]; done) | (rw [subOk_end i2 i3 (by omega)]; done))
        ·
          have g7' := of_decide_eq_false g7
          refine d_guard 12 rfl rfl (by kernel_rfl) (by kernel_rfl) (by kernel_rfl) rfl rfl (v := .c .top) (ncf g7) (ncf g7) (fun _ => ?_)
          refine d_guard 13 rfl rfl (by kernel_rfl) (by kernel_rfl) (by kernel_rfl) rfl rfl (v := .c .top) (ncf g7) (ncf g7) (fun _ => ?_)
          refine d_guard 14 rfl rfl (by kernel_rfl) (by kernel_rfl) (by kernel_rfl) rfl rfl (v := .c .top) (ncf g7) (ncf g7) (fun _ => ?_)
          refine d_guard 15 rfl rfl (by kernel_rfl) (by kernel_rfl) (by kernel_rfl) rfl rfl (v := .c .top) (ncf g7) (ncf g7) (fun _ => ?_)
          refine d_guard 16 rfl rfl (by kernel_rfl) (by kernel_rfl) (by kernel_rfl) rfl rfl (v := .c .top) (ncf g7) (ncf g7) (fun _ => ?_)
          refine d_guard 17 rfl rfl (by kernel_rfl) (by kernel_rfl) (by kernel_rfl) rfl rfl (v := .c .top) (ncf g7) (ncf g7) (fun _ => ?_)
          refine d_guard 18 rfl rfl (by kernel_rfl) (by kernel_rfl) (by kernel_rfl) rfl rfl (v := .c .top) (ncf g7) (ncf g7) (fun _ => ?_)
          refine d_guard 19 rfl rfl (by kernel_rfl) (by kernel_rfl) (by kernel_rfl) rfl rfl (v := .c .top) (ncf g7) (ncf g7) (fun _ => ?_)
          refine d_guard 20 rfl rfl (by kernel_rfl) (by kernel_rfl) (by kernel_rfl) rfl rfl (v := .c .top) (ncf g7) (ncf g7) (fun _ => ?_)
          refine d_guard 21 rfl rfl (by kernel_rfl) (by kernel_rfl) (by kernel_rfl) rfl rfl (v := .c .top) (ncf g7) (ncf g7) (fun _ => ?_)
          refine d_guard 22 rfl rfl (by kernel_rfl) (by kernel_rfl) (by kernel_rfl) rfl rfl (v := .c .top) (ncf g7) (ncf g7) (fun _ => ?_)
          refine d_guard 23 rfl rfl (by kernel_rfl) (by kernel_rfl) (by kernel_rfl) rfl rfl (fun _ => p_pickF rfl g7 rfl) (fun _ => ?_) (ncf g6)
          refine d_take 24 rfl rfl (by kernel_rfl) (by kernel_rfl) (by kernel_rfl) (p_pickF rfl g6 rfl) ?_
          refine d_take 25 rfl rfl (by kernel_rfl) (by kernel_rfl) (by kernel_rfl) (p_move rfl) ?_
          refine d_guard 26 rfl rfl (by kernel_rfl) (by kernel_rfl) (by kernel_rfl) rfl rfl (fun _ => p_fieldb (off := 1) (by kernel_rfl) rfl) (fun _ => ?_) (ncf rfl)
          refine d_guard 27 rfl rfl (by kernel_rfl) (by kernel_rfl) (by kernel_rfl) rfl rfl (fun _ => p_load1b (by kernel_rfl) rfl rfl rfl) (fun _ => ?_) (ncf rfl)
          refine d_guard 28 rfl rfl (by kernel_rfl) (by kernel_rfl) (by kernel_rfl) rfl rfl (fun _ => p_move rfl) (fun _ => ?_) (ncf rfl)
          obtain ⟨z16, hz17, b18⟩ := at_get (xs := vs) (n := (m : Int)) (by first | omega | assumption | (simp only [IntKind.wrap_i64] at *; omega) | exact (ov _ (List.mem_of_getElem? (by assumption))).1 | exact (ov _ (List.mem_of_getElem? (by assumption))).2) (by first | omega | assumption | (simp only [IntKind.wrap_i64] at *; omega) | exact (ov _ (List.mem_of_getElem? (by assumption))).1 | exact (ov _ (List.mem_of_getElem? (by assumption))).2)
          refine d_guard 29 rfl rfl (by kernel_rfl) (by kernel_rfl) (by kernel_rfl) rfl rfl (fun _ => p_index (by kernel_rfl) rfl rfl b18 hz17) (fun _ => ?_) (ncf rfl)
          refine d_guard 30 rfl rfl (by kernel_rfl) (by kernel_rfl) (by kernel_rfl) rfl rfl (fun _ => p_load1 (by kernel_rfl) rfl rfl) (fun _ => ?_) (ncf rfl)
          refine d_onlyG 31 rfl rfl (by kernel_rfl) rfl rfl rfl (fun _ => (o_call 1 1 false (Go.Proofs.enters_of Try.func36 (by kernel_rfl) rfl) (c_spec_IsValidValue (z16) (by first | omega | assumption | (simp only [IntKind.wrap_i64] at *; omega) | exact (ov _ (List.mem_of_getElem? (by assumption))).1 | exact (ov _ (List.mem_of_getElem? (by assumption))).2) (by first | omega | assumption | (simp only [IntKind.wrap_i64] at *; omega) | exact (ov _ (List.mem_of_getElem? (by assumption))).1 | exact (ov _ (List.mem_of_getElem? (by assumption))).2)) rfl (.cons rfl (.c .t0) .nil) rfl rfl rfl)) (fun _ => ?_) (ncf rfl)
          refine d_guard 32 rfl rfl (by kernel_rfl) (by kernel_rfl) (by kernel_rfl) rfl rfl (fun _ => p_not rfl) (fun _ => ?_) (ncf rfl)
          refine d_take 33 rfl rfl (by kernel_rfl) (by kernel_rfl) (by kernel_rfl) (p_pickF rfl rfl rfl) ?_
          refine d_end (by kernel_rfl) ?_
          refine t_cond rfl (fun h19 => ?_) (fun h19 => ?_)
          ·
            have h19' := of_decide_eq_false (bnt h19)
            refine t_seq ?_
            refine t_region ?_
            refine r_op (o_assign rfl rfl) ?_
            refine r_end ?_
            refine t_ret Try.func21 (.tmp rfl .nil) rfl fun E S w u hI hd => ?_
            refine post_mk hI hd ?_ trivial rfl rfl rfl <;> clear hI hd <;> (try clear ih0)
            all_goals first | rfl | (refine scB ?_; first | (rw [subOk_len (by omega)]; done) | (rw [subOk_not (m := m) (by omega) (by first | exact subStep_k (by assumption) (by omega) | exact subStep_p (m := m) (by assumption) (by omega) (by assumption) (by (try simp only [IntKind.wrap_i64]); omega) (by omega) | exact subStep_v (by assumption) (by omega))]; done) | (rw [subOk_end i2 i3 (by omega)]; done))
          ·
            have h19' := of_decide_eq_true (bnf h19)
            refine t_skip ?_
            refine t_endblock ?_
            refine t_region ?_
            refine r_op (o_move rfl rfl) ?_
            refine r_op (o_bin rfl rfl rfl rfl) ?_
            refine r_op (o_assign rfl rfl) ?_
            refine r_end ?_
            refine t_le ?_ (ih0 (m + 1) (by (try dsimp only); omega) (by (try dsimp only); exact ⟨by omega, i2, step_all i3 (by first | (rw [subStep_0 (m := m) (by assumption) (by assumption) (by omega), decide_eq_true (by omega), decide_eq_true (by omega)]; rfl) | (rw [subStep_n (m := m) (by assumption) (by assumption) (by omega) (by assumption) (by (try simp only [IntKind.wrap_i64]); omega), decide_eq_true (by omega), decide_eq_true (by omega), decide_eq_true (by omega)]; rfl))⟩))
            exact ⟨⟨rfl, ⟨(eqI (wr64 (by omega) (by omega))), trivial⟩⟩, ⟨rfl, trivial⟩, rfl⟩
      ·
        have g6' := of_decide_eq_false (bnt g6)
        refine d_guard 9 rfl rfl (by kernel_rfl) (by kernel_rfl) (by kernel_rfl) rfl rfl (v := .c .top) (nc g6) (nc g6) (fun _ => ?_)
        refine d_guard 10 rfl rfl (by kernel_rfl) (by kernel_rfl) (by kernel_rfl) rfl rfl (v := .c .top) (nc g6) (nc g6) (fun _ => ?_)
        refine d_skip 11 rfl rfl (by kernel_rfl) (by kernel_rfl) (by kernel_rfl) rfl rfl ?_
        refine d_skip 12 rfl rfl (by kernel_rfl) (by kernel_rfl) (by kernel_rfl) rfl rfl ?_
        refine d_skip 13 rfl rfl (by kernel_rfl) (by kernel_rfl) (by kernel_rfl) rfl rfl ?_
        refine d_skip 14 rfl rfl (by kernel_rfl) (by kernel_rfl) (by kernel_rfl) rfl rfl ?_
        refine d_skip 15 rfl rfl (by kernel_rfl) (by kernel_rfl) (by kernel_rfl) rfl rfl ?_
        refine d_skip 16 rfl rfl (by kernel_rfl) (by kernel_rfl) (by kernel_rfl) rfl rfl ?_
        refine d_skip 17 rfl rfl (by kernel_rfl) (by kernel_rfl) (by kernel_rfl) rfl rfl ?_
        refine d_skip 18 rfl rfl (by kernel_rfl) (by kernel_rfl) (by kernel_rfl) rfl rfl ?_
        refine d_skip 19 rfl rfl (by kernel_rfl) (by kernel_rfl) (by kernel_rfl) rfl rfl ?_
        refine d_skip 20 rfl rfl (by kernel_rfl) (by kernel_rfl) (by kernel_rfl) rfl rfl ?_
        refine d_skip 21 rfl rfl (by kernel_rfl) (by kernel_rfl) (by kernel_rfl) rfl rfl ?_
        refine d_skip 22 rfl rfl (by kernel_rfl) (by kernel_rfl) (by kernel_rfl) rfl rfl ?_
        refine d_guard 23 rfl rfl (by kernel_rfl) (by kernel_rfl) (by kernel_rfl) rfl rfl (v := .c .top) (nc g6) (nc g6) (fun _ => ?_)
        refine d_take 24 rfl rfl (by kernel_rfl) (by kernel_rfl) (by kernel_rfl) (p_pickT rfl g6 rfl) ?_
        refine d_take 25 rfl rfl (by kernel_rfl) (by kernel_rfl) (by kernel_rfl) (p_move rfl) ?_
        refine d_guard 26 rfl rfl (by kernel_rfl) (by kernel_rfl) (by kernel_rfl) rfl rfl (v := .c .top) (nc rfl) (nc rfl) (fun _ => ?_)
        refine d_guard 27 rfl rfl (by kernel_rfl) (by kernel_rfl) (by kernel_rfl) rfl rfl (v := .c .top) (nc rfl) (nc rfl) (fun _ => ?_)
        refine d_guard 28 rfl rfl (by kernel_rfl) (by kernel_rfl) (by kernel_rfl) rfl rfl (v := .c .top) (nc rfl) (nc rfl) (fun _ => ?_)
        refine d_guard 29 rfl rfl (by kernel_rfl) (by kernel_rfl) (by kernel_rfl) rfl rfl (v := .c .top) (nc rfl) (nc rfl) (fun _ => ?_)
        refine d_guard 30 rfl rfl (by kernel_rfl) (by kernel_rfl) (by kernel_rfl) rfl rfl (v := .c .top) (nc rfl) (nc rfl) (fun _ => ?_)
        refine d_guard 31 rfl rfl (by kernel_rfl) (by kernel_rfl) (by kernel_rfl) rfl rfl (v := .c .top) (nc rfl) (nc rfl) (fun _ => ?_)
        refine d_guard 32 rfl rfl (by kernel_rfl) (by kernel_rfl) (by kernel_rfl) rfl rfl (v := .c .top) (nc rfl) (nc rfl) (fun _ => ?_)
        refine d_take 33 rfl rfl (by kernel_rfl) (by kernel_rfl) (by kernel_rfl) (p_pickT rfl rfl rfl) ?_
        refine d_end (by kernel_rfl) ?_
        refine t_cond rfl (fun _ => ?_) (nc rfl)
        refine t_seq ?_
        refine t_region ?_
        refine r_op (o_assign rfl rfl) ?_
        refine r_end ?_
        refine t_ret Try.func21 (.tmp rfl .nil) rfl fun E S w u hI hd => ?_
        refine post_mk hI hd ?_ trivial rfl rfl rfl <;> clear hI hd <;> (try clear ih0)
        all_goals first | rfl | (refine scB ?_; first | (rw [subOk_len (by omega)]; done) | (rw [subOk_not (m := m) (by omega) (by first | exact subStep_k (by assumption) (by omega) | exact subStep_p (m := m) (by assumption) (by omega) (by assumption) (by (try simp only [IntKind.wrap_i64]); omega) (by omega) | exact subStep_v (by assumption) (by omega))]; done) | (rw [subOk_end i2 i3 (by omega)]; done))
    ·
      have h2' := of_decide_eq_false h2
      refine t_exit rfl ?_
      refine t_seq ?_
      refine t_region ?_
      refine r_op (o_assign rfl rfl) ?_
      refine r_end ?_
      refine t_ret Try.func21 (.tmp rfl .nil) rfl fun E S w u hI hd => ?_
      refine post_mk hI hd ?_ trivial rfl rfl rfl <;> clear hI hd <;> (try clear ih0)
      all_goals first | rfl | (refine scB ?_; first | (rw [subOk_len (by omega)]; done) | (rw [subOk_not (m := m) (by omega) (by first | exact subStep_k (by assumption) (by omega) | exact subStep_p (m := m) (by assumption) (by omega) (by assumption) (by (try simp only [IntKind.wrap_i64]); omega) (by omega) | exact subStep_v (by assumption) (by omega))]; done) | (rw [subOk_end i2 i3 (by omega)]; done))
set_option maxHeartbeats 1000000 in
set_option maxRecDepth 10000 in
theorem c_slices_Index___int_int_ (l : List Int) (v : Int) (hl : l.length ≤ 9223372036854775807) : Pu Try.prog 26 [.c (.t none (.sl 1 encI (l))), .c (.t none (.v (.int .i64 (v))))] [] 0 (.c (.t none (.v (.int .i64 (idxI (eqP v) l))))) := by
  refine pu_enter Try.func26 rfl (Nat.le_of_ble_eq_true rfl) fun w S => ?_
  refine t_seq ?_
  refine t_region ?_
  refine r_op (o_assign rfl rfl) ?_
  refine r_end ?_
  refine t_seq ?_
  refine t_seq ?_
  refine t_region ?_
  refine r_op (o_move rfl rfl) ?_
  refine r_op (o_len rfl rfl rfl) ?_
  refine r_op (o_move rfl rfl) ?_
  refine r_end ?_
  refine t_block ?_
  refine t_loopL (fun m => ⟨[(0, some (.c (.t none (.sl 1 encI (l))))), (1, some (.c (.t none (.v (.int .i64 (v)))))), (7, some (.c (.t none (.v (.int .i64 (((l).length : Int))))))), (8, some (.c (.t none (.v (.int .i64 ((m : Int)))))))], [], 0⟩ : Nat → St) (fun m => m ≤ l.length ∧ ∀ j z, j < m → l[j]? = some z → eqP v z = false) (fun m => l.length - m) 0 ⟨⟨rfl, ⟨rfl, ⟨rfl, ⟨rfl, trivial⟩⟩⟩⟩, trivial, rfl⟩ (by exact ⟨Nat.zero_le _, fun j z h => by omega⟩) ?_
  rintro m hI ih0
  try dsimp only at hI ih0
  obtain ⟨i1, i2⟩ := hI
  refine t_seq ?_
  refine t_region ?_
  refine r_op (o_bin rfl rfl rfl rfl) ?_
  refine r_end ?_
  refine t_seq ?_
  refine t_cond rfl (fun h1 => ?_) (fun h1 => ?_)
  ·
    have h1' := of_decide_eq_true h1
    refine t_skip ?_
    refine t_seq ?_
    refine t_block ?_
    refine t_seq ?_
    refine t_region ?_
    refine r_op (o_move rfl rfl) ?_
    refine r_op (o_assign rfl rfl) ?_
    refine r_end ?_
    refine t_seq ?_
    refine t_region ?_
    refine r_op (o_move rfl rfl) ?_
    refine r_op (o_move rfl rfl) ?_
    refine r_op (o_move rfl rfl) ?_
    obtain ⟨z2, hz3, b4⟩ := at_get (xs := l) (n := (m : Int)) (by first | omega | (simp; omega)) (by first | omega | (simp; omega))
    refine r_op (o_index rfl (by kernel_rfl) rfl rfl b4 hz3) ?_
    refine r_op (o_load1 rfl (by kernel_rfl) rfl rfl) ?_
    refine r_op (o_bin rfl rfl rfl rfl) ?_
    refine r_end ?_
    refine t_cond rfl (fun h5 => ?_) (fun h5 => ?_)
    ·
      have h5' := of_decide_eq_true h5
      refine t_seq ?_
      refine t_region ?_
      refine r_op (o_move rfl rfl) ?_
      refine r_op (o_assign rfl rfl) ?_
      refine r_end ?_
      refine t_ret Try.func26 (.tmp rfl .nil) rfl fun E S w u hI hd => ?_
      refine post_mk hI hd ?_ trivial rfl rfl rfl <;> clear hI hd <;> (try clear ih0)
      all_goals first | rfl | (rw [idx_hit i2 (by assumption) (decide_eq_true (by omega))])
    ·
      have h5' := of_decide_eq_false h5
      refine t_skip ?_
      refine t_endblock ?_
      refine t_region ?_
      refine r_op (o_bin rfl rfl rfl rfl) ?_
      refine r_op (o_move rfl rfl) ?_
      refine r_end ?_
      refine t_le ?_ (ih0 (m + 1) (by (try dsimp only); omega) (by (try dsimp only); exact ⟨by omega, no_step i2 (by assumption) rfl (decide_eq_false (by omega))⟩))
      exact ⟨⟨rfl, ⟨rfl, ⟨rfl, ⟨(eqI (wr64 (by omega) (by omega))), trivial⟩⟩⟩⟩, trivial, rfl⟩
  ·
    have h1' := of_decide_eq_false h1
    refine t_exit rfl ?_
    refine t_seq ?_
    refine t_region ?_
    refine r_op (o_assign rfl rfl) ?_
    refine r_end ?_
    refine t_ret Try.func26 (.tmp rfl .nil) rfl fun E S w u hI hd => ?_
    refine post_mk hI hd ?_ trivial rfl rfl rfl <;> clear hI hd <;> (try clear ih0)
    all_goals first | rfl | (rw [idx_none i2 (by omega)])
set_option maxHeartbeats 1000000 in
set_option maxRecDepth 10000 in
theorem c_impl_IsValidSubstitution (ns vs : List Int) (hn : ns.length ≤ 4611686018427387904) (hv : vs.length ≤ 4611686018427387904) (on : ∀ x ∈ ns, okI x) (ov : ∀ x ∈ vs, okI x) : Pu Try.prog 40 [.agg [.t none (.sl 1 encI (ns)), .t none (.sl 1 encI (vs))]] [] 0 (.c (.t none (.v (.bool (subOk ns vs))))) := by
  refine pu_enter Try.func40 rfl (Nat.le_of_ble_eq_true rfl) fun w S => ?_
  refine t_seq ?_
  refine t_region ?_
  refine r_op (o_box 0 rfl rfl rfl rfl) ?_
  refine r_op (o_assign rfl rfl) ?_
  refine r_end ?_
  refine t_seq ?_
  refine t_seq ?_
  refine t_region ?_
  refine r_op (o_fieldb rfl (off := 0) (by kernel_rfl) rfl) ?_
  refine r_op (o_load1b rfl (by kernel_rfl) rfl rfl rfl) ?_
  refine r_op (o_len rfl rfl rfl) ?_
  refine r_op (o_fieldb rfl (off := 1) (by kernel_rfl) rfl) ?_
  refine r_op (o_load1b rfl (by kernel_rfl) rfl rfl rfl) ?_
  refine r_op (o_len rfl rfl rfl) ?_
  refine r_op (o_bin rfl rfl rfl rfl) ?_
  refine r_end ?_
  refine t_cond rfl (fun h1 => ?_) (fun h1 => ?_)
  ·
    have h1' := of_decide_eq_true h1
    refine t_seq ?_
    refine t_region ?_
    refine r_op (o_assign rfl rfl) ?_
    refine r_end ?_
    refine t_ret Try.func40 (.tmp rfl .nil) rfl fun E S w u hI hd => ?_
    refine post_mk hI hd ?_ trivial rfl rfl rfl <;> clear hI hd <;> (try clear ih0)
    all_goals first | rfl | (refine scB ?_; first | (rw [subOk_len (by omega)]; done) | (rw [subOk_not (m := m) (by omega) (by first | exact subStep_k (by assumption) (by omega) | exact subStep_p (m := m) (by assumption) (by omega) (by assumption) (by (try simp only [IntKind.wrap_i64]); omega) (by omega) | exact subStep_v (by assumption) (by omega))]; done) | (rw [subOk_end i2 i3 (by omega)]; done))
  ·
    have h1' := of_decide_eq_false h1
    refine t_skip ?_
    refine t_seq ?_
    refine t_seq ?_
    refine t_region ?_
    refine r_op (o_fieldb rfl (off := 0) (by kernel_rfl) rfl) ?_
    refine r_op (o_load1b rfl (by kernel_rfl) rfl rfl rfl) ?_
    refine r_op (o_len rfl rfl rfl) ?_
    refine r_op (o_move rfl rfl) ?_
    refine r_end ?_
    refine t_block ?_
    refine t_loopL (fun m => ⟨[(1, some (.c (.ptr 0 0))), (13, some (.c (.t none (.sl 1 encI (ns))))), (14, some (.c (.t none (.v (.int .i64 (((ns).length : Int))))))), (15, some (.c (.t none (.v (.int .i64 ((m : Int)))))))], [(0, some (.box [.t none (.sl 1 encI (ns)), .t none (.sl 1 encI (vs))]))], 1⟩ : Nat → St) (fun m => m ≤ ns.length ∧ ns.length = vs.length ∧ ∀ j, j < m → subStep ns vs j = true) (fun m => ns.length - m) 0 ⟨⟨rfl, ⟨rfl, ⟨rfl, ⟨rfl, trivial⟩⟩⟩⟩, ⟨rfl, trivial⟩, rfl⟩ (by exact ⟨Nat.zero_le _, by omega, fun j h => by omega⟩) ?_
    rintro m hI ih0
    try dsimp only at hI ih0
    obtain ⟨i1, i2, i3⟩ := hI
    refine t_seq ?_
    refine t_region ?_
    refine r_op (o_bin rfl rfl rfl rfl) ?_
    refine r_end ?_
    refine t_seq ?_
    refine t_cond rfl (fun h2 => ?_) (fun h2 => ?_)
    ·
      have h2' := of_decide_eq_true h2
      refine t_skip ?_
      refine t_seq ?_
      refine t_block ?_
      refine t_seq ?_
      refine t_region ?_
      refine r_op (o_move rfl rfl) ?_
      obtain ⟨z3, hz4, b5⟩ := at_get (xs := ns) (n := (m : Int)) (by first | omega | assumption | (simp only [IntKind.wrap_i64] at *; omega) | exact (ov _ (List.mem_of_getElem? (by assumption))).1 | exact (ov _ (List.mem_of_getElem? (by assumption))).2) (by first | omega | assumption | (simp only [IntKind.wrap_i64] at *; omega) | exact (ov _ (List.mem_of_getElem? (by assumption))).1 | exact (ov _ (List.mem_of_getElem? (by assumption))).2)
      refine r_op (o_index rfl (by kernel_rfl) rfl rfl b5 hz4) ?_
      refine r_op (o_load1 rfl (by kernel_rfl) rfl rfl) ?_
      refine r_op (o_assign rfl rfl) ?_
      refine r_op (o_assign rfl rfl) ?_
      refine r_end ?_
      refine t_seq ?_
      refine t_region ?_
      refine r_op (o_move rfl rfl) ?_
      refine r_op (o_call 1 1 false (Go.Proofs.enters_of Try.func41 (by kernel_rfl) rfl) (c_impl_within (z3) (0) (39)) rfl (.cons rfl (.c .t0) (.cons rfl (.c .t0) (.cons rfl (.c .t0) .nil))) rfl rfl rfl) ?_
      refine r_op (o_not rfl rfl) ?_
      refine r_op (o_move rfl rfl) ?_
      refine r_guard rfl rfl rfl (fun g6 => ?_) (fun g6 => ?_)
      ·
        have g6' := of_decide_eq_true (bnf g6)
        refine r_op (o_move rfl rfl) ?_
        refine r_guard rfl rfl rfl (fun _ => ?_) (ncf g6)
        refine r_op (o_bin rfl rfl rfl rfl) ?_
        refine r_guard rfl rfl rfl (fun _ => ?_) (ncf g6)
        refine r_op (o_move rfl rfl) ?_
        refine r_guard rfl rfl rfl (fun g7 => ?_) (fun g7 => ?_)
        ·
          have g7' := of_decide_eq_true g7
          refine r_op (o_move rfl rfl) ?_
          refine r_guard rfl rfl rfl (fun _ => ?_) (nc g7)
          refine r_op (o_fieldb rfl (off := 0) (by kernel_rfl) rfl) ?_
          refine r_guard rfl rfl rfl (fun _ => ?_) (nc g7)
          refine r_op (o_load1b rfl (by kernel_rfl) rfl rfl rfl) ?_
          refine r_guard rfl rfl rfl (fun _ => ?_) (nc g7)
          refine r_op (o_move rfl rfl) ?_
          refine r_guard rfl rfl rfl (fun _ => ?_) (nc g7)
          refine r_op (o_bin rfl rfl rfl rfl) ?_
          refine r_guard rfl rfl rfl (fun _ => ?_) (nc g7)
          obtain ⟨z8, hz9, b10⟩ := at_get (xs := ns) (n := IntKind.i64.wrap ((m : Int) - 1)) (by first | omega | assumption | (simp only [IntKind.wrap_i64] at *; omega) | exact (ov _ (List.mem_of_getElem? (by assumption))).1 | exact (ov _ (List.mem_of_getElem? (by assumption))).2) (by first | omega | assumption | (simp only [IntKind.wrap_i64] at *; omega) | exact (ov _ (List.mem_of_getElem? (by assumption))).1 | exact (ov _ (List.mem_of_getElem? (by assumption))).2)
          refine r_op (o_index rfl (by kernel_rfl) rfl rfl b10 hz9) ?_
          refine r_guard rfl rfl rfl (fun _ => ?_) (nc g7)
          refine r_op (o_load1 rfl (by kernel_rfl) rfl rfl) ?_
          refine r_guard rfl rfl rfl (fun _ => ?_) (nc g7)
          refine r_op (o_bin rfl rfl rfl rfl) ?_
          refine r_guard rfl rfl rfl (fun _ => ?_) (ncf g6)
          refine r_op (o_pickT rfl rfl g7 rfl) ?_
          refine r_op (o_pickF rfl rfl g6 rfl) ?_
          refine r_op (o_move rfl rfl) ?_
          refine r_guard rfl rfl rfl (fun g11 => ?_) (fun g11 => ?_)
          ·
            have g11' := of_decide_eq_false g11
            refine r_op (o_fieldb rfl (off := 1) (by kernel_rfl) rfl) ?_
            refine r_guard rfl rfl rfl (fun _ => ?_) (ncf g11)
            refine r_op (o_load1b rfl (by kernel_rfl) rfl rfl rfl) ?_
            refine r_guard rfl rfl rfl (fun _ => ?_) (ncf g11)
            refine r_op (o_move rfl rfl) ?_
            refine r_guard rfl rfl rfl (fun _ => ?_) (ncf g11)
            obtain ⟨z12, hz13, b14⟩ := at_get (xs := vs) (n := (m : Int)) (by first | omega | assumption | (simp only [IntKind.wrap_i64] at *; omega) | exact (ov _ (List.mem_of_getElem? (by assumption))).1 | exact (ov _ (List.mem_of_getElem? (by assumption))).2) (by first | omega | assumption | (simp only [IntKind.wrap_i64] at *; omega) | exact (ov _ (List.mem_of_getElem? (by assumption))).1 | exact (ov _ (List.mem_of_getElem? (by assumption))).2)
            refine r_op (o_index rfl (by kernel_rfl) rfl rfl b14 hz13) ?_
            refine r_guard rfl rfl rfl (fun _ => ?_) (ncf g11)
            refine r_op (o_load1 rfl (by kernel_rfl) rfl rfl) ?_
            refine r_guard rfl rfl rfl (fun _ => ?_) (ncf g11)
            refine r_op (o_call 1 1 false (Go.Proofs.enters_of Try.func39 (by kernel_rfl) rfl) (c_impl_IsValidValue (z12)) rfl (.cons rfl (.c .t0) .nil) rfl rfl rfl) ?_
            refine r_guard rfl rfl rfl (fun _ => ?_) (ncf g11)
            refine r_op (o_not rfl rfl) ?_
            refine r_op (o_pickF rfl rfl g11 rfl) ?_
            refine r_end ?_
            refine t_cond rfl (fun h15 => ?_) (fun h15 => ?_)
            ·
              have h15' := of_decide_eq_false (bnt h15)
              refine t_seq ?_
              refine t_region ?_
              refine r_op (o_assign rfl rfl) ?_
              refine r_end ?_
              refine t_ret Try.func40 (.tmp rfl .nil) rfl fun E S w u hI hd => ?_
              refine post_mk hI hd ?_ trivial rfl rfl rfl <;> clear hI hd <;> (try clear ih0)
              all_goals first | rfl | (refine scB ?_; first | (rw [subOk_len (by omega)]; done) | (rw [subOk_not (m := m) (by omega) (by first | exact subStep_k (by assumption) (by omega) | exact subStep_p (m := m) (by assumption) (by omega) (by assumption) (by (try simp only [IntKind.wrap_i64]); omega) (by omega) | exact subStep_v (by assumption) (by omega))]; done) | (rw [subOk_end i2 i3 (by omega)]; done))
            ·
              have h15' := of_decide_eq_true (bnf h15)
              refine t_skip ?_
              refine t_endblock ?_
              refine t_region ?_
              refine r_op (o_bin rfl rfl rfl rfl) ?_
              refine r_op (o_move rfl rfl) ?_
              refine r_end ?_
              refine t_le ?_ (ih0 (m + 1) (by (try dsimp only); omega) (by (try dsimp only); exact ⟨by omega, i2, step_all i3 (by first | (rw [subStep_0 (m := m) (by assumption) (by assumption) (by omega), decide_eq_true (by omega), decide_eq_true (by omega)]; rfl) | (rw [subStep_n (m := m) (by assumption) (by assumption) (by omega) (by assumption) (by (try simp only [IntKind.wrap_i64]); omega), decide_eq_true (by omega), decide_eq_true (by omega), decide_eq_true (by omega)]; rfl))⟩))
              exact ⟨⟨rfl, ⟨rfl, ⟨rfl, ⟨(eqI (wr64 (by omega) (by omega))), trivial⟩⟩⟩⟩, ⟨rfl, trivial⟩, rfl⟩
          ·
            have g11' := of_decide_eq_true g11
            refine r_guard rfl rfl rfl (nc g11) (fun _ => ?_)
            refine r_guard rfl rfl rfl (nc g11) (fun _ => ?_)
            refine r_guard rfl rfl rfl (nc g11) (fun _ => ?_)
            refine r_guard rfl rfl rfl (nc g11) (fun _ => ?_)
            refine r_guard rfl rfl rfl (nc g11) (fun _ => ?_)
            refine r_guard rfl rfl rfl (nc g11) (fun _ => ?_)
            refine r_op (o_pickT rfl rfl g11 rfl) ?_
            refine r_end ?_
            refine t_cond rfl (fun _ => ?_) (nc rfl)
            refine t_seq ?_
            refine t_region ?_
            refine r_op (o_assign rfl rfl) ?_
            refine r_end ?_
            refine t_ret Try.func40 (.tmp rfl .nil) rfl fun E S w u hI hd => ?_
            refine post_mk hI hd ?_ trivial rfl rfl rfl <;> clear hI hd <;> (try clear ih0)
            all_goals first | rfl | (refine scB ?_; first | (rw [subOk_len (by omega)]; done) | (rw [subOk_not (m := m) (by omega) (by first | exact subStep_k (by assumption) (by omega) | exact subStep_p (m := m) (by assumption) (by omega) (by assumption) (by (try simp only [IntKind.wrap_i64]); omega) (by omega) | exact subStep_v (by assumption) (by omega))]; done) | (rw [subOk_end i2 i3 (by omega)]; done))
        ·
          have g7' := of_decide_eq_false g7
          refine r_guard rfl rfl rfl (ncf g7) (fun _ => ?_)
          refine r_guard rfl rfl rfl (ncf g7) (fun _ => ?_)
          refine r_guard rfl rfl rfl (ncf g7) (fun _ => ?_)
          refine r_guard rfl rfl rfl (ncf g7) (fun _ => ?_)
          refine r_guard rfl rfl rfl (ncf g7) (fun _ => ?_)
          refine r_guard rfl rfl rfl (ncf g7) (fun _ => ?_)
          refine r_guard rfl rfl rfl (ncf g7) (fun _ => ?_)
          refine r_guard rfl rfl rfl (fun _ => ?_) (ncf g6)
          refine r_op (o_pickF rfl rfl g7 rfl) ?_
          refine r_op (o_pickF rfl rfl g6 rfl) ?_
          refine r_op (o_move rfl rfl) ?_
          refine r_guard rfl rfl rfl (fun _ => ?_) (ncf rfl)
          refine r_op (o_fieldb rfl (off := 1) (by kernel_rfl) rfl) ?_
          refine r_guard rfl rfl rfl (fun _ => ?_) (ncf rfl)
          refine r_op (o_load1b rfl (by kernel_rfl) rfl rfl rfl) ?_
          refine r_guard rfl rfl rfl (fun _ => ?_) (ncf rfl)
          refine r_op (o_move rfl rfl) ?_
          refine r_guard rfl rfl rfl (fun _ => ?_) (ncf rfl)
          obtain ⟨z16, hz17, b18⟩ := at_get (xs := vs) (n := (m : Int)) (by first | omega | assumption | (simp only [IntKind.wrap_i64] at *; omega) | exact (ov _ (List.mem_of_getElem? (by assumption))).1 | exact (ov _ (List.mem_of_getElem? (by assumption))).2) (by first | omega | assumption | (simp only [IntKind.wrap_i64] at *; omega) | exact (ov _ (List.mem_of_getElem? (by assumption))).1 | exact (ov _ (List.mem_of_getElem? (by assumption))).2)
          refine r_op (o_index rfl (by kernel_rfl) rfl rfl b18 hz17) ?_
          refine r_guard rfl rfl rfl (fun _ => ?_) (ncf rfl)
          refine r_op (o_load1 rfl (by kernel_rfl) rfl rfl) ?_
          refine r_guard rfl rfl rfl (fun _ => ?_) (ncf rfl)
          refine r_op (o_call 1 1 false (Go.Proofs.enters_of Try.func39 (by kernel_rfl) rfl) (c_impl_IsValidValue (z16)) rfl (.cons rfl (.c .t0) .nil) rfl rfl rfl) ?_
          refine r_guard rfl rfl rfl (fun _ => ?_) (ncf rfl)
          refine r_op (o_not rfl rfl) ?_
          refine r_op (o_pickF rfl rfl rfl rfl) ?_
          refine r_end ?_
          refine t_cond rfl (fun h19 => ?_) (fun h19 => ?_)
          ·
            have h19' := of_decide_eq_false (bnt h19)
            refine t_seq ?_
            refine t_region ?_
            refine r_op (o_assign rfl rfl) ?_
            refine r_end ?_
            refine t_ret Try.func40 (.tmp rfl .nil) rfl fun E S w u hI hd => ?_
            refine post_mk hI hd ?_ trivial rfl rfl rfl <;> clear hI hd <;> (try clear ih0)
            all_goals first | rfl | (refine scB ?_; first | (rw [subOk_len (by omega)]; done) | (rw [subOk_not (m := m) (by omega) (by first | exact subStep_k (by assumption) (by omega) | exact subStep_p (m := m) (by assumption) (by omega) (by assumption) (by (try simp only [IntKind.wrap_i64]); omega) (by omega) | exact subStep_v (by assumption) (by omega))]; done) | (rw [subOk_end i2 i3 (by omega)]; done))
          ·
            have h19' := of_decide_eq_true (bnf h19)
            refine t_skip ?_
            refine t_endblock ?_
            refine t_region ?_
            refine r_op (o_bin rfl rfl rfl rfl) ?_
            refine r_op (o_move rfl rfl) ?_
            refine r_end ?_
            refine t_le ?_ (ih0 (m + 1) (by (try dsimp only); omega) (by (try dsimp only); exact ⟨by omega, i2, step_all i3 (by first | (rw [subStep_0 (m := m) (by assumption) (by assumption) (by omega), decide_eq_true (by omega), decide_eq_true (by omega)]; rfl) | (rw [subStep_n (m := m) (by assumption) (by assumption) (by omega) (by assumption) (by (try simp only [IntKind.wrap_i64]); omega), decide_eq_true (by omega), decide_eq_true (by omega), decide_eq_true (by omega)]; rfl))⟩))
            exact ⟨⟨rfl, ⟨rfl, ⟨rfl, ⟨(eqI (wr64 (by omega) (by omega))), trivial⟩⟩⟩⟩, ⟨rfl, trivial⟩, rfl⟩
      ·
        have g6' := of_decide_eq_false (bnt g6)
        refine r_guard rfl rfl rfl (nc g6) (fun _ => ?_)
        refine r_guard rfl rfl rfl (nc g6) (fun _ => ?_)
        refine r_skip rfl rfl rfl ?_
        refine r_skip rfl rfl rfl ?_
        refine r_skip rfl rfl rfl ?_
        refine r_skip rfl rfl rfl ?_
        refine r_skip rfl rfl rfl ?_
        refine r_skip rfl rfl rfl ?_
        refine r_skip rfl rfl rfl ?_
        refine r_skip rfl rfl rfl ?_
        refine r_guard rfl rfl rfl (nc g6) (fun _ => ?_)
        refine r_op (o_pickT rfl rfl g6 rfl) ?_
        refine r_op (o_move rfl rfl) ?_
        refine r_guard rfl rfl rfl (nc rfl) (fun _ => ?_)
        refine r_guard rfl rfl rfl (nc rfl) (fun _ => ?_)
        refine r_guard rfl rfl rfl (nc rfl) (fun _ => ?_)
        refine r_guard rfl rfl rfl (nc rfl) (fun _ => ?_)
        refine r_guard rfl rfl rfl (nc rfl) (fun _ => ?_)
        refine r_guard rfl rfl rfl (nc rfl) (fun _ => ?_)
        refine r_guard rfl rfl rfl (nc rfl) (fun _ => ?_)
        refine r_op (o_pickT rfl rfl rfl rfl) ?_
        refine r_end ?_
        refine t_cond rfl (fun _ => ?_) (nc rfl)
        refine t_seq ?_
        refine t_region ?_
        refine r_op (o_assign rfl rfl) ?_
        refine r_end ?_
        refine t_ret Try.func40 (.tmp rfl .nil) rfl fun E S w u hI hd => ?_
        refine post_mk hI hd ?_ trivial rfl rfl rfl <;> clear hI hd <;> (try clear ih0)
        all_goals first | rfl | (refine scB ?_; first | (rw [subOk_len (by omega)]; done) | (rw [subOk_not (m := m) (by omega) (by first | exact subStep_k (by assumption) (by omega) | exact subStep_p (m := m) (by assumption) (by omega) (by assumption) (by (try simp only [IntKind.wrap_i64]); omega) (by omega) | exact subStep_v (by assumption) (by omega))]; done) | (rw [subOk_end i2 i3 (by omega)]; done))
    ·
      have h2' := of_decide_eq_false h2
      refine t_exit rfl ?_
      refine t_seq ?_
      refine t_region ?_
      refine r_op (o_assign rfl rfl) ?_
      refine r_end ?_
      refine t_ret Try.func40 (.tmp rfl .nil) rfl fun E S w u hI hd => ?_
      refine post_mk hI hd ?_ trivial rfl rfl rfl <;> clear hI hd <;> (try clear ih0)
      all_goals first | rfl | (refine scB ?_; first | (rw [subOk_len (by omega)]; done) | (rw [subOk_not (m := m) (by omega) (by first | exact subStep_k (by assumption) (by omega) | exact subStep_p (m := m) (by assumption) (by omega) (by assumption) (by (try simp only [IntKind.wrap_i64]); omega) (by omega) | exact subStep_v (by assumption) (by omega))]; done) | (rw [subOk_end i2 i3 (by omega)]; done))
set_option maxHeartbeats 1000000 in
set_option maxRecDepth 10000 in
theorem c_impl_ApplyToValue (ns vs : List Int) (v : Int) (hn : ns.length ≤ 4611686018427387904) (hv : vs.length ≤ 4611686018427387904) (on : ∀ x ∈ ns, okI x) (ov : ∀ x ∈ vs, okI x) (hv1 : -9223372036854775808 ≤ v) (hv2 : v ≤ 9223372036854775807) : Pu Try.prog 22 [.agg [.t none (.sl 1 encI (ns)), .t none (.sl 1 encI (vs))], .c (.t none (.v (.int .i64 (v))))] [] 0 (.c (.t none (.v (.int .i64 (appV ns vs v))))) := by
  refine pu_enter Try.func22 rfl (Nat.le_of_ble_eq_true rfl) fun w S => ?_
  have nn : (-40 ≤ v ∧ v ≤ -1) → idxI (eqP (if -40 ≤ v ∧ v ≤ -1 then -1 - v else 0)) ns = idxI (eqP (-1 - v)) ns := fun e => by rw [if_pos e]
  refine t_seq ?_
  refine t_region ?_
  refine r_op (o_box 0 rfl rfl rfl rfl) ?_
  refine r_op (o_assign rfl rfl) ?_
  refine r_end ?_
  refine t_seq ?_
  refine t_region ?_
  refine r_op (o_move rfl rfl) ?_
  refine r_op (o_call 1 1 false (Go.Proofs.enters_of Try.func29 (by kernel_rfl) rfl) (c_impl_NullNumber (v) (by first | omega | assumption | (have q := nn (by assumption); have q2 := appV_idx (ns := ns) (vs := vs) (v := v) (by assumption) rfl (by omega) (by assumption); omega)) (by first | omega | assumption | (have q := nn (by assumption); have q2 := appV_idx (ns := ns) (vs := vs) (v := v) (by assumption) rfl (by omega) (by assumption); omega))) rfl (.cons rfl (.c .t0) .nil) rfl rfl rfl) ?_
  refine r_op (o_move rfl rfl) ?_
  refine r_op (o_extract rfl rfl rfl rfl) ?_
  refine r_op (o_extract rfl rfl rfl rfl) ?_
  refine r_op (o_assign rfl rfl) ?_
  refine r_op (o_assign rfl rfl) ?_
  refine r_end ?_
  refine t_seq ?_
  refine t_region ?_
  refine r_op (o_fieldb rfl (off := 0) (by kernel_rfl) rfl) ?_
  refine r_op (o_load1b rfl (by kernel_rfl) rfl rfl rfl) ?_
  refine r_op (o_move rfl rfl) ?_
  refine r_op (o_call 1 1 false (Go.Proofs.enters_of Try.func26 (by kernel_rfl) rfl) (c_slices_Index___int_int_ (ns) (if -40 ≤ (v) ∧ (v) ≤ -1 then -1 - (v) else 0) (by first | omega | assumption | (have q := nn (by assumption); have q2 := appV_idx (ns := ns) (vs := vs) (v := v) (by assumption) rfl (by omega) (by assumption); omega))) rfl (.cons rfl (.c .t0) (.cons rfl (.c .t0) .nil)) rfl rfl rfl) ?_
  refine r_op (o_assign rfl rfl) ?_
  refine r_end ?_
  refine t_seq ?_
  refine t_seq ?_
  refine t_region ?_
  refine r_op (o_move rfl rfl) ?_
  refine r_op (o_not rfl rfl) ?_
  refine r_op (o_move rfl rfl) ?_
  refine r_guard rfl rfl rfl (fun g1 => ?_) (fun g1 => ?_)
  ·
    have g1' := of_decide_eq_true (bnf g1)
    refine r_op (o_move rfl rfl) ?_
    refine r_guard rfl rfl rfl (fun _ => ?_) (ncf g1)
    refine r_op (o_bin rfl rfl rfl rfl) ?_
    refine r_op (o_pickF rfl rfl g1 rfl) ?_
    refine r_op (o_move rfl rfl) ?_
    refine r_guard rfl rfl rfl (fun g2 => ?_) (fun g2 => ?_)
    ·
      have g2' := of_decide_eq_false g2
      refine r_op (o_loadAb rfl (n := 2) (by kernel_rfl) (by kernel_rfl) rfl rfl rfl) ?_
      refine r_guard rfl rfl rfl (fun _ => ?_) (ncf g2)
      refine r_op (o_call 1 1 false (Go.Proofs.enters_of Try.func40 (by kernel_rfl) rfl) (c_impl_IsValidSubstitution (ns) (vs) (by first | omega | assumption | (have q := nn (by assumption); have q2 := appV_idx (ns := ns) (vs := vs) (v := v) (by assumption) rfl (by omega) (by assumption); omega)) (by first | omega | assumption | (have q := nn (by assumption); have q2 := appV_idx (ns := ns) (vs := vs) (v := v) (by assumption) rfl (by omega) (by assumption); omega)) (by first | omega | assumption | (have q := nn (by assumption); have q2 := appV_idx (ns := ns) (vs := vs) (v := v) (by assumption) rfl (by omega) (by assumption); omega)) (by first | omega | assumption | (have q := nn (by assumption); have q2 := appV_idx (ns := ns) (vs := vs) (v := v) (by assumption) rfl (by omega) (by assumption); omega))) rfl (.cons rfl (.agg (.cons .t0 (.cons .t0 .nil))) .nil) rfl rfl rfl) ?_
      refine r_guard rfl rfl rfl (fun _ => ?_) (ncf g2)
      refine r_op (o_not rfl rfl) ?_
      refine r_op (o_pickF rfl rfl g2 rfl) ?_
      refine r_end ?_
      refine t_cond rfl (fun h3 => ?_) (fun h3 => ?_)
      ·
        have h3' := (bnt h3)
        refine t_seq ?_
        refine t_region ?_
        refine r_op (o_move rfl rfl) ?_
        refine r_op (o_assign rfl rfl) ?_
        refine r_end ?_
        refine t_ret Try.func22 (.tmp rfl .nil) rfl fun E S w u hI hd => ?_
        refine post_mk hI hd ?_ trivial rfl rfl rfl <;> clear hI hd
        all_goals first | rfl | (refine scI ?_; first | exact appV_no (fun q => by have q1 := nn q.1; omega) | exact appV_no (fun q => by have q1 := q.2.2; clear nn; simp_all; done) | (have q := nn (by assumption); exact appV_yes (by assumption) (by omega) q (by assumption) (by assumption)))
      ·
        have h3' := (bnf h3)
        refine t_skip ?_
        refine t_seq ?_
        refine t_region ?_
        refine r_op (o_fieldb rfl (off := 1) (by kernel_rfl) rfl) ?_
        refine r_op (o_load1b rfl (by kernel_rfl) rfl rfl rfl) ?_
        refine r_op (o_move rfl rfl) ?_
        obtain ⟨z4, hz5, b6⟩ := at_get (xs := vs) (n := idxI (eqP (if -40 ≤ (v) ∧ (v) ≤ -1 then -1 - (v) else 0)) (ns)) (by first | omega | assumption | (have q := nn (by assumption); have q2 := appV_idx (ns := ns) (vs := vs) (v := v) (by assumption) rfl (by omega) (by assumption); omega)) (by first | omega | assumption | (have q := nn (by assumption); have q2 := appV_idx (ns := ns) (vs := vs) (v := v) (by assumption) rfl (by omega) (by assumption); omega))
        refine r_op (o_index rfl (by kernel_rfl) rfl rfl b6 hz5) ?_
        refine r_op (o_load1 rfl (by kernel_rfl) rfl rfl) ?_
        refine r_op (o_assign rfl rfl) ?_
        refine r_end ?_
        refine t_ret Try.func22 (.tmp rfl .nil) rfl fun E S w u hI hd => ?_
        refine post_mk hI hd ?_ trivial rfl rfl rfl <;> clear hI hd
        all_goals first | rfl | (refine scI ?_; first | exact appV_no (fun q => by have q1 := nn q.1; omega) | exact appV_no (fun q => by have q1 := q.2.2; clear nn; simp_all; done) | (have q := nn (by assumption); exact appV_yes (by assumption) (by omega) q (by assumption) (by assumption)))
    ·
      have g2' := of_decide_eq_true g2
      refine r_guard rfl rfl rfl (nc g2) (fun _ => ?_)
      refine r_guard rfl rfl rfl (nc g2) (fun _ => ?_)
      refine r_op (o_pickT rfl rfl g2 rfl) ?_
      refine r_end ?_
      refine t_cond rfl (fun _ => ?_) (nc rfl)
      refine t_seq ?_
      refine t_region ?_
      refine r_op (o_move rfl rfl) ?_
      refine r_op (o_assign rfl rfl) ?_
      refine r_end ?_
      refine t_ret Try.func22 (.tmp rfl .nil) rfl fun E S w u hI hd => ?_
      refine post_mk hI hd ?_ trivial rfl rfl rfl <;> clear hI hd
      all_goals first | rfl | (refine scI ?_; first | exact appV_no (fun q => by have q1 := nn q.1; omega) | exact appV_no (fun q => by have q1 := q.2.2; clear nn; simp_all; done) | (have q := nn (by assumption); exact appV_yes (by assumption) (by omega) q (by assumption) (by assumption)))
  ·
    have g1' := of_decide_eq_false (bnt g1)
    refine r_guard rfl rfl rfl (nc g1) (fun _ => ?_)
    refine r_op (o_pickT rfl rfl g1 rfl) ?_
    refine r_op (o_move rfl rfl) ?_
    refine r_guard rfl rfl rfl (nc rfl) (fun _ => ?_)
    refine r_guard rfl rfl rfl (nc rfl) (fun _ => ?_)
    refine r_guard rfl rfl rfl (nc rfl) (fun _ => ?_)
    refine r_op (o_pickT rfl rfl rfl rfl) ?_
    refine r_end ?_
    refine t_cond rfl (fun _ => ?_) (nc rfl)
    refine t_seq ?_
    refine t_region ?_
    refine r_op (o_move rfl rfl) ?_
    refine r_op (o_assign rfl rfl) ?_
    refine r_end ?_
    refine t_ret Try.func22 (.tmp rfl .nil) rfl fun E S w u hI hd => ?_
    refine post_mk hI hd ?_ trivial rfl rfl rfl <;> clear hI hd
    all_goals first | rfl | (refine scI ?_; first | exact appV_no (fun q => by have q1 := nn q.1; omega) | exact appV_no (fun q => by have q1 := q.2.2; clear nn; simp_all; done) | (have q := nn (by assumption); exact appV_yes (by assumption) (by omega) q (by assumption) (by assumption)))
set_option maxHeartbeats 1000000 in
set_option maxRecDepth 10000 in
theorem c_impl_NewUnionFind (n : Int) (hn : okI n) : Pu Try.prog 23 [.c (.t none (.v (.int .i64 (n))))] [(2, some (.row none 3 true 1 encI (newU n)))] 3 (.agg [.own 2]) := by
  refine pu_enter Try.func23 rfl (Nat.le_of_ble_eq_true rfl) fun w S => ?_
  have hn1 := hn.1; have hn2 := hn.2
  refine t_seq ?_
  refine t_region ?_
  refine r_op (o_alloc 0 (zs := [.slice none 0 0]) rfl rfl (by kernel_rfl) rfl) ?_
  refine r_end ?_
  refine t_seq ?_
  refine t_region ?_
  refine r_op (o_build rfl (pl := [(0, 1)]) (zs := [.slice none 0 0]) (by kernel_rfl) (by kernel_rfl) rfl rfl rfl) ?_
  refine r_op (o_alloc 1 (zs := [.slice none 0 0]) rfl rfl (by kernel_rfl) rfl) ?_
  refine r_op (o_storeb (n := 1) (by kernel_rfl) rfl rfl rfl rfl rfl rfl) ?_
  refine r_end ?_
  refine t_seq ?_
  refine t_seq ?_
  refine t_region ?_
  refine r_op (o_move rfl rfl) ?_
  refine r_op (o_call 2 2 false (Go.Proofs.enters_of Try.func41 (by kernel_rfl) rfl) (c_impl_within (n) (0) (40)) rfl (.cons rfl (.c .t0) (.cons rfl (.c .t0) (.cons rfl (.c .t0) .nil))) rfl rfl rfl) ?_
  refine r_op (o_not rfl rfl) ?_
  refine r_end ?_
  refine t_cond rfl (fun h1 => ?_) (fun h1 => ?_)
  ·
    have h1' := of_decide_eq_false (bnt h1)
    refine t_seq ?_
    refine gt_nilb 2 (b := 1) (o := 0) (et := 3) (sz := 1) true encI rfl rfl rfl ?_
    refine t_region ?_
    refine r_op (o_loadAb rfl (n := 1) (by kernel_rfl) (by kernel_rfl) rfl rfl rfl) ?_
    refine r_op (o_storeb (n := 1) (by kernel_rfl) rfl rfl rfl rfl rfl rfl) ?_
    refine r_end ?_
    refine t_ret Try.func23 (.cells (n := 1) (by kernel_rfl) (by kernel_rfl) rfl rfl rfl .nil) rfl fun E S w u hI hd => ?_
    refine post_mk hI hd ?_ ⟨eqR ?_, trivial⟩ rfl rfl rfl <;> clear hI hd <;> (try clear ih0)
    all_goals first | rfl | (first | exact newU_no (by omega) | exact newU_end (by omega) (.inl i1) (.inr i3))
  ·
    have h1' := of_decide_eq_true (bnf h1)
    refine t_skip ?_
    refine t_seq ?_
    refine t_seq ?_
    refine t_region ?_
    refine r_op (o_move rfl rfl) ?_
    refine r_op (o_move rfl rfl) ?_
    refine r_end ?_
    refine t_block ?_
    refine gt_nilb 2 (b := 1) (o := 0) (et := 3) (sz := 1) true encI rfl rfl rfl ?_
    refine t_loopL (fun m => ⟨[(2, some (.c (.ptr 0 0))), (3, some (.c (.ptr 1 0))), (10, some (.c (.t none (.v (.int .i64 (n)))))), (11, some (.c (.t none (.v (.int .i64 ((m : Int)))))))], [(0, some (.box [.t none (.v (.slice none 0 0))])), (1, some (.box [.own 2])), (2, some (.row none 3 true 1 encI (nulU m)))], 3⟩ : Nat → St) (fun m => (m : Int) ≤ n ∧ (0 ≤ n ∧ n ≤ 40)) (fun m => 40 - m) 0 ⟨⟨rfl, ⟨rfl, ⟨rfl, ⟨rfl, trivial⟩⟩⟩⟩, ⟨rfl, ⟨rfl, ⟨rfl, trivial⟩⟩⟩, rfl⟩ (by omega) ?_
    rintro m hI ih0
    try dsimp only at hI ih0
    obtain ⟨i1, i3⟩ := hI; have nl := nulU_len m
    refine t_seq ?_
    refine t_region ?_
    refine r_op (o_bin rfl rfl rfl rfl) ?_
    refine r_end ?_
    refine t_seq ?_
    refine t_cond rfl (fun h2 => ?_) (fun h2 => ?_)
    ·
      have h2' := of_decide_eq_true h2
      refine t_skip ?_
      refine t_seq ?_
      refine t_block ?_
      refine t_seq ?_
      refine t_region ?_
      refine r_op (o_move rfl rfl) ?_
      refine r_op (o_assign rfl rfl) ?_
      refine r_end ?_
      refine t_draw (fun i => !(Nat.beq i 5 || Nat.beq i 7)) (by kernel_rfl) ?_
      refine d_take 0 rfl rfl (by kernel_rfl) (by kernel_rfl) (by kernel_rfl) (p_fieldb (off := 0) (by kernel_rfl) rfl) ?_
      refine d_take 1 rfl rfl (by kernel_rfl) (by kernel_rfl) (by kernel_rfl) (p_load1b (by kernel_rfl) rfl rfl rfl) ?_
      refine d_take 2 rfl rfl (by kernel_rfl) (by kernel_rfl) (by kernel_rfl) (p_move rfl) ?_
      refine d_only 3 rfl (by kernel_rfl) rfl (o_call 3 3 false (Go.Proofs.enters_of Try.func11 (by kernel_rfl) rfl) (c_impl_NullValue ((m : Int)) (by first | omega | (simp; omega))) rfl (.cons rfl (.c .t0) .nil) rfl rfl rfl) ?_
      refine d_only 4 rfl (by kernel_rfl) rfl (o_litS 3 (e := 3) (sz := 1) (zs := [.int .i64 (0)]) rfl rfl (by kernel_rfl) rfl rfl rfl rfl rfl) ?_
      refine d_only 5 rfl (by kernel_rfl) rfl (o_append 2 (e := 3) (sz := 1) (by' := 8) (-1 - ((m : Int))) rfl (by kernel_rfl) rfl rfl rfl rfl rfl rfl (.cons .sc .nil) rfl (by first | omega | (simp; omega)) (by first | omega | (simp; omega))) ?_
      refine d_take 6 rfl rfl (by kernel_rfl) (by kernel_rfl) (by kernel_rfl) (p_fieldb (off := 0) (by kernel_rfl) rfl) ?_
      refine d_only 7 rfl (by kernel_rfl) rfl (o_storeb (n := 1) (by kernel_rfl) rfl rfl rfl rfl rfl rfl) ?_
      refine d_end (by kernel_rfl) ?_
      refine t_endblock ?_
      refine t_region ?_
      refine r_op (o_bin rfl rfl rfl rfl) ?_
      refine r_op (o_move rfl rfl) ?_
      refine r_end ?_
      refine t_le ?_ (ih0 (m + 1) (by (try dsimp only); omega) (by (try dsimp only); omega))
      exact ⟨⟨rfl, ⟨rfl, ⟨rfl, ⟨(eqI (wr64 (by omega) (by omega))), trivial⟩⟩⟩⟩, ⟨rfl, ⟨rfl, ⟨(eqR (nulU_step rfl)), trivial⟩⟩⟩, rfl⟩
    ·
      have h2' := of_decide_eq_false h2
      refine t_exit rfl ?_
      refine t_seq ?_
      refine t_region ?_
      refine r_op (o_loadAb rfl (n := 1) (by kernel_rfl) (by kernel_rfl) rfl rfl rfl) ?_
      refine r_op (o_storeb (n := 1) (by kernel_rfl) rfl rfl rfl rfl rfl rfl) ?_
      refine r_end ?_
      refine t_ret Try.func23 (.cells (n := 1) (by kernel_rfl) (by kernel_rfl) rfl rfl rfl .nil) rfl fun E S w u hI hd => ?_
      refine post_mk hI hd ?_ ⟨eqR ?_, trivial⟩ rfl rfl rfl <;> clear hI hd <;> (try clear ih0)
      all_goals first | rfl | (first | exact newU_no (by omega) | exact newU_end (by omega) (.inl i1) (.inr i3))
set_option maxHeartbeats 1000000 in
set_option maxRecDepth 10000 in
theorem c_laws_FnUnionFind (code : List Int) (hcl : code.length ≤ 9223372036854775807) : Pu Try.prog 4 [.c (.t none (.sl 1 encU (code)))] [] 0 (.c (.t none (.v (.bool (true))))) := by
  refine pu_enter Try.func4 rfl (Nat.le_of_ble_eq_true rfl) fun w S => ?_
  refine t_seq ?_
  refine t_region ?_
  refine r_op (o_assign rfl rfl) ?_
  refine r_end ?_
  refine t_seq ?_
  refine t_seq ?_
  refine t_region ?_
  refine r_op (o_move rfl rfl) ?_
  refine r_op (o_call 0 0 false (Go.Proofs.enters_of Try.func5 (by kernel_rfl) rfl) (c_laws_big (code)) rfl (.cons rfl (.c .t0) .nil) rfl rfl rfl) ?_
  refine r_end ?_
  refine t_cond rfl (fun h1 => ?_) (fun h1 => ?_)
  ·
    have h1' := of_decide_eq_true h1
    refine t_seq ?_
    refine t_region ?_
    refine r_op (o_assign rfl rfl) ?_
    refine r_end ?_
    refine t_ret Try.func4 (.tmp rfl .nil) rfl fun E S w u hI hd => ?_
    refine post_mk hI hd ?_ trivial rfl rfl rfl <;> clear hI hd <;> (try clear ih0)
    all_goals first | rfl | (first | rfl | (exfalso; clear KV KO; grind) | (refine scB ?_; clear KV KO; grind))
  ·
    have h1' := of_decide_eq_false h1
    refine t_skip ?_
    refine t_seq ?_
    refine t_region ?_
    refine r_op (o_move rfl rfl) ?_
    refine r_opX (o_callG 0 0 (Go.Proofs.enters_of Try.func14 (by kernel_rfl) rfl) (c_spec_DrawUnion (code) (by first | omega | assumption | (unfold okI; omega) | (rw [uni_len]; omega) | exact (by assumption : okI _).1 | exact (by assumption : okI _).2 | exact KV.1 | exact KV.2 | exact KO)) rfl (.cons rfl (.c .t0) .nil) rfl rfl) ?_
    rintro ⟨⟨us2, a3, b4⟩, hq5⟩
    try dsimp only at hq5
    try dsimp only
    obtain ⟨q6, q7, q8, q9⟩ := hq5
    have KL := uni_len us2 a3 b4; have ka : okI a3 := (by assumption); have kb : okI b4 := (by assumption); have kl : ∀ x ∈ us2, okI x := (by assumption); have KO := uniL_ok (l := us2) (a := a3) (b := b4) kl ka kb; have K1 : uniC us2 a3 b4 ≠ 2 → findU (uniL us2 a3 b4) a3 = findU (uniL us2 a3 b4) b4 := uni_ab; have K2 : uniC us2 a3 b4 ≠ 2 → ufOk (uniL us2 a3 b4) = true := uni_ok; have K3 : uniC us2 a3 b4 ≠ 2 → ((uniC us2 a3 b4 = 0) ↔ findU us2 a3 = findU us2 b4) := uni_zero; have K4 : ∀ v, uniC us2 a3 b4 ≠ 2 → v < 0 → -((us2.length : Nat) : Int) ≤ v → (findU us2 v = findU us2 a3 → findU (uniL us2 a3 b4) v = findU (uniL us2 a3 b4) a3) ∧ (0 ≤ findU us2 v → findU (uniL us2 a3 b4) v = findU us2 v) := fun v h h1 h2 => uni_v h h1 h2 (by omega); have K5 : uniC us2 a3 b4 ≠ 2 → subOk (usN' (uniL us2 a3 b4)) (usV' (uniL us2 a3 b4)) = true := fun h => us_sub (K2 h); have K6 : uniC us2 a3 b4 ≠ 2 → appV (usN' (uniL us2 a3 b4)) (usV' (uniL us2 a3 b4)) a3 = findU (uniL us2 a3 b4) a3 := fun h => us_app (K2 h) a3; have K7 : uniC us2 a3 b4 ≠ 1 → us2 = uniL us2 a3 b4 := fun h => uniL_keep rfl h; have K8 : ufOk us2 = false → uniC us2 a3 b4 = 2 := fun h => uniC_bad (.inl h); have KS := us_len' (uniL us2 a3 b4); have K9 := newU_len' (n := 3) (by omega); have KV : (∀ x ∈ usN' (uniL us2 a3 b4), okI x) ∧ ∀ x ∈ usV' (uniL us2 a3 b4), okI x := us_ok _ KO (by omega)
    refine r_op (o_move rfl rfl) ?_
    refine r_op (o_extract rfl rfl rfl rfl) ?_
    refine r_op (o_extract rfl rfl rfl rfl) ?_
    refine r_op (o_extract rfl rfl rfl rfl) ?_
    refine r_op (o_alloc 0 (zs := [.slice none 0 0]) rfl rfl (by kernel_rfl) rfl) ?_
    refine r_op (o_storeb (n := 1) (by kernel_rfl) rfl rfl rfl rfl rfl rfl) ?_
    refine r_op (o_assign rfl rfl) ?_
    refine r_op (o_assign rfl rfl) ?_
    refine r_end ?_
    refine t_seq ?_
    refine t_region ?_
    refine r_op (o_loadAb rfl (n := 1) (by kernel_rfl) (by kernel_rfl) rfl rfl rfl) ?_
    refine r_op (o_move rfl rfl) ?_
    refine r_op (o_move rfl rfl) ?_
    refine r_op (o_call 1 4 false (Go.Proofs.enters_of Try.func15 (by kernel_rfl) rfl) (c_impl_Union ((us2)) ((a3)) ((b4)) (by first | omega | assumption | (unfold okI; omega) | (rw [uni_len]; omega) | exact (by assumption : okI _).1 | exact (by assumption : okI _).2 | exact KV.1 | exact KV.2 | exact KO) (by first | omega | assumption | (unfold okI; omega) | (rw [uni_len]; omega) | exact (by assumption : okI _).1 | exact (by assumption : okI _).2 | exact KV.1 | exact KV.2 | exact KO) (by first | omega | assumption | (unfold okI; omega) | (rw [uni_len]; omega) | exact (by assumption : okI _).1 | exact (by assumption : okI _).2 | exact KV.1 | exact KV.2 | exact KO) (by first | omega | assumption | (unfold okI; omega) | (rw [uni_len]; omega) | exact (by assumption : okI _).1 | exact (by assumption : okI _).2 | exact KV.1 | exact KV.2 | exact KO)) rfl (.cons rfl (.agg (.cons .t0 .nil)) (.cons rfl (.c .t0) (.cons rfl (.c .t0) .nil))) rfl rfl rfl) ?_
    refine r_op (o_move rfl rfl) ?_
    refine r_op (o_extract rfl rfl rfl rfl) ?_
    refine r_op (o_extract rfl rfl rfl rfl) ?_
    refine r_op (o_alloc 4 (zs := [.slice none 0 0]) rfl rfl (by kernel_rfl) rfl) ?_
    refine r_op (o_storeb (n := 1) (by kernel_rfl) rfl rfl rfl rfl rfl rfl) ?_
    refine r_op (o_assign rfl rfl) ?_
    refine r_end ?_
    refine t_seq ?_
    refine t_region ?_
    refine r_op (o_loadAb rfl (n := 1) (by kernel_rfl) (by kernel_rfl) rfl rfl rfl) ?_
    refine r_op (o_move rfl rfl) ?_
    refine r_op (o_move rfl rfl) ?_
    refine r_op (o_call 5 8 false (Go.Proofs.enters_of Try.func16 (by kernel_rfl) rfl) (c_spec_Union ((us2)) ((a3)) ((b4)) (by first | omega | assumption | (unfold okI; omega) | (rw [uni_len]; omega) | exact (by assumption : okI _).1 | exact (by assumption : okI _).2 | exact KV.1 | exact KV.2 | exact KO) (by first | omega | assumption | (unfold okI; omega) | (rw [uni_len]; omega) | exact (by assumption : okI _).1 | exact (by assumption : okI _).2 | exact KV.1 | exact KV.2 | exact KO) (by first | omega | assumption | (unfold okI; omega) | (rw [uni_len]; omega) | exact (by assumption : okI _).1 | exact (by assumption : okI _).2 | exact KV.1 | exact KV.2 | exact KO) (by first | omega | assumption | (unfold okI; omega) | (rw [uni_len]; omega) | exact (by assumption : okI _).1 | exact (by assumption : okI _).2 | exact KV.1 | exact KV.2 | exact KO)) rfl (.cons rfl (.agg (.cons .t0 .nil)) (.cons rfl (.c .t0) (.cons rfl (.c .t0) .nil))) rfl rfl rfl) ?_
    refine r_op (o_move rfl rfl) ?_
    refine r_op (o_extract rfl rfl rfl rfl) ?_
    refine r_op (o_extract rfl rfl rfl rfl) ?_
    refine r_op (o_alloc 8 (zs := [.slice none 0 0]) rfl rfl (by kernel_rfl) rfl) ?_
    refine r_op (o_storeb (n := 1) (by kernel_rfl) rfl rfl rfl rfl rfl rfl) ?_
    refine r_op (o_assign rfl rfl) ?_
    refine r_end ?_
    refine t_seq ?_
    refine t_seq ?_
    refine t_draw (fun _ => true) (by kernel_rfl) ?_
    refine d_take 0 rfl rfl (by kernel_rfl) (by kernel_rfl) (by kernel_rfl) (p_move rfl) ?_
    refine d_take 1 rfl rfl (by kernel_rfl) (by kernel_rfl) (by kernel_rfl) (p_move rfl) ?_
    refine d_take 2 rfl rfl (by kernel_rfl) (by kernel_rfl) (by kernel_rfl) (p_bin rfl rfl rfl) ?_
    refine d_take 3 rfl rfl (by kernel_rfl) (by kernel_rfl) (by kernel_rfl) (p_move rfl) ?_
    refine d_guard 4 rfl rfl (by kernel_rfl) (by kernel_rfl) (by kernel_rfl) rfl rfl (fun _ => p_loadAb (n := 1) (by kernel_rfl) (by kernel_rfl) rfl rfl rfl) (fun g10 => ?_) (fun g10 => ?_)
    ·
      have g10' := of_decide_eq_false g10
      refine d_guard 5 rfl rfl (by kernel_rfl) (by kernel_rfl) (by kernel_rfl) rfl rfl (fun _ => p_loadAb (n := 1) (by kernel_rfl) (by kernel_rfl) rfl rfl rfl) (fun _ => ?_) (ncf g10)
      refine d_onlyG 6 rfl rfl (by kernel_rfl) rfl rfl rfl (fun _ => (o_call 9 9 false (Go.Proofs.enters_of Try.func17 (by kernel_rfl) rfl) (c_spec_EqualUnionFinds (uniL ((us2)) ((a3)) ((b4))) (uniL ((us2)) ((a3)) ((b4))) (by first | omega | assumption | (unfold okI; omega) | (rw [uni_len]; omega) | exact (by assumption : okI _).1 | exact (by assumption : okI _).2 | exact KV.1 | exact KV.2 | exact KO) (by first | omega | assumption | (unfold okI; omega) | (rw [uni_len]; omega) | exact (by assumption : okI _).1 | exact (by assumption : okI _).2 | exact KV.1 | exact KV.2 | exact KO)) rfl (.cons rfl (.agg (.cons (.own rfl) .nil)) (.cons rfl (.agg (.cons (.own rfl) .nil)) .nil)) rfl rfl rfl)) (fun _ => ?_) (ncf g10)
      refine d_guard 7 rfl rfl (by kernel_rfl) (by kernel_rfl) (by kernel_rfl) rfl rfl (fun _ => p_not rfl) (fun _ => ?_) (ncf g10)
      refine d_take 8 rfl rfl (by kernel_rfl) (by kernel_rfl) (by kernel_rfl) (p_pickF rfl g10 rfl) ?_
      refine d_take 9 rfl rfl (by kernel_rfl) (by kernel_rfl) (by kernel_rfl) (p_move rfl) ?_
      refine d_guard 10 rfl rfl (by kernel_rfl) (by kernel_rfl) (by kernel_rfl) rfl rfl (fun _ => p_loadAb (n := 1) (by kernel_rfl) (by kernel_rfl) rfl rfl rfl) (fun g11 => ?_) (fun g11 => ?_)
      ·
        have g11' := of_decide_eq_true (bnf g11)
        refine d_guard 11 rfl rfl (by kernel_rfl) (by kernel_rfl) (by kernel_rfl) rfl rfl (fun _ => p_loadAb (n := 1) (by kernel_rfl) (by kernel_rfl) rfl rfl rfl) (fun _ => ?_) (ncf g11)
        refine d_onlyG 12 rfl rfl (by kernel_rfl) rfl rfl rfl (fun _ => (o_call 9 9 false (Go.Proofs.enters_of Try.func18 (by kernel_rfl) rfl) (c_impl_EqualUnionFinds (uniL ((us2)) ((a3)) ((b4))) (uniL ((us2)) ((a3)) ((b4))) (by first | omega | assumption | (unfold okI; omega) | (rw [uni_len]; omega) | exact (by assumption : okI _).1 | exact (by assumption : okI _).2 | exact KV.1 | exact KV.2 | exact KO) (by first | omega | assumption | (unfold okI; omega) | (rw [uni_len]; omega) | exact (by assumption : okI _).1 | exact (by assumption : okI _).2 | exact KV.1 | exact KV.2 | exact KO)) rfl (.cons rfl (.agg (.cons (.own rfl) .nil)) (.cons rfl (.agg (.cons (.own rfl) .nil)) .nil)) rfl rfl rfl)) (fun _ => ?_) (ncf g11)
        refine d_guard 13 rfl rfl (by kernel_rfl) (by kernel_rfl) (by kernel_rfl) rfl rfl (fun _ => p_not rfl) (fun _ => ?_) (ncf g11)
        refine d_take 14 rfl rfl (by kernel_rfl) (by kernel_rfl) (by kernel_rfl) (p_pickF rfl g11 rfl) ?_
        refine d_take 15 rfl rfl (by kernel_rfl) (by kernel_rfl) (by kernel_rfl) (p_move rfl) ?_
        refine d_guard 16 rfl rfl (by kernel_rfl) (by kernel_rfl) (by kernel_rfl) rfl rfl (fun _ => p_loadAb (n := 1) (by kernel_rfl) (by kernel_rfl) rfl rfl rfl) (fun g12 => ?_) (fun g12 => ?_)
        ·
          have g12' := of_decide_eq_true (bnf g12)
          refine d_guard 18 rfl rfl (by kernel_rfl) (by kernel_rfl) (by kernel_rfl) rfl rfl (fun _ => p_loadAb (n := 1) (by kernel_rfl) (by kernel_rfl) rfl rfl rfl) (fun _ => ?_) (ncf g12)
          refine d_onlyG 17 rfl rfl (by kernel_rfl) rfl rfl rfl (fun _ => (o_call 9 9 false (Go.Proofs.enters_of Try.func19 (by kernel_rfl) rfl) (c_impl_IsValidUnionFind ((us2)) (by first | omega | assumption | (unfold okI; omega) | (rw [uni_len]; omega) | exact (by assumption : okI _).1 | exact (by assumption : okI _).2 | exact KV.1 | exact KV.2 | exact KO) (by first | omega | assumption | (unfold okI; omega) | (rw [uni_len]; omega) | exact (by assumption : okI _).1 | exact (by assumption : okI _).2 | exact KV.1 | exact KV.2 | exact KO)) rfl (.cons rfl (.agg (.cons .t0 .nil)) .nil) rfl rfl rfl)) (fun _ => ?_) (ncf g12)
          refine d_onlyG 19 rfl rfl (by kernel_rfl) rfl rfl rfl (fun _ => (o_call 9 9 false (Go.Proofs.enters_of Try.func12 (by kernel_rfl) rfl) (c_spec_IsValidUnionFind ((us2)) (by first | omega | assumption | (unfold okI; omega) | (rw [uni_len]; omega) | exact (by assumption : okI _).1 | exact (by assumption : okI _).2 | exact KV.1 | exact KV.2 | exact KO) (by first | omega | assumption | (unfold okI; omega) | (rw [uni_len]; omega) | exact (by assumption : okI _).1 | exact (by assumption : okI _).2 | exact KV.1 | exact KV.2 | exact KO)) rfl (.cons rfl (.agg (.cons .t0 .nil)) .nil) rfl rfl rfl)) (fun _ => ?_) (ncf g12)
          refine d_guard 20 rfl rfl (by kernel_rfl) (by kernel_rfl) (by kernel_rfl) rfl rfl (fun _ => p_neB Try.underlying4 rfl rfl) (fun _ => ?_) (ncf g12)
          refine d_take 21 rfl rfl (by kernel_rfl) (by kernel_rfl) (by kernel_rfl) (p_pickF rfl g12 rfl) ?_
          refine d_end (by kernel_rfl) ?_
          refine t_cond rfl (fun h13 => ?_) (fun h13 => ?_)
          ·
            have h13' := h13
            refine t_seq ?_
            refine t_region ?_
            refine r_op (o_assign rfl rfl) ?_
            refine r_end ?_
            refine t_ret Try.func4 (.tmp rfl .nil) rfl fun E S w u hI hd => ?_
            refine post_mk hI hd ?_ trivial rfl rfl rfl <;> clear hI hd <;> (try clear ih0)
            all_goals first | rfl | (first | rfl | (exfalso; clear KV KO; grind) | (refine scB ?_; clear KV KO; grind))
          ·
            have h13' := h13
            refine t_skip ?_
            refine t_seq ?_
            refine t_seq ?_
            refine t_region ?_
            refine r_op (o_loadAb rfl (n := 1) (by kernel_rfl) (by kernel_rfl) rfl rfl rfl) ?_
            refine r_op (o_call 9 9 false (Go.Proofs.enters_of Try.func12 (by kernel_rfl) rfl) (c_spec_IsValidUnionFind ((us2)) (by first | omega | assumption | (unfold okI; omega) | (rw [uni_len]; omega) | exact (by assumption : okI _).1 | exact (by assumption : okI _).2 | exact KV.1 | exact KV.2 | exact KO) (by first | omega | assumption | (unfold okI; omega) | (rw [uni_len]; omega) | exact (by assumption : okI _).1 | exact (by assumption : okI _).2 | exact KV.1 | exact KV.2 | exact KO)) rfl (.cons rfl (.agg (.cons .t0 .nil)) .nil) rfl rfl rfl) ?_
            refine r_op (o_not rfl rfl) ?_
            refine r_op (o_move rfl rfl) ?_
            refine r_guard rfl rfl rfl (fun g14 => ?_) (fun g14 => ?_)
            ·
              have g14' := (bnf g14)
              refine r_op (o_move rfl rfl) ?_
              refine r_guard rfl rfl rfl (fun _ => ?_) (ncf g14)
              refine r_op (o_bin rfl rfl rfl rfl) ?_
              refine r_op (o_pickF rfl rfl g14 rfl) ?_
              refine r_end ?_
              refine t_cond rfl (fun h15 => ?_) (fun h15 => ?_)
              ·
                have h15' := of_decide_eq_true h15
                refine t_seq ?_
                refine t_region ?_
                refine r_op (o_loadAb rfl (n := 1) (by kernel_rfl) (by kernel_rfl) rfl rfl rfl) ?_
                refine r_op (o_loadAb rfl (n := 1) (by kernel_rfl) (by kernel_rfl) rfl rfl rfl) ?_
                refine r_op (o_call 9 9 false (Go.Proofs.enters_of Try.func17 (by kernel_rfl) rfl) (c_spec_EqualUnionFinds (uniL ((us2)) ((a3)) ((b4))) ((us2)) (by first | omega | assumption | (unfold okI; omega) | (rw [uni_len]; omega) | exact (by assumption : okI _).1 | exact (by assumption : okI _).2 | exact KV.1 | exact KV.2 | exact KO) (by first | omega | assumption | (unfold okI; omega) | (rw [uni_len]; omega) | exact (by assumption : okI _).1 | exact (by assumption : okI _).2 | exact KV.1 | exact KV.2 | exact KO)) rfl (.cons rfl (.agg (.cons (.own rfl) .nil)) (.cons rfl (.agg (.cons .t0 .nil)) .nil)) rfl rfl rfl) ?_
                refine r_op (o_assign rfl rfl) ?_
                refine r_end ?_
                refine t_ret Try.func4 (.tmp rfl .nil) rfl fun E S w u hI hd => ?_
                refine post_mk hI hd ?_ trivial rfl rfl rfl <;> clear hI hd <;> (try clear ih0)
                all_goals first | rfl | (first | rfl | (exfalso; clear KV KO; grind) | (refine scB ?_; clear KV KO; grind))
              ·
                have h15' := of_decide_eq_false h15
                refine t_skip ?_
                refine t_seq ?_
                refine t_seq ?_
                refine t_draw (fun _ => true) (by kernel_rfl) ?_
                refine d_take 0 rfl rfl (by kernel_rfl) (by kernel_rfl) (by kernel_rfl) (p_loadAb (n := 1) (by kernel_rfl) (by kernel_rfl) rfl rfl rfl) ?_
                refine d_take 1 rfl rfl (by kernel_rfl) (by kernel_rfl) (by kernel_rfl) (p_move rfl) ?_
                refine d_take 3 rfl rfl (by kernel_rfl) (by kernel_rfl) (by kernel_rfl) (p_loadAb (n := 1) (by kernel_rfl) (by kernel_rfl) rfl rfl rfl) ?_
                refine d_take 4 rfl rfl (by kernel_rfl) (by kernel_rfl) (by kernel_rfl) (p_move rfl) ?_
                refine d_only 2 rfl (by kernel_rfl) rfl (o_call 9 9 false (Go.Proofs.enters_of Try.func10 (by kernel_rfl) rfl) (c_impl_Find (uniL ((us2)) ((a3)) ((b4))) ((a3)) (by first | omega | assumption | (unfold okI; omega) | (rw [uni_len]; omega) | exact (by assumption : okI _).1 | exact (by assumption : okI _).2 | exact KV.1 | exact KV.2 | exact KO) (by first | omega | assumption | (unfold okI; omega) | (rw [uni_len]; omega) | exact (by assumption : okI _).1 | exact (by assumption : okI _).2 | exact KV.1 | exact KV.2 | exact KO) (by first | omega | assumption | (unfold okI; omega) | (rw [uni_len]; omega) | exact (by assumption : okI _).1 | exact (by assumption : okI _).2 | exact KV.1 | exact KV.2 | exact KO)) rfl (.cons rfl (.agg (.cons (.own rfl) .nil)) (.cons rfl (.c .t0) .nil)) rfl rfl rfl) ?_
                refine d_only 5 rfl (by kernel_rfl) rfl (o_call 9 9 false (Go.Proofs.enters_of Try.func10 (by kernel_rfl) rfl) (c_impl_Find (uniL ((us2)) ((a3)) ((b4))) ((b4)) (by first | omega | assumption | (unfold okI; omega) | (rw [uni_len]; omega) | exact (by assumption : okI _).1 | exact (by assumption : okI _).2 | exact KV.1 | exact KV.2 | exact KO) (by first | omega | assumption | (unfold okI; omega) | (rw [uni_len]; omega) | exact (by assumption : okI _).1 | exact (by assumption : okI _).2 | exact KV.1 | exact KV.2 | exact KO) (by first | omega | assumption | (unfold okI; omega) | (rw [uni_len]; omega) | exact (by assumption : okI _).1 | exact (by assumption : okI _).2 | exact KV.1 | exact KV.2 | exact KO)) rfl (.cons rfl (.agg (.cons (.own rfl) .nil)) (.cons rfl (.c .t0) .nil)) rfl rfl rfl) ?_
                refine d_take 6 rfl rfl (by kernel_rfl) (by kernel_rfl) (by kernel_rfl) (p_bin rfl rfl rfl) ?_
                refine d_take 7 rfl rfl (by kernel_rfl) (by kernel_rfl) (by kernel_rfl) (p_move rfl) ?_
                refine d_guard 8 rfl rfl (by kernel_rfl) (by kernel_rfl) (by kernel_rfl) rfl rfl (fun _ => p_loadAb (n := 1) (by kernel_rfl) (by kernel_rfl) rfl rfl rfl) (fun g16 => ?_) (fun g16 => ?_)
                ·
                  have g16' := of_decide_eq_false g16
                  refine d_onlyG 9 rfl rfl (by kernel_rfl) rfl rfl rfl (fun _ => (o_call 9 9 false (Go.Proofs.enters_of Try.func19 (by kernel_rfl) rfl) (c_impl_IsValidUnionFind (uniL ((us2)) ((a3)) ((b4))) (by first | omega | assumption | (unfold okI; omega) | (rw [uni_len]; omega) | exact (by assumption : okI _).1 | exact (by assumption : okI _).2 | exact KV.1 | exact KV.2 | exact KO) (by first | omega | assumption | (unfold okI; omega) | (rw [uni_len]; omega) | exact (by assumption : okI _).1 | exact (by assumption : okI _).2 | exact KV.1 | exact KV.2 | exact KO)) rfl (.cons rfl (.agg (.cons (.own rfl) .nil)) .nil) rfl rfl rfl)) (fun _ => ?_) (ncf g16)
                  refine d_guard 10 rfl rfl (by kernel_rfl) (by kernel_rfl) (by kernel_rfl) rfl rfl (fun _ => p_not rfl) (fun _ => ?_) (ncf g16)
                  refine d_take 11 rfl rfl (by kernel_rfl) (by kernel_rfl) (by kernel_rfl) (p_pickF rfl g16 rfl) ?_
                  refine d_take 12 rfl rfl (by kernel_rfl) (by kernel_rfl) (by kernel_rfl) (p_move rfl) ?_
                  refine d_guard 13 rfl rfl (by kernel_rfl) (by kernel_rfl) (by kernel_rfl) rfl rfl (fun _ => p_move rfl) (fun g17 => ?_) (fun g17 => ?_)
                  ·
                    have g17' := (bnf g17)
                    refine d_guard 14 rfl rfl (by kernel_rfl) (by kernel_rfl) (by kernel_rfl) rfl rfl (fun _ => p_bin rfl rfl rfl) (fun _ => ?_) (ncf g17)
                    refine d_guard 15 rfl rfl (by kernel_rfl) (by kernel_rfl) (by kernel_rfl) rfl rfl (fun _ => p_loadAb (n := 1) (by kernel_rfl) (by kernel_rfl) rfl rfl rfl) (fun _ => ?_) (ncf g17)
                    refine d_guard 16 rfl rfl (by kernel_rfl) (by kernel_rfl) (by kernel_rfl) rfl rfl (fun _ => p_move rfl) (fun _ => ?_) (ncf g17)
                    refine d_guard 18 rfl rfl (by kernel_rfl) (by kernel_rfl) (by kernel_rfl) rfl rfl (fun _ => p_loadAb (n := 1) (by kernel_rfl) (by kernel_rfl) rfl rfl rfl) (fun _ => ?_) (ncf g17)
                    refine d_guard 19 rfl rfl (by kernel_rfl) (by kernel_rfl) (by kernel_rfl) rfl rfl (fun _ => p_move rfl) (fun _ => ?_) (ncf g17)
                    refine d_onlyG 17 rfl rfl (by kernel_rfl) rfl rfl rfl (fun _ => (o_call 9 9 false (Go.Proofs.enters_of Try.func20 (by kernel_rfl) rfl) (c_spec_Find ((us2)) ((a3)) (by first | omega | assumption | (unfold okI; omega) | (rw [uni_len]; omega) | exact (by assumption : okI _).1 | exact (by assumption : okI _).2 | exact KV.1 | exact KV.2 | exact KO) (by first | omega | assumption | (unfold okI; omega) | (rw [uni_len]; omega) | exact (by assumption : okI _).1 | exact (by assumption : okI _).2 | exact KV.1 | exact KV.2 | exact KO) (by first | omega | assumption | (unfold okI; omega) | (rw [uni_len]; omega) | exact (by assumption : okI _).1 | exact (by assumption : okI _).2 | exact KV.1 | exact KV.2 | exact KO)) rfl (.cons rfl (.agg (.cons .t0 .nil)) (.cons rfl (.c .t0) .nil)) rfl rfl rfl)) (fun _ => ?_) (ncf g17)
                    refine d_onlyG 20 rfl rfl (by kernel_rfl) rfl rfl rfl (fun _ => (o_call 9 9 false (Go.Proofs.enters_of Try.func20 (by kernel_rfl) rfl) (c_spec_Find ((us2)) ((b4)) (by first | omega | assumption | (unfold okI; omega) | (rw [uni_len]; omega) | exact (by assumption : okI _).1 | exact (by assumption : okI _).2 | exact KV.1 | exact KV.2 | exact KO) (by first | omega | assumption | (unfold okI; omega) | (rw [uni_len]; omega) | exact (by assumption : okI _).1 | exact (by assumption : okI _).2 | exact KV.1 | exact KV.2 | exact KO) (by first | omega | assumption | (unfold okI; omega) | (rw [uni_len]; omega) | exact (by assumption : okI _).1 | exact (by assumption : okI _).2 | exact KV.1 | exact KV.2 | exact KO)) rfl (.cons rfl (.agg (.cons .t0 .nil)) (.cons rfl (.c .t0) .nil)) rfl rfl rfl)) (fun _ => ?_) (ncf g17)
                    refine d_guard 21 rfl rfl (by kernel_rfl) (by kernel_rfl) (by kernel_rfl) rfl rfl (fun _ => p_bin rfl rfl rfl) (fun _ => ?_) (ncf g17)
                    refine d_guard 22 rfl rfl (by kernel_rfl) (by kernel_rfl) (by kernel_rfl) rfl rfl (fun _ => p_neB Try.underlying4 rfl rfl) (fun _ => ?_) (ncf g17)
                    refine d_take 23 rfl rfl (by kernel_rfl) (by kernel_rfl) (by kernel_rfl) (p_pickF rfl g17 rfl) ?_
                    refine d_end (by kernel_rfl) ?_
                    refine t_cond rfl (fun h18 => ?_) (fun h18 => ?_)
                    ·
                      have h18' := h18
                      try simp only [decide_eq_true_eq, decide_eq_false_iff_not, Bool.not_eq_true', Bool.not_eq_false', Bool.not_false, Bool.not_true] at h18'
                      refine t_seq ?_
                      refine t_region ?_
                      refine r_op (o_assign rfl rfl) ?_
                      refine r_end ?_
                      refine t_ret Try.func4 (.tmp rfl .nil) rfl fun E S w u hI hd => ?_
                      refine post_mk hI hd ?_ trivial rfl rfl rfl <;> clear hI hd <;> (try clear ih0)
                      all_goals first | rfl | (first | rfl | (exfalso; clear KV KO; grind) | (refine scB ?_; clear KV KO; grind))
                    ·
                      have h18' := h18
                      try simp only [decide_eq_true_eq, decide_eq_false_iff_not, Bool.not_eq_true', Bool.not_eq_false', Bool.not_false, Bool.not_true] at h18'
                      refine t_skip ?_
                      refine t_seq ?_
                      refine t_seq ?_
                      refine t_region ?_
                      refine r_op (o_fieldb rfl (off := 0) (by kernel_rfl) rfl) ?_
                      refine r_op (o_load1b rfl (by kernel_rfl) rfl rfl rfl) ?_
                      refine r_op (o_len rfl rfl rfl) ?_
                      refine r_op (o_neg rfl rfl) ?_
                      refine r_op (o_assign rfl rfl) ?_
                      refine r_end ?_
                      refine t_block ?_
                      refine t_loopL (fun v => ⟨[(3, some (.c (.ptr 0 0))), (4, some (.c (.t none (.v (.int .i64 ((a3))))))), (6, some (.c (.ptr 4 0))), (10, some (.c (.t none (.v (.int .i64 (v))))))], [(0, some (.box [.t none (.sl 1 encI ((us2)))])), (3, some (.row none 3 true 1 encI (uniL ((us2)) ((a3)) ((b4))))), (4, some (.box [.own 3])), (7, some (.row none 3 true 1 encI (uniL ((us2)) ((a3)) ((b4))))), (8, some (.box [.own 7]))], 9⟩ : Int → St) (fun v => -((us2.length : Nat) : Int) ≤ v ∧ v ≤ 0) (fun v => (-v).toNat) (-((us2.length : Nat) : Int)) ⟨⟨rfl, ⟨rfl, ⟨rfl, ⟨(eqI (by rw [wr64 (by omega) (by omega)]; omega)), trivial⟩⟩⟩⟩, ⟨rfl, ⟨rfl, ⟨rfl, ⟨rfl, ⟨rfl, trivial⟩⟩⟩⟩⟩, rfl⟩ (by omega) ?_
                      rintro v hI ih0
                      try dsimp only at hI ih0
                      obtain ⟨i1, i2⟩ := hI
                      refine t_seq ?_
                      refine t_seq ?_
                      refine t_region ?_
                      refine r_op (o_move rfl rfl) ?_
                      refine r_op (o_bin rfl rfl rfl rfl) ?_
                      refine r_end ?_
                      refine t_cond rfl (fun h19 => ?_) (fun h19 => ?_)
                      ·
                        have h19' := of_decide_eq_true h19
                        refine t_skip ?_
                        refine t_seq ?_
                        refine t_block ?_
                        refine t_seq ?_
                        refine t_draw (fun _ => true) (by kernel_rfl) ?_
                        refine d_take 0 rfl rfl (by kernel_rfl) (by kernel_rfl) (by kernel_rfl) (p_loadAb (n := 1) (by kernel_rfl) (by kernel_rfl) rfl rfl rfl) ?_
                        refine d_take 1 rfl rfl (by kernel_rfl) (by kernel_rfl) (by kernel_rfl) (p_move rfl) ?_
                        refine d_take 3 rfl rfl (by kernel_rfl) (by kernel_rfl) (by kernel_rfl) (p_loadAb (n := 1) (by kernel_rfl) (by kernel_rfl) rfl rfl rfl) ?_
                        refine d_take 4 rfl rfl (by kernel_rfl) (by kernel_rfl) (by kernel_rfl) (p_move rfl) ?_
                        refine d_only 2 rfl (by kernel_rfl) rfl (o_call 9 9 false (Go.Proofs.enters_of Try.func20 (by kernel_rfl) rfl) (c_spec_Find ((us2)) (v) (by first | omega | assumption | (unfold okI; omega) | (rw [uni_len]; omega) | exact (by assumption : okI _).1 | exact (by assumption : okI _).2 | exact KV.1 | exact KV.2 | exact KO) (by first | omega | assumption | (unfold okI; omega) | (rw [uni_len]; omega) | exact (by assumption : okI _).1 | exact (by assumption : okI _).2 | exact KV.1 | exact KV.2 | exact KO) (by first | omega | assumption | (unfold okI; omega) | (rw [uni_len]; omega) | exact (by assumption : okI _).1 | exact (by assumption : okI _).2 | exact KV.1 | exact KV.2 | exact KO)) rfl (.cons rfl (.agg (.cons .t0 .nil)) (.cons rfl (.c .t0) .nil)) rfl rfl rfl) ?_
                        refine d_only 5 rfl (by kernel_rfl) rfl (o_call 9 9 false (Go.Proofs.enters_of Try.func20 (by kernel_rfl) rfl) (c_spec_Find ((us2)) ((a3)) (by first | omega | assumption | (unfold okI; omega) | (rw [uni_len]; omega) | exact (by assumption : okI _).1 | exact (by assumption : okI _).2 | exact KV.1 | exact KV.2 | exact KO) (by first | omega | assumption | (unfold okI; omega) | (rw [uni_len]; omega) | exact (by assumption : okI _).1 | exact (by assumption : okI _).2 | exact KV.1 | exact KV.2 | exact KO) (by first | omega | assumption | (unfold okI; omega) | (rw [uni_len]; omega) | exact (by assumption : okI _).1 | exact (by assumption : okI _).2 | exact KV.1 | exact KV.2 | exact KO)) rfl (.cons rfl (.agg (.cons .t0 .nil)) (.cons rfl (.c .t0) .nil)) rfl rfl rfl) ?_
                        refine d_take 6 rfl rfl (by kernel_rfl) (by kernel_rfl) (by kernel_rfl) (p_bin rfl rfl rfl) ?_
                        refine d_take 7 rfl rfl (by kernel_rfl) (by kernel_rfl) (by kernel_rfl) (p_move rfl) ?_
                        refine d_guard 8 rfl rfl (by kernel_rfl) (by kernel_rfl) (by kernel_rfl) rfl rfl (fun _ => p_loadAb (n := 1) (by kernel_rfl) (by kernel_rfl) rfl rfl rfl) (fun g20 => ?_) (fun g20 => ?_)
                        ·
                          have g20' := of_decide_eq_true g20
                          refine d_guard 9 rfl rfl (by kernel_rfl) (by kernel_rfl) (by kernel_rfl) rfl rfl (fun _ => p_move rfl) (fun _ => ?_) (nc g20)
                          refine d_guard 11 rfl rfl (by kernel_rfl) (by kernel_rfl) (by kernel_rfl) rfl rfl (fun _ => p_loadAb (n := 1) (by kernel_rfl) (by kernel_rfl) rfl rfl rfl) (fun _ => ?_) (nc g20)
                          refine d_guard 12 rfl rfl (by kernel_rfl) (by kernel_rfl) (by kernel_rfl) rfl rfl (fun _ => p_move rfl) (fun _ => ?_) (nc g20)
                          refine d_onlyG 10 rfl rfl (by kernel_rfl) rfl rfl rfl (fun _ => (o_call 9 9 false (Go.Proofs.enters_of Try.func10 (by kernel_rfl) rfl) (c_impl_Find (uniL ((us2)) ((a3)) ((b4))) (v) (by first | omega | assumption | (unfold okI; omega) | (rw [uni_len]; omega) | exact (by assumption : okI _).1 | exact (by assumption : okI _).2 | exact KV.1 | exact KV.2 | exact KO) (by first | omega | assumption | (unfold okI; omega) | (rw [uni_len]; omega) | exact (by assumption : okI _).1 | exact (by assumption : okI _).2 | exact KV.1 | exact KV.2 | exact KO) (by first | omega | assumption | (unfold okI; omega) | (rw [uni_len]; omega) | exact (by assumption : okI _).1 | exact (by assumption : okI _).2 | exact KV.1 | exact KV.2 | exact KO)) rfl (.cons rfl (.agg (.cons (.own rfl) .nil)) (.cons rfl (.c .t0) .nil)) rfl rfl rfl)) (fun _ => ?_) (nc g20)
                          refine d_onlyG 13 rfl rfl (by kernel_rfl) rfl rfl rfl (fun _ => (o_call 9 9 false (Go.Proofs.enters_of Try.func10 (by kernel_rfl) rfl) (c_impl_Find (uniL ((us2)) ((a3)) ((b4))) ((a3)) (by first | omega | assumption | (unfold okI; omega) | (rw [uni_len]; omega) | exact (by assumption : okI _).1 | exact (by assumption : okI _).2 | exact KV.1 | exact KV.2 | exact KO) (by first | omega | assumption | (unfold okI; omega) | (rw [uni_len]; omega) | exact (by assumption : okI _).1 | exact (by assumption : okI _).2 | exact KV.1 | exact KV.2 | exact KO) (by first | omega | assumption | (unfold okI; omega) | (rw [uni_len]; omega) | exact (by assumption : okI _).1 | exact (by assumption : okI _).2 | exact KV.1 | exact KV.2 | exact KO)) rfl (.cons rfl (.agg (.cons (.own rfl) .nil)) (.cons rfl (.c .t0) .nil)) rfl rfl rfl)) (fun _ => ?_) (nc g20)
                          refine d_guard 14 rfl rfl (by kernel_rfl) (by kernel_rfl) (by kernel_rfl) rfl rfl (fun _ => p_bin rfl rfl rfl) (fun _ => ?_) (nc g20)
                          refine d_take 15 rfl rfl (by kernel_rfl) (by kernel_rfl) (by kernel_rfl) (p_pickT rfl g20 rfl) ?_
                          refine d_take 16 rfl rfl (by kernel_rfl) (by kernel_rfl) (by kernel_rfl) (p_move rfl) ?_
                          refine d_guard 17 rfl rfl (by kernel_rfl) (by kernel_rfl) (by kernel_rfl) rfl rfl (fun _ => p_loadAb (n := 1) (by kernel_rfl) (by kernel_rfl) rfl rfl rfl) (fun g21 => ?_) (fun g21 => ?_)
                          ·
                            have g21' := of_decide_eq_false g21
                            refine d_guard 18 rfl rfl (by kernel_rfl) (by kernel_rfl) (by kernel_rfl) rfl rfl (fun _ => p_move rfl) (fun _ => ?_) (ncf g21)
                            refine d_onlyG 19 rfl rfl (by kernel_rfl) rfl rfl rfl (fun _ => (o_call 9 9 false (Go.Proofs.enters_of Try.func20 (by kernel_rfl) rfl) (c_spec_Find ((us2)) (v) (by first | omega | assumption | (unfold okI; omega) | (rw [uni_len]; omega) | exact (by assumption : okI _).1 | exact (by assumption : okI _).2 | exact KV.1 | exact KV.2 | exact KO) (by first | omega | assumption | (unfold okI; omega) | (rw [uni_len]; omega) | exact (by assumption : okI _).1 | exact (by assumption : okI _).2 | exact KV.1 | exact KV.2 | exact KO) (by first | omega | assumption | (unfold okI; omega) | (rw [uni_len]; omega) | exact (by assumption : okI _).1 | exact (by assumption : okI _).2 | exact KV.1 | exact KV.2 | exact KO)) rfl (.cons rfl (.agg (.cons .t0 .nil)) (.cons rfl (.c .t0) .nil)) rfl rfl rfl)) (fun _ => ?_) (ncf g21)
                            refine d_guard 20 rfl rfl (by kernel_rfl) (by kernel_rfl) (by kernel_rfl) rfl rfl (fun _ => p_bin rfl rfl rfl) (fun _ => ?_) (ncf g21)
                            refine d_guard 21 rfl rfl (by kernel_rfl) (by kernel_rfl) (by kernel_rfl) rfl rfl (fun _ => p_move rfl) (fun _ => ?_) (ncf g21)
                            refine d_guard 22 rfl rfl (by kernel_rfl) (by kernel_rfl) (by kernel_rfl) rfl rfl (fun _ => p_loadAb (n := 1) (by kernel_rfl) (by kernel_rfl) rfl rfl rfl) (fun g22 => ?_) (fun g22 => ?_)
                            ·
                              have g22' := of_decide_eq_true g22
                              refine d_guard 23 rfl rfl (by kernel_rfl) (by kernel_rfl) (by kernel_rfl) rfl rfl (fun _ => p_move rfl) (fun _ => ?_) (nc g22)
                              refine d_guard 25 rfl rfl (by kernel_rfl) (by kernel_rfl) (by kernel_rfl) rfl rfl (fun _ => p_loadAb (n := 1) (by kernel_rfl) (by kernel_rfl) rfl rfl rfl) (fun _ => ?_) (nc g22)
                              refine d_guard 26 rfl rfl (by kernel_rfl) (by kernel_rfl) (by kernel_rfl) rfl rfl (fun _ => p_move rfl) (fun _ => ?_) (nc g22)
                              refine d_onlyG 24 rfl rfl (by kernel_rfl) rfl rfl rfl (fun _ => (o_call 9 9 false (Go.Proofs.enters_of Try.func10 (by kernel_rfl) rfl) (c_impl_Find (uniL ((us2)) ((a3)) ((b4))) (v) (by first | omega | assumption | (unfold okI; omega) | (rw [uni_len]; omega) | exact (by assumption : okI _).1 | exact (by assumption : okI _).2 | exact KV.1 | exact KV.2 | exact KO) (by first | omega | assumption | (unfold okI; omega) | (rw [uni_len]; omega) | exact (by assumption : okI _).1 | exact (by assumption : okI _).2 | exact KV.1 | exact KV.2 | exact KO) (by first | omega | assumption | (unfold okI; omega) | (rw [uni_len]; omega) | exact (by assumption : okI _).1 | exact (by assumption : okI _).2 | exact KV.1 | exact KV.2 | exact KO)) rfl (.cons rfl (.agg (.cons (.own rfl) .nil)) (.cons rfl (.c .t0) .nil)) rfl rfl rfl)) (fun _ => ?_) (nc g22)
                              refine d_onlyG 27 rfl rfl (by kernel_rfl) rfl rfl rfl (fun _ => (o_call 9 9 false (Go.Proofs.enters_of Try.func20 (by kernel_rfl) rfl) (c_spec_Find ((us2)) (v) (by first | omega | assumption | (unfold okI; omega) | (rw [uni_len]; omega) | exact (by assumption : okI _).1 | exact (by assumption : okI _).2 | exact KV.1 | exact KV.2 | exact KO) (by first | omega | assumption | (unfold okI; omega) | (rw [uni_len]; omega) | exact (by assumption : okI _).1 | exact (by assumption : okI _).2 | exact KV.1 | exact KV.2 | exact KO) (by first | omega | assumption | (unfold okI; omega) | (rw [uni_len]; omega) | exact (by assumption : okI _).1 | exact (by assumption : okI _).2 | exact KV.1 | exact KV.2 | exact KO)) rfl (.cons rfl (.agg (.cons .t0 .nil)) (.cons rfl (.c .t0) .nil)) rfl rfl rfl)) (fun _ => ?_) (nc g22)
                              refine d_guard 28 rfl rfl (by kernel_rfl) (by kernel_rfl) (by kernel_rfl) rfl rfl (fun _ => p_bin rfl rfl rfl) (fun _ => ?_) (nc g22)
                              refine d_guard 29 rfl rfl (by kernel_rfl) (by kernel_rfl) (by kernel_rfl) rfl rfl (fun _ => p_pickT rfl g22 rfl) (fun _ => ?_) (ncf g21)
                              refine d_take 30 rfl rfl (by kernel_rfl) (by kernel_rfl) (by kernel_rfl) (p_pickF rfl g21 rfl) ?_
                              refine d_end (by kernel_rfl) ?_
                              refine t_cond rfl (fun h23 => ?_) (fun h23 => ?_)
                              ·
                                have h23' := of_decide_eq_true h23
                                refine t_seq ?_
                                refine t_region ?_
                                refine r_op (o_assign rfl rfl) ?_
                                refine r_end ?_
                                refine t_ret Try.func4 (.tmp rfl .nil) rfl fun E S w u hI hd => ?_
                                refine post_mk hI hd ?_ trivial rfl rfl rfl <;> clear hI hd <;> (try clear ih0)
                                all_goals first | rfl | (first | rfl | (exfalso; clear KV KO; grind) | (refine scB ?_; clear KV KO; grind))
                              ·
                                have h23' := of_decide_eq_false h23
                                refine t_skip ?_
                                refine t_endblock ?_
                                refine t_region ?_
                                refine r_op (o_move rfl rfl) ?_
                                refine r_op (o_bin rfl rfl rfl rfl) ?_
                                refine r_op (o_assign rfl rfl) ?_
                                refine r_end ?_
                                refine t_le ?_ (ih0 (v + 1) (by (try dsimp only); omega) (by (try dsimp only); omega))
                                exact ⟨⟨rfl, ⟨rfl, ⟨rfl, ⟨(eqI (wr64 (by omega) (by omega))), trivial⟩⟩⟩⟩, ⟨rfl, ⟨rfl, ⟨rfl, ⟨rfl, ⟨rfl, trivial⟩⟩⟩⟩⟩, rfl⟩
                            ·
                              have g22' := of_decide_eq_false g22
                              refine d_guard 23 rfl rfl (by kernel_rfl) (by kernel_rfl) (by kernel_rfl) rfl rfl (v := .c .top) (ncf g22) (ncf g22) (fun _ => ?_)
                              refine d_guard 24 rfl rfl (by kernel_rfl) (by kernel_rfl) (by kernel_rfl) rfl rfl (v := .c .top) (ncf g22) (ncf g22) (fun _ => ?_)
                              refine d_guard 25 rfl rfl (by kernel_rfl) (by kernel_rfl) (by kernel_rfl) rfl rfl (v := .c .top) (ncf g22) (ncf g22) (fun _ => ?_)
                              refine d_guard 26 rfl rfl (by kernel_rfl) (by kernel_rfl) (by kernel_rfl) rfl rfl (v := .c .top) (ncf g22) (ncf g22) (fun _ => ?_)
                              refine d_guard 27 rfl rfl (by kernel_rfl) (by kernel_rfl) (by kernel_rfl) rfl rfl (v := .c .top) (ncf g22) (ncf g22) (fun _ => ?_)
                              refine d_guard 28 rfl rfl (by kernel_rfl) (by kernel_rfl) (by kernel_rfl) rfl rfl (v := .c .top) (ncf g22) (ncf g22) (fun _ => ?_)
                              refine d_guard 29 rfl rfl (by kernel_rfl) (by kernel_rfl) (by kernel_rfl) rfl rfl (fun _ => p_pickF rfl g22 rfl) (fun _ => ?_) (ncf g21)
                              refine d_take 30 rfl rfl (by kernel_rfl) (by kernel_rfl) (by kernel_rfl) (p_pickF rfl g21 rfl) ?_
                              refine d_end (by kernel_rfl) ?_
                              refine t_cond rfl (ncf rfl) (fun _ => ?_)
                              refine t_skip ?_
                              refine t_endblock ?_
                              refine t_region ?_
                              refine r_op (o_move rfl rfl) ?_
                              refine r_op (o_bin rfl rfl rfl rfl) ?_
                              refine r_op (o_assign rfl rfl) ?_
                              refine r_end ?_
                              refine t_le ?_ (ih0 (v + 1) (by (try dsimp only); omega) (by (try dsimp only); omega))
                              exact ⟨⟨rfl, ⟨rfl, ⟨rfl, ⟨(eqI (wr64 (by omega) (by omega))), trivial⟩⟩⟩⟩, ⟨rfl, ⟨rfl, ⟨rfl, ⟨rfl, ⟨rfl, trivial⟩⟩⟩⟩⟩, rfl⟩
                          ·
                            have g21' := of_decide_eq_true g21
                            refine d_guard 18 rfl rfl (by kernel_rfl) (by kernel_rfl) (by kernel_rfl) rfl rfl (v := .c .top) (nc g21) (nc g21) (fun _ => ?_)
                            refine d_guard 19 rfl rfl (by kernel_rfl) (by kernel_rfl) (by kernel_rfl) rfl rfl (v := .c .top) (nc g21) (nc g21) (fun _ => ?_)
                            refine d_guard 20 rfl rfl (by kernel_rfl) (by kernel_rfl) (by kernel_rfl) rfl rfl (v := .c .top) (nc g21) (nc g21) (fun _ => ?_)
                            refine d_guard 21 rfl rfl (by kernel_rfl) (by kernel_rfl) (by kernel_rfl) rfl rfl (v := .c .top) (nc g21) (nc g21) (fun _ => ?_)
                            refine d_skip 22 rfl rfl (by kernel_rfl) (by kernel_rfl) (by kernel_rfl) rfl rfl ?_
                            refine d_skip 23 rfl rfl (by kernel_rfl) (by kernel_rfl) (by kernel_rfl) rfl rfl ?_
                            refine d_skip 24 rfl rfl (by kernel_rfl) (by kernel_rfl) (by kernel_rfl) rfl rfl ?_
                            refine d_skip 25 rfl rfl (by kernel_rfl) (by kernel_rfl) (by kernel_rfl) rfl rfl ?_
                            refine d_skip 26 rfl rfl (by kernel_rfl) (by kernel_rfl) (by kernel_rfl) rfl rfl ?_
                            refine d_skip 27 rfl rfl (by kernel_rfl) (by kernel_rfl) (by kernel_rfl) rfl rfl ?_
                            refine d_skip 28 rfl rfl (by kernel_rfl) (by kernel_rfl) (by kernel_rfl) rfl rfl ?_
                            refine d_guard 29 rfl rfl (by kernel_rfl) (by kernel_rfl) (by kernel_rfl) rfl rfl (v := .c .top) (nc g21) (nc g21) (fun _ => ?_)
                            refine d_take 30 rfl rfl (by kernel_rfl) (by kernel_rfl) (by kernel_rfl) (p_pickT rfl g21 rfl) ?_
                            refine d_end (by kernel_rfl) ?_
                            refine t_cond rfl (fun _ => ?_) (nc rfl)
                            refine t_seq ?_
                            refine t_region ?_
                            refine r_op (o_assign rfl rfl) ?_
                            refine r_end ?_
                            refine t_ret Try.func4 (.tmp rfl .nil) rfl fun E S w u hI hd => ?_
                            refine post_mk hI hd ?_ trivial rfl rfl rfl <;> clear hI hd <;> (try clear ih0)
                            all_goals first | rfl | (first | rfl | (exfalso; clear KV KO; grind) | (refine scB ?_; clear KV KO; grind))
                        ·
                          have g20' := of_decide_eq_false g20
                          refine d_guard 9 rfl rfl (by kernel_rfl) (by kernel_rfl) (by kernel_rfl) rfl rfl (v := .c .top) (ncf g20) (ncf g20) (fun _ => ?_)
                          refine d_guard 10 rfl rfl (by kernel_rfl) (by kernel_rfl) (by kernel_rfl) rfl rfl (v := .c .top) (ncf g20) (ncf g20) (fun _ => ?_)
                          refine d_guard 11 rfl rfl (by kernel_rfl) (by kernel_rfl) (by kernel_rfl) rfl rfl (v := .c .top) (ncf g20) (ncf g20) (fun _ => ?_)
                          refine d_guard 12 rfl rfl (by kernel_rfl) (by kernel_rfl) (by kernel_rfl) rfl rfl (v := .c .top) (ncf g20) (ncf g20) (fun _ => ?_)
                          refine d_guard 13 rfl rfl (by kernel_rfl) (by kernel_rfl) (by kernel_rfl) rfl rfl (v := .c .top) (ncf g20) (ncf g20) (fun _ => ?_)
                          refine d_guard 14 rfl rfl (by kernel_rfl) (by kernel_rfl) (by kernel_rfl) rfl rfl (v := .c .top) (ncf g20) (ncf g20) (fun _ => ?_)
                          refine d_take 15 rfl rfl (by kernel_rfl) (by kernel_rfl) (by kernel_rfl) (p_pickF rfl g20 rfl) ?_
                          refine d_take 16 rfl rfl (by kernel_rfl) (by kernel_rfl) (by kernel_rfl) (p_move rfl) ?_
                          refine d_guard 17 rfl rfl (by kernel_rfl) (by kernel_rfl) (by kernel_rfl) rfl rfl (fun _ => p_loadAb (n := 1) (by kernel_rfl) (by kernel_rfl) rfl rfl rfl) (fun _ => ?_) (ncf rfl)
                          refine d_guard 18 rfl rfl (by kernel_rfl) (by kernel_rfl) (by kernel_rfl) rfl rfl (fun _ => p_move rfl) (fun _ => ?_) (ncf rfl)
                          refine d_onlyG 19 rfl rfl (by kernel_rfl) rfl rfl rfl (fun _ => (o_call 9 9 false (Go.Proofs.enters_of Try.func20 (by kernel_rfl) rfl) (c_spec_Find ((us2)) (v) (by first | omega | assumption | (unfold okI; omega) | (rw [uni_len]; omega) | exact (by assumption : okI _).1 | exact (by assumption : okI _).2 | exact KV.1 | exact KV.2 | exact KO) (by first | omega | assumption | (unfold okI; omega) | (rw [uni_len]; omega) | exact (by assumption : okI _).1 | exact (by assumption : okI _).2 | exact KV.1 | exact KV.2 | exact KO) (by first | omega | assumption | (unfold okI; omega) | (rw [uni_len]; omega) | exact (by assumption : okI _).1 | exact (by assumption : okI _).2 | exact KV.1 | exact KV.2 | exact KO)) rfl (.cons rfl (.agg (.cons .t0 .nil)) (.cons rfl (.c .t0) .nil)) rfl rfl rfl)) (fun _ => ?_) (ncf rfl)
                          refine d_guard 20 rfl rfl (by kernel_rfl) (by kernel_rfl) (by kernel_rfl) rfl rfl (fun _ => p_bin rfl rfl rfl) (fun _ => ?_) (ncf rfl)
                          refine d_guard 21 rfl rfl (by kernel_rfl) (by kernel_rfl) (by kernel_rfl) rfl rfl (fun _ => p_move rfl) (fun _ => ?_) (ncf rfl)
                          refine d_guard 22 rfl rfl (by kernel_rfl) (by kernel_rfl) (by kernel_rfl) rfl rfl (fun _ => p_loadAb (n := 1) (by kernel_rfl) (by kernel_rfl) rfl rfl rfl) (fun g24 => ?_) (fun g24 => ?_)
                          ·
                            have g24' := of_decide_eq_true g24
                            refine d_guard 23 rfl rfl (by kernel_rfl) (by kernel_rfl) (by kernel_rfl) rfl rfl (fun _ => p_move rfl) (fun _ => ?_) (nc g24)
                            refine d_guard 25 rfl rfl (by kernel_rfl) (by kernel_rfl) (by kernel_rfl) rfl rfl (fun _ => p_loadAb (n := 1) (by kernel_rfl) (by kernel_rfl) rfl rfl rfl) (fun _ => ?_) (nc g24)
                            refine d_guard 26 rfl rfl (by kernel_rfl) (by kernel_rfl) (by kernel_rfl) rfl rfl (fun _ => p_move rfl) (fun _ => ?_) (nc g24)
                            refine d_onlyG 24 rfl rfl (by kernel_rfl) rfl rfl rfl (fun _ => (o_call 9 9 false (Go.Proofs.enters_of Try.func10 (by kernel_rfl) rfl) (c_impl_Find (uniL ((us2)) ((a3)) ((b4))) (v) (by first | omega | assumption | (unfold okI; omega) | (rw [uni_len]; omega) | exact (by assumption : okI _).1 | exact (by assumption : okI _).2 | exact KV.1 | exact KV.2 | exact KO) (by first | omega | assumption | (unfold okI; omega) | (rw [uni_len]; omega) | exact (by assumption : okI _).1 | exact (by assumption : okI _).2 | exact KV.1 | exact KV.2 | exact KO) (by first | omega | assumption | (unfold okI; omega) | (rw [uni_len]; omega) | exact (by assumption : okI _).1 | exact (by assumption : okI _).2 | exact KV.1 | exact KV.2 | exact KO)) rfl (.cons rfl (.agg (.cons (.own rfl) .nil)) (.cons rfl (.c .t0) .nil)) rfl rfl rfl)) (fun _ => ?_) (nc g24)
                            refine d_onlyG 27 rfl rfl (by kernel_rfl) rfl rfl rfl (fun _ => (o_call 9 9 false (Go.Proofs.enters_of Try.func20 (by kernel_rfl) rfl) (c_spec_Find ((us2)) (v) (by first | omega | assumption | (unfold okI; omega) | (rw [uni_len]; omega) | exact (by assumption : okI _).1 | exact (by assumption : okI _).2 | exact KV.1 | exact KV.2 | exact KO) (by first | omega | assumption | (unfold okI; omega) | (rw [uni_len]; omega) | exact (by assumption : okI _).1 | exact (by assumption : okI _).2 | exact KV.1 | exact KV.2 | exact KO) (by first | omega | assumption | (unfold okI; omega) | (rw [uni_len]; omega) | exact (by assumption : okI _).1 | exact (by assumption : okI _).2 | exact KV.1 | exact KV.2 | exact KO)) rfl (.cons rfl (.agg (.cons .t0 .nil)) (.cons rfl (.c .t0) .nil)) rfl rfl rfl)) (fun _ => ?_) (nc g24)
                            refine d_guard 28 rfl rfl (by kernel_rfl) (by kernel_rfl) (by kernel_rfl) rfl rfl (fun _ => p_bin rfl rfl rfl) (fun _ => ?_) (nc g24)
                            refine d_guard 29 rfl rfl (by kernel_rfl) (by kernel_rfl) (by kernel_rfl) rfl rfl (fun _ => p_pickT rfl g24 rfl) (fun _ => ?_) (ncf rfl)
                            refine d_take 30 rfl rfl (by kernel_rfl) (by kernel_rfl) (by kernel_rfl) (p_pickF rfl rfl rfl) ?_
                            refine d_end (by kernel_rfl) ?_
                            refine t_cond rfl (fun h25 => ?_) (fun h25 => ?_)
                            ·
                              have h25' := of_decide_eq_true h25
                              refine t_seq ?_
                              refine t_region ?_
                              refine r_op (o_assign rfl rfl) ?_
                              refine r_end ?_
                              refine t_ret Try.func4 (.tmp rfl .nil) rfl fun E S w u hI hd => ?_
                              refine post_mk hI hd ?_ trivial rfl rfl rfl <;> clear hI hd <;> (try clear ih0)
                              all_goals first | rfl | (first | rfl | (exfalso; clear KV KO; grind) | (refine scB ?_; clear KV KO; grind))
                            ·
                              have h25' := of_decide_eq_false h25
                              refine t_skip ?_
                              refine t_endblock ?_
                              refine t_region ?_
                              refine r_op (o_move rfl rfl) ?_
                              refine r_op (o_bin rfl rfl rfl rfl) ?_
                              refine r_op (o_assign rfl rfl) ?_
                              refine r_end ?_
                              refine t_le ?_ (ih0 (v + 1) (by (try dsimp only); omega) (by (try dsimp only); omega))
                              exact ⟨⟨rfl, ⟨rfl, ⟨rfl, ⟨(eqI (wr64 (by omega) (by omega))), trivial⟩⟩⟩⟩, ⟨rfl, ⟨rfl, ⟨rfl, ⟨rfl, ⟨rfl, trivial⟩⟩⟩⟩⟩, rfl⟩
                          ·
                            have g24' := of_decide_eq_false g24
                            refine d_guard 23 rfl rfl (by kernel_rfl) (by kernel_rfl) (by kernel_rfl) rfl rfl (v := .c .top) (ncf g24) (ncf g24) (fun _ => ?_)
                            refine d_guard 24 rfl rfl (by kernel_rfl) (by kernel_rfl) (by kernel_rfl) rfl rfl (v := .c .top) (ncf g24) (ncf g24) (fun _ => ?_)
                            refine d_guard 25 rfl rfl (by kernel_rfl) (by kernel_rfl) (by kernel_rfl) rfl rfl (v := .c .top) (ncf g24) (ncf g24) (fun _ => ?_)
                            refine d_guard 26 rfl rfl (by kernel_rfl) (by kernel_rfl) (by kernel_rfl) rfl rfl (v := .c .top) (ncf g24) (ncf g24) (fun _ => ?_)
                            refine d_guard 27 rfl rfl (by kernel_rfl) (by kernel_rfl) (by kernel_rfl) rfl rfl (v := .c .top) (ncf g24) (ncf g24) (fun _ => ?_)
                            refine d_guard 28 rfl rfl (by kernel_rfl) (by kernel_rfl) (by kernel_rfl) rfl rfl (v := .c .top) (ncf g24) (ncf g24) (fun _ => ?_)
                            refine d_guard 29 rfl rfl (by kernel_rfl) (by kernel_rfl) (by kernel_rfl) rfl rfl (fun _ => p_pickF rfl g24 rfl) (fun _ => ?_) (ncf rfl)
                            refine d_take 30 rfl rfl (by kernel_rfl) (by kernel_rfl) (by kernel_rfl) (p_pickF rfl rfl rfl) ?_
                            refine d_end (by kernel_rfl) ?_
                            refine t_cond rfl (ncf rfl) (fun _ => ?_)
                            refine t_skip ?_
                            refine t_endblock ?_
                            refine t_region ?_
                            refine r_op (o_move rfl rfl) ?_
                            refine r_op (o_bin rfl rfl rfl rfl) ?_
                            refine r_op (o_assign rfl rfl) ?_
                            refine r_end ?_
                            refine t_le ?_ (ih0 (v + 1) (by (try dsimp only); omega) (by (try dsimp only); omega))
                            exact ⟨⟨rfl, ⟨rfl, ⟨rfl, ⟨(eqI (wr64 (by omega) (by omega))), trivial⟩⟩⟩⟩, ⟨rfl, ⟨rfl, ⟨rfl, ⟨rfl, ⟨rfl, trivial⟩⟩⟩⟩⟩, rfl⟩
                      ·
                        have h19' := of_decide_eq_false h19
                        refine t_exit rfl ?_
                        refine t_seq ?_
                        refine t_region ?_
                        refine r_op (o_loadAb rfl (n := 1) (by kernel_rfl) (by kernel_rfl) rfl rfl rfl) ?_
                        refine r_op (o_call 9 14 false (Go.Proofs.enters_of Try.func13 (by kernel_rfl) rfl) (c_impl_UnionSubstitution (uniL ((us2)) ((a3)) ((b4))) (by first | omega | assumption | (unfold okI; omega) | (rw [uni_len]; omega) | exact (by assumption : okI _).1 | exact (by assumption : okI _).2 | exact KV.1 | exact KV.2 | exact KO) (by first | omega | assumption | (unfold okI; omega) | (rw [uni_len]; omega) | exact (by assumption : okI _).1 | exact (by assumption : okI _).2 | exact KV.1 | exact KV.2 | exact KO)) rfl (.cons rfl (.agg (.cons (.own rfl) .nil)) .nil) rfl rfl rfl) ?_
                        refine r_op (o_alloc 14 (zs := [.slice none 0 0, .slice none 0 0]) rfl rfl (by kernel_rfl) rfl) ?_
                        refine r_op (o_storeb (n := 2) (by kernel_rfl) rfl rfl rfl rfl rfl rfl) ?_
                        refine r_end ?_
                        refine t_seq ?_
                        refine t_draw (fun _ => true) (by kernel_rfl) ?_
                        refine d_take 0 rfl rfl (by kernel_rfl) (by kernel_rfl) (by kernel_rfl) (p_loadAb (n := 2) (by kernel_rfl) (by kernel_rfl) rfl rfl rfl) ?_
                        refine d_only 1 rfl (by kernel_rfl) rfl (o_call 15 15 false (Go.Proofs.enters_of Try.func21 (by kernel_rfl) rfl) (c_spec_IsValidSubstitution (usN' (uniL ((us2)) ((a3)) ((b4)))) (usV' (uniL ((us2)) ((a3)) ((b4)))) (by first | omega | assumption | (unfold okI; omega) | (rw [uni_len]; omega) | exact (by assumption : okI _).1 | exact (by assumption : okI _).2 | exact KV.1 | exact KV.2 | exact KO) (by first | omega | assumption | (unfold okI; omega) | (rw [uni_len]; omega) | exact (by assumption : okI _).1 | exact (by assumption : okI _).2 | exact KV.1 | exact KV.2 | exact KO) (by first | omega | assumption | (unfold okI; omega) | (rw [uni_len]; omega) | exact (by assumption : okI _).1 | exact (by assumption : okI _).2 | exact KV.1 | exact KV.2 | exact KO) (by first | omega | assumption | (unfold okI; omega) | (rw [uni_len]; omega) | exact (by assumption : okI _).1 | exact (by assumption : okI _).2 | exact KV.1 | exact KV.2 | exact KO)) rfl (.cons rfl (.agg (.cons (.own rfl) (.cons (.own rfl) .nil))) .nil) rfl rfl rfl) ?_
                        refine d_take 2 rfl rfl (by kernel_rfl) (by kernel_rfl) (by kernel_rfl) (p_move rfl) ?_
                        refine d_guard 3 rfl rfl (by kernel_rfl) (by kernel_rfl) (by kernel_rfl) rfl rfl (fun _ => p_loadAb (n := 2) (by kernel_rfl) (by kernel_rfl) rfl rfl rfl) (fun g26 => ?_) (fun g26 => ?_)
                        ·
                          have g26' := g26
                          refine d_guard 4 rfl rfl (by kernel_rfl) (by kernel_rfl) (by kernel_rfl) rfl rfl (fun _ => p_move rfl) (fun _ => ?_) (nc g26)
                          refine d_guard 6 rfl rfl (by kernel_rfl) (by kernel_rfl) (by kernel_rfl) rfl rfl (fun _ => p_loadAb (n := 1) (by kernel_rfl) (by kernel_rfl) rfl rfl rfl) (fun _ => ?_) (nc g26)
                          refine d_guard 7 rfl rfl (by kernel_rfl) (by kernel_rfl) (by kernel_rfl) rfl rfl (fun _ => p_move rfl) (fun _ => ?_) (nc g26)
                          refine d_onlyG 5 rfl rfl (by kernel_rfl) rfl rfl rfl (fun _ => (o_call 15 15 false (Go.Proofs.enters_of Try.func22 (by kernel_rfl) rfl) (c_impl_ApplyToValue (usN' (uniL ((us2)) ((a3)) ((b4)))) (usV' (uniL ((us2)) ((a3)) ((b4)))) ((a3)) (by first | omega | assumption | (unfold okI; omega) | (rw [uni_len]; omega) | exact (by assumption : okI _).1 | exact (by assumption : okI _).2 | exact KV.1 | exact KV.2 | exact KO) (by first | omega | assumption | (unfold okI; omega) | (rw [uni_len]; omega) | exact (by assumption : okI _).1 | exact (by assumption : okI _).2 | exact KV.1 | exact KV.2 | exact KO) (by first | omega | assumption | (unfold okI; omega) | (rw [uni_len]; omega) | exact (by assumption : okI _).1 | exact (by assumption : okI _).2 | exact KV.1 | exact KV.2 | exact KO) (by first | omega | assumption | (unfold okI; omega) | (rw [uni_len]; omega) | exact (by assumption : okI _).1 | exact (by assumption : okI _).2 | exact KV.1 | exact KV.2 | exact KO) (by first | omega | assumption | (unfold okI; omega) | (rw [uni_len]; omega) | exact (by assumption : okI _).1 | exact (by assumption : okI _).2 | exact KV.1 | exact KV.2 | exact KO) (by first | omega | assumption | (unfold okI; omega) | (rw [uni_len]; omega) | exact (by assumption : okI _).1 | exact (by assumption : okI _).2 | exact KV.1 | exact KV.2 | exact KO)) rfl (.cons rfl (.agg (.cons (.own rfl) (.cons (.own rfl) .nil))) (.cons rfl (.c .t0) .nil)) rfl rfl rfl)) (fun _ => ?_) (nc g26)
                          refine d_onlyG 8 rfl rfl (by kernel_rfl) rfl rfl rfl (fun _ => (o_call 15 15 false (Go.Proofs.enters_of Try.func10 (by kernel_rfl) rfl) (c_impl_Find (uniL ((us2)) ((a3)) ((b4))) ((a3)) (by first | omega | assumption | (unfold okI; omega) | (rw [uni_len]; omega) | exact (by assumption : okI _).1 | exact (by assumption : okI _).2 | exact KV.1 | exact KV.2 | exact KO) (by first | omega | assumption | (unfold okI; omega) | (rw [uni_len]; omega) | exact (by assumption : okI _).1 | exact (by assumption : okI _).2 | exact KV.1 | exact KV.2 | exact KO) (by first | omega | assumption | (unfold okI; omega) | (rw [uni_len]; omega) | exact (by assumption : okI _).1 | exact (by assumption : okI _).2 | exact KV.1 | exact KV.2 | exact KO)) rfl (.cons rfl (.agg (.cons (.own rfl) .nil)) (.cons rfl (.c .t0) .nil)) rfl rfl rfl)) (fun _ => ?_) (nc g26)
                          refine d_guard 9 rfl rfl (by kernel_rfl) (by kernel_rfl) (by kernel_rfl) rfl rfl (fun _ => p_bin rfl rfl rfl) (fun _ => ?_) (nc g26)
                          refine d_take 10 rfl rfl (by kernel_rfl) (by kernel_rfl) (by kernel_rfl) (p_pickT rfl g26 rfl) ?_
                          refine d_take 11 rfl rfl (by kernel_rfl) (by kernel_rfl) (by kernel_rfl) (p_move rfl) ?_
                          refine d_onlyG 12 rfl rfl (by kernel_rfl) rfl rfl rfl (fun g27 => (o_call 15 18 false (Go.Proofs.enters_of Try.func23 (by kernel_rfl) rfl) (c_impl_NewUnionFind (3) (by first | omega | assumption | (unfold okI; omega) | (rw [uni_len]; omega) | exact (by assumption : okI _).1 | exact (by assumption : okI _).2 | exact KV.1 | exact KV.2 | exact KO)) rfl (.cons rfl (.c .t0) .nil) rfl rfl rfl)) (fun g27 => ?_) (fun g27 => ?_)
                          ·
                            have g27' := of_decide_eq_true g27
                            refine d_guard 13 rfl rfl (by kernel_rfl) (by kernel_rfl) (by kernel_rfl) rfl rfl (fun _ => p_fld (ft := 24) (off := 0) (by kernel_rfl) (by kernel_rfl) rfl rfl) (fun _ => ?_) (nc g27)
                            refine d_guard 14 rfl rfl (by kernel_rfl) (by kernel_rfl) (by kernel_rfl) rfl rfl (fun _ => p_leno rfl rfl rfl) (fun _ => ?_) (nc g27)
                            refine d_guard 15 rfl rfl (by kernel_rfl) (by kernel_rfl) (by kernel_rfl) rfl rfl (fun _ => p_bin rfl rfl rfl) (fun _ => ?_) (nc g27)
                            refine d_take 16 rfl rfl (by kernel_rfl) (by kernel_rfl) (by kernel_rfl) (p_pickT rfl g27 rfl) ?_
                            refine d_take 17 rfl rfl (by kernel_rfl) (by kernel_rfl) (by kernel_rfl) (p_assign rfl) ?_
                            refine d_end (by kernel_rfl) ?_
                            refine t_ret Try.func4 (.tmp rfl .nil) rfl fun E S w u hI hd => ?_
                            refine post_mk hI hd ?_ trivial rfl rfl rfl <;> clear hI hd <;> (try clear ih0)
                            all_goals first | rfl | (first | rfl | (exfalso; clear KV KO; grind) | (refine scB ?_; clear KV KO; grind))
                          ·
                            have g27' := of_decide_eq_false g27
                            refine d_guard 13 rfl rfl (by kernel_rfl) (by kernel_rfl) (by kernel_rfl) rfl rfl (v := .c .top) (ncf g27) (ncf g27) (fun _ => ?_)
                            refine d_guard 14 rfl rfl (by kernel_rfl) (by kernel_rfl) (by kernel_rfl) rfl rfl (v := .c .top) (ncf g27) (ncf g27) (fun _ => ?_)
                            refine d_guard 15 rfl rfl (by kernel_rfl) (by kernel_rfl) (by kernel_rfl) rfl rfl (v := .c .top) (ncf g27) (ncf g27) (fun _ => ?_)
                            refine d_take 16 rfl rfl (by kernel_rfl) (by kernel_rfl) (by kernel_rfl) (p_pickF rfl g27 rfl) ?_
                            refine d_take 17 rfl rfl (by kernel_rfl) (by kernel_rfl) (by kernel_rfl) (p_assign rfl) ?_
                            refine d_end (by kernel_rfl) ?_
                            refine t_ret Try.func4 (.tmp rfl .nil) rfl fun E S w u hI hd => ?_
                            refine post_mk hI hd ?_ trivial rfl rfl rfl <;> clear hI hd <;> (try clear ih0)
                            all_goals first | rfl | (first | rfl | (exfalso; clear KV KO; grind) | (refine scB ?_; clear KV KO; grind))
                        ·
                          have g26' := g26
                          refine d_guard 4 rfl rfl (by kernel_rfl) (by kernel_rfl) (by kernel_rfl) rfl rfl (v := .c .top) (ncf g26) (ncf g26) (fun _ => ?_)
                          refine d_guard 5 rfl rfl (by kernel_rfl) (by kernel_rfl) (by kernel_rfl) rfl rfl (v := .c .top) (ncf g26) (ncf g26) (fun _ => ?_)
                          refine d_guard 6 rfl rfl (by kernel_rfl) (by kernel_rfl) (by kernel_rfl) rfl rfl (v := .c .top) (ncf g26) (ncf g26) (fun _ => ?_)
                          refine d_guard 7 rfl rfl (by kernel_rfl) (by kernel_rfl) (by kernel_rfl) rfl rfl (v := .c .top) (ncf g26) (ncf g26) (fun _ => ?_)
                          refine d_guard 8 rfl rfl (by kernel_rfl) (by kernel_rfl) (by kernel_rfl) rfl rfl (v := .c .top) (ncf g26) (ncf g26) (fun _ => ?_)
                          refine d_guard 9 rfl rfl (by kernel_rfl) (by kernel_rfl) (by kernel_rfl) rfl rfl (v := .c .top) (ncf g26) (ncf g26) (fun _ => ?_)
                          refine d_take 10 rfl rfl (by kernel_rfl) (by kernel_rfl) (by kernel_rfl) (p_pickF rfl g26 rfl) ?_
                          refine d_take 11 rfl rfl (by kernel_rfl) (by kernel_rfl) (by kernel_rfl) (p_move rfl) ?_
                          refine d_guard 12 rfl rfl (by kernel_rfl) (by kernel_rfl) (by kernel_rfl) rfl rfl (v := .c .top) (ncf rfl) (ncf rfl) (fun _ => ?_)
                          refine d_guard 13 rfl rfl (by kernel_rfl) (by kernel_rfl) (by kernel_rfl) rfl rfl (v := .c .top) (ncf rfl) (ncf rfl) (fun _ => ?_)
                          refine d_guard 14 rfl rfl (by kernel_rfl) (by kernel_rfl) (by kernel_rfl) rfl rfl (v := .c .top) (ncf rfl) (ncf rfl) (fun _ => ?_)
                          refine d_guard 15 rfl rfl (by kernel_rfl) (by kernel_rfl) (by kernel_rfl) rfl rfl (v := .c .top) (ncf rfl) (ncf rfl) (fun _ => ?_)
                          refine d_take 16 rfl rfl (by kernel_rfl) (by kernel_rfl) (by kernel_rfl) (p_pickF rfl rfl rfl) ?_
                          refine d_take 17 rfl rfl (by kernel_rfl) (by kernel_rfl) (by kernel_rfl) (p_assign rfl) ?_
                          refine d_end (by kernel_rfl) ?_
                          refine t_ret Try.func4 (.tmp rfl .nil) rfl fun E S w u hI hd => ?_
                          refine post_mk hI hd ?_ trivial rfl rfl rfl <;> clear hI hd <;> (try clear ih0)
                          all_goals first | rfl | (first | rfl | (exfalso; clear KV KO; grind) | (refine scB ?_; clear KV KO; grind))
                  ·
                    have g17' := (bnt g17)
                    refine d_guard 14 rfl rfl (by kernel_rfl) (by kernel_rfl) (by kernel_rfl) rfl rfl (v := .c .top) (nc g17) (nc g17) (fun _ => ?_)
                    refine d_guard 15 rfl rfl (by kernel_rfl) (by kernel_rfl) (by kernel_rfl) rfl rfl (v := .c .top) (nc g17) (nc g17) (fun _ => ?_)
                    refine d_guard 16 rfl rfl (by kernel_rfl) (by kernel_rfl) (by kernel_rfl) rfl rfl (v := .c .top) (nc g17) (nc g17) (fun _ => ?_)
                    refine d_guard 17 rfl rfl (by kernel_rfl) (by kernel_rfl) (by kernel_rfl) rfl rfl (v := .c .top) (nc g17) (nc g17) (fun _ => ?_)
                    refine d_guard 18 rfl rfl (by kernel_rfl) (by kernel_rfl) (by kernel_rfl) rfl rfl (v := .c .top) (nc g17) (nc g17) (fun _ => ?_)
                    refine d_guard 19 rfl rfl (by kernel_rfl) (by kernel_rfl) (by kernel_rfl) rfl rfl (v := .c .top) (nc g17) (nc g17) (fun _ => ?_)
                    refine d_guard 20 rfl rfl (by kernel_rfl) (by kernel_rfl) (by kernel_rfl) rfl rfl (v := .c .top) (nc g17) (nc g17) (fun _ => ?_)
                    refine d_guard 21 rfl rfl (by kernel_rfl) (by kernel_rfl) (by kernel_rfl) rfl rfl (v := .c .top) (nc g17) (nc g17) (fun _ => ?_)
                    refine d_guard 22 rfl rfl (by kernel_rfl) (by kernel_rfl) (by kernel_rfl) rfl rfl (v := .c .top) (nc g17) (nc g17) (fun _ => ?_)
                    refine d_take 23 rfl rfl (by kernel_rfl) (by kernel_rfl) (by kernel_rfl) (p_pickT rfl g17 rfl) ?_
                    refine d_end (by kernel_rfl) ?_
                    refine t_cond rfl (fun _ => ?_) (nc rfl)
                    refine t_seq ?_
                    refine t_region ?_
                    refine r_op (o_assign rfl rfl) ?_
                    refine r_end ?_
                    refine t_ret Try.func4 (.tmp rfl .nil) rfl fun E S w u hI hd => ?_
                    refine post_mk hI hd ?_ trivial rfl rfl rfl <;> clear hI hd <;> (try clear ih0)
                    all_goals first | rfl | (first | rfl | (exfalso; clear KV KO; grind) | (refine scB ?_; clear KV KO; grind))
                ·
                  have g16' := of_decide_eq_true g16
                  refine d_guard 9 rfl rfl (by kernel_rfl) (by kernel_rfl) (by kernel_rfl) rfl rfl (v := .c .top) (nc g16) (nc g16) (fun _ => ?_)
                  refine d_guard 10 rfl rfl (by kernel_rfl) (by kernel_rfl) (by kernel_rfl) rfl rfl (v := .c .top) (nc g16) (nc g16) (fun _ => ?_)
                  refine d_take 11 rfl rfl (by kernel_rfl) (by kernel_rfl) (by kernel_rfl) (p_pickT rfl g16 rfl) ?_
                  refine d_take 12 rfl rfl (by kernel_rfl) (by kernel_rfl) (by kernel_rfl) (p_move rfl) ?_
                  refine d_guard 13 rfl rfl (by kernel_rfl) (by kernel_rfl) (by kernel_rfl) rfl rfl (v := .c .top) (nc rfl) (nc rfl) (fun _ => ?_)
                  refine d_guard 14 rfl rfl (by kernel_rfl) (by kernel_rfl) (by kernel_rfl) rfl rfl (v := .c .top) (nc rfl) (nc rfl) (fun _ => ?_)
                  refine d_guard 15 rfl rfl (by kernel_rfl) (by kernel_rfl) (by kernel_rfl) rfl rfl (v := .c .top) (nc rfl) (nc rfl) (fun _ => ?_)
                  refine d_guard 16 rfl rfl (by kernel_rfl) (by kernel_rfl) (by kernel_rfl) rfl rfl (v := .c .top) (nc rfl) (nc rfl) (fun _ => ?_)
                  refine d_guard 17 rfl rfl (by kernel_rfl) (by kernel_rfl) (by kernel_rfl) rfl rfl (v := .c .top) (nc rfl) (nc rfl) (fun _ => ?_)
                  refine d_guard 18 rfl rfl (by kernel_rfl) (by kernel_rfl) (by kernel_rfl) rfl rfl (v := .c .top) (nc rfl) (nc rfl) (fun _ => ?_)
                  refine d_guard 19 rfl rfl (by kernel_rfl) (by kernel_rfl) (by kernel_rfl) rfl rfl (v := .c .top) (nc rfl) (nc rfl) (fun _ => ?_)
                  refine d_guard 20 rfl rfl (by kernel_rfl) (by kernel_rfl) (by kernel_rfl) rfl rfl (v := .c .top) (nc rfl) (nc rfl) (fun _ => ?_)
                  refine d_guard 21 rfl rfl (by kernel_rfl) (by kernel_rfl) (by kernel_rfl) rfl rfl (v := .c .top) (nc rfl) (nc rfl) (fun _ => ?_)
                  refine d_guard 22 rfl rfl (by kernel_rfl) (by kernel_rfl) (by kernel_rfl) rfl rfl (v := .c .top) (nc rfl) (nc rfl) (fun _ => ?_)
                  refine d_take 23 rfl rfl (by kernel_rfl) (by kernel_rfl) (by kernel_rfl) (p_pickT rfl rfl rfl) ?_
                  refine d_end (by kernel_rfl) ?_
                  refine t_cond rfl (fun _ => ?_) (nc rfl)
                  refine t_seq ?_
                  refine t_region ?_
                  refine r_op (o_assign rfl rfl) ?_
                  refine r_end ?_
                  refine t_ret Try.func4 (.tmp rfl .nil) rfl fun E S w u hI hd => ?_
                  refine post_mk hI hd ?_ trivial rfl rfl rfl <;> clear hI hd <;> (try clear ih0)
                  all_goals first | rfl | (first | rfl | (exfalso; clear KV KO; grind) | (refine scB ?_; clear KV KO; grind))
            ·
              have g14' := (bnt g14)
              refine r_guard rfl rfl rfl (nc g14) (fun _ => ?_)
              refine r_op (o_pickT rfl rfl g14 rfl) ?_
              refine r_end ?_
              refine t_cond rfl (fun _ => ?_) (nc rfl)
              refine t_seq ?_
              refine t_region ?_
              refine r_op (o_loadAb rfl (n := 1) (by kernel_rfl) (by kernel_rfl) rfl rfl rfl) ?_
              refine r_op (o_loadAb rfl (n := 1) (by kernel_rfl) (by kernel_rfl) rfl rfl rfl) ?_
              refine r_op (o_call 9 9 false (Go.Proofs.enters_of Try.func17 (by kernel_rfl) rfl) (c_spec_EqualUnionFinds (uniL ((us2)) ((a3)) ((b4))) ((us2)) (by first | omega | assumption | (unfold okI; omega) | (rw [uni_len]; omega) | exact (by assumption : okI _).1 | exact (by assumption : okI _).2 | exact KV.1 | exact KV.2 | exact KO) (by first | omega | assumption | (unfold okI; omega) | (rw [uni_len]; omega) | exact (by assumption : okI _).1 | exact (by assumption : okI _).2 | exact KV.1 | exact KV.2 | exact KO)) rfl (.cons rfl (.agg (.cons (.own rfl) .nil)) (.cons rfl (.agg (.cons .t0 .nil)) .nil)) rfl rfl rfl) ?_
              refine r_op (o_assign rfl rfl) ?_
              refine r_end ?_
              refine t_ret Try.func4 (.tmp rfl .nil) rfl fun E S w u hI hd => ?_
              refine post_mk hI hd ?_ trivial rfl rfl rfl <;> clear hI hd <;> (try clear ih0)
              all_goals first | rfl | (first | rfl | (exfalso; clear KV KO; grind) | (refine scB ?_; clear KV KO; grind))
        ·
          have g12' := of_decide_eq_false (bnt g12)
          refine d_guard 17 rfl rfl (by kernel_rfl) (by kernel_rfl) (by kernel_rfl) rfl rfl (v := .c .top) (nc g12) (nc g12) (fun _ => ?_)
          refine d_guard 18 rfl rfl (by kernel_rfl) (by kernel_rfl) (by kernel_rfl) rfl rfl (v := .c .top) (nc g12) (nc g12) (fun _ => ?_)
          refine d_guard 19 rfl rfl (by kernel_rfl) (by kernel_rfl) (by kernel_rfl) rfl rfl (v := .c .top) (nc g12) (nc g12) (fun _ => ?_)
          refine d_guard 20 rfl rfl (by kernel_rfl) (by kernel_rfl) (by kernel_rfl) rfl rfl (v := .c .top) (nc g12) (nc g12) (fun _ => ?_)
          refine d_take 21 rfl rfl (by kernel_rfl) (by kernel_rfl) (by kernel_rfl) (p_pickT rfl g12 rfl) ?_
          refine d_end (by kernel_rfl) ?_
          refine t_cond rfl (fun _ => ?_) (nc rfl)
          refine t_seq ?_
          refine t_region ?_
          refine r_op (o_assign rfl rfl) ?_
          refine r_end ?_
          refine t_ret Try.func4 (.tmp rfl .nil) rfl fun E S w u hI hd => ?_
          refine post_mk hI hd ?_ trivial rfl rfl rfl <;> clear hI hd <;> (try clear ih0)
          all_goals first | rfl | (first | rfl | (exfalso; clear KV KO; grind) | (refine scB ?_; clear KV KO; grind))
      ·
        have g11' := of_decide_eq_false (bnt g11)
        refine d_guard 11 rfl rfl (by kernel_rfl) (by kernel_rfl) (by kernel_rfl) rfl rfl (v := .c .top) (nc g11) (nc g11) (fun _ => ?_)
        refine d_guard 12 rfl rfl (by kernel_rfl) (by kernel_rfl) (by kernel_rfl) rfl rfl (v := .c .top) (nc g11) (nc g11) (fun _ => ?_)
        refine d_guard 13 rfl rfl (by kernel_rfl) (by kernel_rfl) (by kernel_rfl) rfl rfl (v := .c .top) (nc g11) (nc g11) (fun _ => ?_)
        refine d_take 14 rfl rfl (by kernel_rfl) (by kernel_rfl) (by kernel_rfl) (p_pickT rfl g11 rfl) ?_
        refine d_take 15 rfl rfl (by kernel_rfl) (by kernel_rfl) (by kernel_rfl) (p_move rfl) ?_
        refine d_guard 16 rfl rfl (by kernel_rfl) (by kernel_rfl) (by kernel_rfl) rfl rfl (v := .c .top) (nc rfl) (nc rfl) (fun _ => ?_)
        refine d_guard 17 rfl rfl (by kernel_rfl) (by kernel_rfl) (by kernel_rfl) rfl rfl (v := .c .top) (nc rfl) (nc rfl) (fun _ => ?_)
        refine d_guard 18 rfl rfl (by kernel_rfl) (by kernel_rfl) (by kernel_rfl) rfl rfl (v := .c .top) (nc rfl) (nc rfl) (fun _ => ?_)
        refine d_guard 19 rfl rfl (by kernel_rfl) (by kernel_rfl) (by kernel_rfl) rfl rfl (v := .c .top) (nc rfl) (nc rfl) (fun _ => ?_)
        refine d_guard 20 rfl rfl (by kernel_rfl) (by kernel_rfl) (by kernel_rfl) rfl rfl (v := .c .top) (nc rfl) (nc rfl) (fun _ => ?_)
        refine d_take 21 rfl rfl (by kernel_rfl) (by kernel_rfl) (by kernel_rfl) (p_pickT rfl rfl rfl) ?_
        refine d_end (by kernel_rfl) ?_
        refine t_cond rfl (fun _ => ?_) (nc rfl)
        refine t_seq ?_
        refine t_region ?_
        refine r_op (o_assign rfl rfl) ?_
        refine r_end ?_
        refine t_ret Try.func4 (.tmp rfl .nil) rfl fun E S w u hI hd => ?_
        refine post_mk hI hd ?_ trivial rfl rfl rfl <;> clear hI hd <;> (try clear ih0)
        all_goals first | rfl | (first | rfl | (exfalso; clear KV KO; grind) | (refine scB ?_; clear KV KO; grind))
    ·
      have g10' := of_decide_eq_true g10
      refine d_guard 5 rfl rfl (by kernel_rfl) (by kernel_rfl) (by kernel_rfl) rfl rfl (v := .c .top) (nc g10) (nc g10) (fun _ => ?_)
      refine d_guard 6 rfl rfl (by kernel_rfl) (by kernel_rfl) (by kernel_rfl) rfl rfl (v := .c .top) (nc g10) (nc g10) (fun _ => ?_)
      refine d_guard 7 rfl rfl (by kernel_rfl) (by kernel_rfl) (by kernel_rfl) rfl rfl (v := .c .top) (nc g10) (nc g10) (fun _ => ?_)
      refine d_take 8 rfl rfl (by kernel_rfl) (by kernel_rfl) (by kernel_rfl) (p_pickT rfl g10 rfl) ?_
      refine d_take 9 rfl rfl (by kernel_rfl) (by kernel_rfl) (by kernel_rfl) (p_move rfl) ?_
      refine d_guard 10 rfl rfl (by kernel_rfl) (by kernel_rfl) (by kernel_rfl) rfl rfl (v := .c .top) (nc rfl) (nc rfl) (fun _ => ?_)
      refine d_guard 11 rfl rfl (by kernel_rfl) (by kernel_rfl) (by kernel_rfl) rfl rfl (v := .c .top) (nc rfl) (nc rfl) (fun _ => ?_)
      refine d_guard 12 rfl rfl (by kernel_rfl) (by kernel_rfl) (by kernel_rfl) rfl rfl (v := .c .top) (nc rfl) (nc rfl) (fun _ => ?_)
      refine d_guard 13 rfl rfl (by kernel_rfl) (by kernel_rfl) (by kernel_rfl) rfl rfl (v := .c .top) (nc rfl) (nc rfl) (fun _ => ?_)
      refine d_take 14 rfl rfl (by kernel_rfl) (by kernel_rfl) (by kernel_rfl) (p_pickT rfl rfl rfl) ?_
      refine d_take 15 rfl rfl (by kernel_rfl) (by kernel_rfl) (by kernel_rfl) (p_move rfl) ?_
      refine d_guard 16 rfl rfl (by kernel_rfl) (by kernel_rfl) (by kernel_rfl) rfl rfl (v := .c .top) (nc rfl) (nc rfl) (fun _ => ?_)
      refine d_guard 17 rfl rfl (by kernel_rfl) (by kernel_rfl) (by kernel_rfl) rfl rfl (v := .c .top) (nc rfl) (nc rfl) (fun _ => ?_)
      refine d_guard 18 rfl rfl (by kernel_rfl) (by kernel_rfl) (by kernel_rfl) rfl rfl (v := .c .top) (nc rfl) (nc rfl) (fun _ => ?_)
      refine d_guard 19 rfl rfl (by kernel_rfl) (by kernel_rfl) (by kernel_rfl) rfl rfl (v := .c .top) (nc rfl) (nc rfl) (fun _ => ?_)
      refine d_guard 20 rfl rfl (by kernel_rfl) (by kernel_rfl) (by kernel_rfl) rfl rfl (v := .c .top) (nc rfl) (nc rfl) (fun _ => ?_)
      refine d_take 21 rfl rfl (by kernel_rfl) (by kernel_rfl) (by kernel_rfl) (p_pickT rfl rfl rfl) ?_
      refine d_end (by kernel_rfl) ?_
      refine t_cond rfl (fun _ => ?_) (nc rfl)
      refine t_seq ?_
      refine t_region ?_
      refine r_op (o_assign rfl rfl) ?_
      refine r_end ?_
      refine t_ret Try.func4 (.tmp rfl .nil) rfl fun E S w u hI hd => ?_
      refine post_mk hI hd ?_ trivial rfl rfl rfl <;> clear hI hd <;> (try clear ih0)
      all_goals first | rfl | (first | rfl | (exfalso; clear KV KO; grind) | (refine scB ?_; clear KV KO; grind))
end Go.Eng
