/- What the functions that FnPositions reaches answer. -/
import Derived.Test.YtjjoopbebildfaaDoorFnsFnPositionsp2
import Derived.Test.YtjjoopbebildfaaDoorEngX
import Derived.Test.YtjjoopbebildfaaDoorChecked
set_option linter.unusedVariables false
set_option linter.unusedSimpArgs false
namespace Go.Eng
open Go Go.RowKit Go.Proofs
set_option maxHeartbeats 1000000 in
set_option maxRecDepth 10000 in
theorem c_laws_FnPositions (code : List Int) (hcl : code.length ≤ 9223372036854775807) : Pu Tryd.prog 3 [.c (.t none (.sl 1 encU (code)))] [] 0 (.c (.t none (.v (.bool (true))))) := by
  refine pu_enter Tryd.func3 rfl (Nat.le_of_ble_eq_true rfl) fun w S => ?_
  refine t_seq ?_
  refine t_region ?_
  refine r_op (o_assign rfl rfl) ?_
  refine r_end ?_
  refine t_seq ?_
  refine t_seq ?_
  refine t_region ?_
  refine r_op (o_move rfl rfl) ?_
  refine r_op (o_call 0 0 false (Go.Proofs.enters_of Tryd.func4 (by kernel_rfl) rfl) (c_laws_big (code)) rfl (.cons rfl (.c .t0) .nil) rfl rfl rfl) ?_
  refine r_end ?_
  refine t_cond rfl (fun h1 => ?_) (fun h1 => ?_)
  ·
    have h1' := of_decide_eq_true h1
    refine t_seq ?_
    refine t_region ?_
    refine r_op (o_assign rfl rfl) ?_
    refine r_end ?_
    refine t_ret Tryd.func3 (.tmp rfl .nil) rfl fun E S w u hI hd => ?_
    refine post_mk hI hd ?_ trivial rfl rfl rfl <;> clear hI hd <;> (try clear ih0)
    all_goals first | rfl | (first | rfl | (exfalso; clear KR; grind) | (refine scB ?_; clear KR; grind))
  ·
    have h1' := of_decide_eq_false h1
    refine t_skip ?_
    refine t_seq ?_
    refine t_region ?_
    refine r_op (o_move rfl rfl) ?_
    refine r_opX (o_callG 0 0 (Go.Proofs.enters_of Tryd.func5 (by kernel_rfl) rfl) (c_spec_DrawPositionIndex (code) (by first | omega | assumption | (unfold okI; omega) | (have e := K1 (by assumption); omega) | (unfold okI; omega) | (have e1 := (KR _ (List.mem_of_getElem? (by assumption))).1; have e2 := fmtN_len (n := _) (by omega); omega))) rfl (.cons rfl (.c .t0) .nil) rfl rfl) ?_
    rintro ⟨⟨rs2, r3, x4⟩, hq5⟩
    try dsimp only at hq5
    try dsimp only
    obtain ⟨q6, q7, q8, q9⟩ := hq5
    have KR : ∀ z ∈ rs2, relL z := (by assumption); have K1 : 0 ≤ posIx rs2 r3 x4 → posIx rs2 r3 x4 < cntP rs2 ∧ (0 ≤ r3 ∧ r3 < rs2.length) ∧ 0 ≤ x4 := fun h => ⟨pos_cnt h, (pos_good h).2.1, by obtain ⟨_, _, z, _, h3, _⟩ := pos_good h; exact h3.1⟩; have KB := posIx_bnd (rs := rs2) (r := r3) (i := x4); have KT : ∀ z, rs2[(r3).toNat]? = some z → 0 ≤ posIx rs2 r3 x4 → z.1 ++ fmtN x4 = posT rs2 (posIx rs2 r3 x4) := fun z hz h => pos_txt h hz
    refine r_op (o_move rfl rfl) ?_
    refine r_op (o_extract rfl rfl rfl rfl) ?_
    refine r_op (o_extract rfl rfl rfl rfl) ?_
    refine r_op (o_extract rfl rfl rfl rfl) ?_
    refine r_op (o_assign rfl rfl) ?_
    refine r_op (o_assign rfl rfl) ?_
    refine r_op (o_assign rfl rfl) ?_
    refine r_end ?_
    refine t_seq ?_
    refine t_region ?_
    refine r_op (o_move rfl rfl) ?_
    refine r_op (o_move rfl rfl) ?_
    refine r_op (o_move rfl rfl) ?_
    refine r_op (o_call 0 0 false (Go.Proofs.enters_of Tryd.func6 (by kernel_rfl) rfl) (c_impl_PositionIndex ((rs2)) ((r3)) ((x4)) (by first | omega | assumption | (unfold okI; omega) | (have e := K1 (by assumption); omega) | (unfold okI; omega) | (have e1 := (KR _ (List.mem_of_getElem? (by assumption))).1; have e2 := fmtN_len (n := x4) (by omega); omega))) rfl (.cons rfl (.c .t0) (.cons rfl (.c .t0) (.cons rfl (.c .t0) .nil))) rfl rfl rfl) ?_
    refine r_op (o_assign rfl rfl) ?_
    refine r_end ?_
    refine t_seq ?_
    refine t_region ?_
    refine r_op (o_move rfl rfl) ?_
    refine r_opX (o_callG 0 0 (Go.Proofs.enters_of Tryd.func7 (by kernel_rfl) rfl) (c_spec_DrawIsReachable (code) (by first | omega | assumption | (unfold okI; omega) | (have e := K1 (by assumption); omega) | (unfold okI; omega) | (have e1 := (KR _ (List.mem_of_getElem? (by assumption))).1; have e2 := fmtN_len (n := x4) (by omega); omega))) rfl (.cons rfl (.c .t0) .nil) rfl rfl) ?_
    rintro ⟨⟨n10, es11, a12, b13⟩, hq14⟩
    try dsimp only at hq14
    try dsimp only
    obtain ⟨q15, q16, q17, q18⟩ := hq14
    have KS : ∀ (k : Nat) (e : Edg), es11[k]? = some e → reachB n10 es11 a12 b13 = true → e.1 = b13 → 0 ≤ e.2.1 → e.2.1 < n10 → reachB n10 es11 a12 e.2.1 = true := fun k e he h h1 h2 h3 => reach_step h (List.mem_of_getElem? he) h1 ⟨h2, h3⟩; have KF : ¬ n10 < 1 → ¬ 30 < n10 → ¬ a12 < 0 → ¬ n10 ≤ a12 → reachB n10 es11 a12 a12 = true := fun h1 h2 h3 h4 => reach_self (by omega) (by omega)
    refine r_op (o_move rfl rfl) ?_
    refine r_op (o_extract rfl rfl rfl rfl) ?_
    refine r_op (o_extract rfl rfl rfl rfl) ?_
    refine r_op (o_extract rfl rfl rfl rfl) ?_
    refine r_op (o_extract rfl rfl rfl rfl) ?_
    refine r_op (o_assign rfl rfl) ?_
    refine r_op (o_assign rfl rfl) ?_
    refine r_op (o_assign rfl rfl) ?_
    refine r_op (o_assign rfl rfl) ?_
    refine r_end ?_
    refine t_seq ?_
    refine t_region ?_
    refine r_op (o_move rfl rfl) ?_
    refine r_op (o_move rfl rfl) ?_
    refine r_op (o_move rfl rfl) ?_
    refine r_op (o_move rfl rfl) ?_
    refine r_op (o_call 0 0 false (Go.Proofs.enters_of Tryd.func8 (by kernel_rfl) rfl) (c_impl_IsReachable ((n10)) ((es11)) ((a12)) ((b13)) (by first | omega | assumption | (unfold okI; omega) | (have e := K1 (by assumption); omega) | (unfold okI; omega) | (have e1 := (KR _ (List.mem_of_getElem? (by assumption))).1; have e2 := fmtN_len (n := x4) (by omega); omega))) rfl (.cons rfl (.c .t0) (.cons rfl (.c .t0) (.cons rfl (.c .t0) (.cons rfl (.c .t0) .nil)))) rfl rfl rfl) ?_
    refine r_op (o_assign rfl rfl) ?_
    refine r_end ?_
    refine t_seq ?_
    refine t_seq ?_
    refine t_region ?_
    refine r_op (o_move rfl rfl) ?_
    refine r_op (o_move rfl rfl) ?_
    refine r_op (o_move rfl rfl) ?_
    refine r_op (o_move rfl rfl) ?_
    refine r_op (o_call 0 0 false (Go.Proofs.enters_of Tryd.func9 (by kernel_rfl) rfl) (c_spec_PositionIndex ((rs2)) ((r3)) ((x4)) (by first | omega | assumption | (unfold okI; omega) | (have e := K1 (by assumption); omega) | (unfold okI; omega) | (have e1 := (KR _ (List.mem_of_getElem? (by assumption))).1; have e2 := fmtN_len (n := x4) (by omega); omega))) rfl (.cons rfl (.c .t0) (.cons rfl (.c .t0) (.cons rfl (.c .t0) .nil))) rfl rfl rfl) ?_
    refine r_op (o_bin rfl rfl rfl rfl) ?_
    refine r_op (o_move rfl rfl) ?_
    refine r_guard rfl rfl rfl (fun g19 => ?_) (fun g19 => ?_)
    ·
      have g19' := of_decide_eq_false g19
      refine r_op (o_move rfl rfl) ?_
      refine r_guard rfl rfl rfl (fun _ => ?_) (ncf g19)
      refine r_op (o_call 0 0 false (Go.Proofs.enters_of Tryd.func10 (by kernel_rfl) rfl) (c_impl_PositionCount ((rs2)) (by first | omega | assumption | (unfold okI; omega) | (have e := K1 (by assumption); omega) | (unfold okI; omega) | (have e1 := (KR _ (List.mem_of_getElem? (by assumption))).1; have e2 := fmtN_len (n := x4) (by omega); omega))) rfl (.cons rfl (.c .t0) .nil) rfl rfl rfl) ?_
      refine r_guard rfl rfl rfl (fun _ => ?_) (ncf g19)
      refine r_op (o_move rfl rfl) ?_
      refine r_guard rfl rfl rfl (fun _ => ?_) (ncf g19)
      refine r_op (o_call 0 0 false (Go.Proofs.enters_of Tryd.func11 (by kernel_rfl) rfl) (c_spec_PositionCount ((rs2)) (by first | omega | assumption | (unfold okI; omega) | (have e := K1 (by assumption); omega) | (unfold okI; omega) | (have e1 := (KR _ (List.mem_of_getElem? (by assumption))).1; have e2 := fmtN_len (n := x4) (by omega); omega))) rfl (.cons rfl (.c .t0) .nil) rfl rfl rfl) ?_
      refine r_guard rfl rfl rfl (fun _ => ?_) (ncf g19)
      refine r_op (o_bin rfl rfl rfl rfl) ?_
      refine r_op (o_pickF rfl rfl g19 rfl) ?_
      refine r_op (o_move rfl rfl) ?_
      refine r_guard rfl rfl rfl (fun g20 => ?_) (fun g20 => ?_)
      ·
        have g20' := of_decide_eq_false g20
        refine r_op (o_move rfl rfl) ?_
        refine r_guard rfl rfl rfl (fun _ => ?_) (ncf g20)
        refine r_op (o_move rfl rfl) ?_
        refine r_guard rfl rfl rfl (fun _ => ?_) (ncf g20)
        refine r_op (o_move rfl rfl) ?_
        refine r_guard rfl rfl rfl (fun _ => ?_) (ncf g20)
        refine r_op (o_move rfl rfl) ?_
        refine r_guard rfl rfl rfl (fun _ => ?_) (ncf g20)
        refine r_op (o_move rfl rfl) ?_
        refine r_guard rfl rfl rfl (fun _ => ?_) (ncf g20)
        refine r_op (o_call 0 0 false (Go.Proofs.enters_of Tryd.func12 (by kernel_rfl) rfl) (c_spec_IsReachable ((n10)) ((es11)) ((a12)) ((b13)) (by first | omega | assumption | (unfold okI; omega) | (have e := K1 (by assumption); omega) | (unfold okI; omega) | (have e1 := (KR _ (List.mem_of_getElem? (by assumption))).1; have e2 := fmtN_len (n := x4) (by omega); omega))) rfl (.cons rfl (.c .t0) (.cons rfl (.c .t0) (.cons rfl (.c .t0) (.cons rfl (.c .t0) .nil)))) rfl rfl rfl) ?_
        refine r_guard rfl rfl rfl (fun _ => ?_) (ncf g20)
        refine r_op (o_neB rfl Tryd.underlying4 rfl rfl) ?_
        refine r_op (o_pickF rfl rfl g20 rfl) ?_
        refine r_end ?_
        refine t_cond rfl (fun h21 => ?_) (fun h21 => ?_)
        ·
          have h21' := h21
          refine t_seq ?_
          refine t_region ?_
          refine r_op (o_assign rfl rfl) ?_
          refine r_end ?_
          refine t_ret Tryd.func3 (.tmp rfl .nil) rfl fun E S w u hI hd => ?_
          refine post_mk hI hd ?_ trivial rfl rfl rfl <;> clear hI hd <;> (try clear ih0)
          all_goals first | rfl | (first | rfl | (exfalso; clear KR; grind) | (refine scB ?_; clear KR; grind))
        ·
          have h21' := h21
          refine t_skip ?_
          refine t_seq ?_
          refine t_seq ?_
          refine t_draw (fun _ => true) (by kernel_rfl) ?_
          refine d_take 0 rfl rfl (by kernel_rfl) (by kernel_rfl) (by kernel_rfl) (p_move rfl) ?_
          refine d_take 1 rfl rfl (by kernel_rfl) (by kernel_rfl) (by kernel_rfl) (p_bin rfl rfl rfl) ?_
          refine d_take 2 rfl rfl (by kernel_rfl) (by kernel_rfl) (by kernel_rfl) (p_move rfl) ?_
          refine d_guard 3 rfl rfl (by kernel_rfl) (by kernel_rfl) (by kernel_rfl) rfl rfl (fun _ => p_move rfl) (fun g22 => ?_) (fun g22 => ?_)
          ·
            have g22' := of_decide_eq_true g22
            refine d_guard 4 rfl rfl (by kernel_rfl) (by kernel_rfl) (by kernel_rfl) rfl rfl (fun _ => p_move rfl) (fun _ => ?_) (nc g22)
            refine d_onlyG 5 rfl rfl (by kernel_rfl) rfl rfl rfl (fun _ => (o_call 0 0 false (Go.Proofs.enters_of Tryd.func10 (by kernel_rfl) rfl) (c_impl_PositionCount ((rs2)) (by first | omega | assumption | (unfold okI; omega) | (have e := K1 (by assumption); omega) | (unfold okI; omega) | (have e1 := (KR _ (List.mem_of_getElem? (by assumption))).1; have e2 := fmtN_len (n := x4) (by omega); omega))) rfl (.cons rfl (.c .t0) .nil) rfl rfl rfl)) (fun _ => ?_) (nc g22)
            refine d_guard 6 rfl rfl (by kernel_rfl) (by kernel_rfl) (by kernel_rfl) rfl rfl (fun _ => p_bin rfl rfl rfl) (fun _ => ?_) (nc g22)
            refine d_guard 7 rfl rfl (by kernel_rfl) (by kernel_rfl) (by kernel_rfl) rfl rfl (fun _ => p_move rfl) (fun _ => ?_) (nc g22)
            refine d_guard 8 rfl rfl (by kernel_rfl) (by kernel_rfl) (by kernel_rfl) rfl rfl (fun _ => p_move rfl) (fun g23 => ?_) (fun g23 => ?_)
            ·
              have g23' := of_decide_eq_false g23
              refine d_guard 9 rfl rfl (by kernel_rfl) (by kernel_rfl) (by kernel_rfl) rfl rfl (fun _ => p_move rfl) (fun _ => ?_) (ncf g23)
              refine d_guard 11 rfl rfl (by kernel_rfl) (by kernel_rfl) (by kernel_rfl) rfl rfl (fun _ => p_move rfl) (fun _ => ?_) (ncf g23)
              refine d_guard 12 rfl rfl (by kernel_rfl) (by kernel_rfl) (by kernel_rfl) rfl rfl (fun _ => p_move rfl) (fun _ => ?_) (ncf g23)
              obtain ⟨z24, hz25, b26⟩ := at_get (xs := (rs2)) (n := (r3)) (by first | omega | assumption | (unfold okI; omega) | (have e := K1 (by assumption); omega) | (unfold okI; omega) | (have e1 := (KR _ (List.mem_of_getElem? (by assumption))).1; have e2 := fmtN_len (n := x4) (by omega); omega)) (by first | omega | assumption | (unfold okI; omega) | (have e := K1 (by assumption); omega) | (unfold okI; omega) | (have e1 := (KR _ (List.mem_of_getElem? (by assumption))).1; have e2 := fmtN_len (n := x4) (by omega); omega))
              refine d_guard 13 rfl rfl (by kernel_rfl) (by kernel_rfl) (by kernel_rfl) rfl rfl (fun _ => p_index (by kernel_rfl) rfl rfl b26 hz25) (fun _ => ?_) (ncf g23)
              refine d_guard 14 rfl rfl (by kernel_rfl) (by kernel_rfl) (by kernel_rfl) rfl rfl (fun _ => p_field (off := 0) (by kernel_rfl) rfl) (fun _ => ?_) (ncf g23)
              refine d_guard 15 rfl rfl (by kernel_rfl) (by kernel_rfl) (by kernel_rfl) rfl rfl (fun _ => p_load1 (by kernel_rfl) rfl rfl) (fun _ => ?_) (ncf g23)
              refine d_guard 16 rfl rfl (by kernel_rfl) (by kernel_rfl) (by kernel_rfl) rfl rfl (fun _ => p_move rfl) (fun _ => ?_) (ncf g23)
              refine d_onlyG 10 rfl rfl (by kernel_rfl) rfl rfl rfl (fun _ => (o_call 0 0 false (Go.Proofs.enters_of Tryd.func13 (by kernel_rfl) rfl) (c_impl_FormatPosition ((rs2)) (posIx ((rs2)) ((r3)) ((x4))) (by first | omega | assumption | (unfold okI; omega) | (have e := K1 (by assumption); omega) | (unfold okI; omega) | (have e1 := (KR _ (List.mem_of_getElem? (by assumption))).1; have e2 := fmtN_len (n := x4) (by omega); omega)) (by first | omega | assumption | (unfold okI; omega) | (have e := K1 (by assumption); omega) | (unfold okI; omega) | (have e1 := (KR _ (List.mem_of_getElem? (by assumption))).1; have e2 := fmtN_len (n := x4) (by omega); omega))) rfl (.cons rfl (.c .t0) (.cons rfl (.c .t0) .nil)) rfl rfl rfl)) (fun _ => ?_) (ncf g23)
              refine d_onlyG 17 rfl rfl (by kernel_rfl) rfl rfl rfl (fun _ => (o_call 0 0 false (Go.Proofs.enters_of Tryd.func14 (by kernel_rfl) rfl) (c_spec_FormatInt ((x4)) (by first | omega | assumption | (unfold okI; omega) | (have e := K1 (by assumption); omega) | (unfold okI; omega) | (have e1 := (KR _ (List.mem_of_getElem? (by assumption))).1; have e2 := fmtN_len (n := x4) (by omega); omega)) (by first | omega | assumption | (unfold okI; omega) | (have e := K1 (by assumption); omega) | (unfold okI; omega) | (have e1 := (KR _ (List.mem_of_getElem? (by assumption))).1; have e2 := fmtN_len (n := x4) (by omega); omega))) rfl (.cons rfl (.c .t0) .nil) rfl rfl rfl)) (fun _ => ?_) (ncf g23)
              refine d_guard 18 rfl rfl (by kernel_rfl) (by kernel_rfl) (by kernel_rfl) rfl rfl (fun _ => p_cat rfl rfl (by first | omega | assumption | (unfold okI; omega) | (have e := K1 (by assumption); omega) | (unfold okI; omega) | (have e1 := (KR _ (List.mem_of_getElem? (by assumption))).1; have e2 := fmtN_len (n := x4) (by omega); omega))) (fun _ => ?_) (ncf g23)
              refine d_guard 19 rfl rfl (by kernel_rfl) (by kernel_rfl) (by kernel_rfl) rfl rfl (fun _ => p_str rfl rfl rfl) (fun _ => ?_) (ncf g23)
              refine d_guard 20 rfl rfl (by kernel_rfl) (by kernel_rfl) (by kernel_rfl) rfl rfl (fun _ => p_pickF rfl g23 rfl) (fun _ => ?_) (nc g22)
              refine d_take 21 rfl rfl (by kernel_rfl) (by kernel_rfl) (by kernel_rfl) (p_pickT rfl g22 rfl) ?_
              refine d_end (by kernel_rfl) ?_
              refine t_cond rfl (fun h27 => ?_) (fun h27 => ?_)
              ·
                have h27' := of_decide_eq_true h27
                refine t_seq ?_
                refine t_region ?_
                refine r_op (o_assign rfl rfl) ?_
                refine r_end ?_
                refine t_ret Tryd.func3 (.tmp rfl .nil) rfl fun E S w u hI hd => ?_
                refine post_mk hI hd ?_ trivial rfl rfl rfl <;> clear hI hd <;> (try clear ih0)
                all_goals first | rfl | (first | rfl | (exfalso; clear KR; grind) | (refine scB ?_; clear KR; grind))
              ·
                have h27' := of_decide_eq_false h27
                refine t_skip ?_
                refine t_seq ?_
                refine t_seq ?_
                refine t_region ?_
                refine r_op (o_assign rfl rfl) ?_
                refine r_end ?_
                refine t_block ?_
                refine t_loopL (fun m => ⟨[(7, some (.c (.t none (.v (.int .i64 ((n10))))))), (8, some (.c (.t none (.sl 3 (enS3 encI encI encB) ((es11)))))), (9, some (.c (.t none (.v (.int .i64 ((a12))))))), (10, some (.c (.t none (.v (.int .i64 ((b13))))))), (11, some (.c (.t none (.v (.bool (reachB ((n10)) ((es11)) ((a12)) ((b13)))))))), (12, some (.c (.t none (.v (.int .i64 ((m : Int)))))))], [], 0⟩ : Nat → St) (fun m => m ≤ es11.length) (fun m => es11.length - m) 0 ⟨⟨rfl, ⟨rfl, ⟨rfl, ⟨rfl, ⟨rfl, ⟨rfl, trivial⟩⟩⟩⟩⟩⟩, trivial, rfl⟩ (by exact Nat.zero_le _) ?_
                rintro m hI ih0
                try dsimp only at hI ih0
                have i1 := hI
                refine t_seq ?_
                refine t_seq ?_
                refine t_region ?_
                refine r_op (o_move rfl rfl) ?_
                refine r_op (o_move rfl rfl) ?_
                refine r_op (o_len rfl rfl rfl) ?_
                refine r_op (o_bin rfl rfl rfl rfl) ?_
                refine r_op (o_move rfl rfl) ?_
                refine r_guard rfl rfl rfl (fun g28 => ?_) (fun g28 => ?_)
                ·
                  have g28' := of_decide_eq_true g28
                  refine r_op (o_move rfl rfl) ?_
                  refine r_op (o_pickT rfl rfl g28 rfl) ?_
                  refine r_end ?_
                  refine t_cond rfl (fun h29 => ?_) (fun h29 => ?_)
                  ·
                    have h29' := h29
                    refine t_skip ?_
                    refine t_seq ?_
                    refine t_block ?_
                    refine t_seq ?_
                    refine t_region ?_
                    refine r_op (o_move rfl rfl) ?_
                    refine r_op (o_move rfl rfl) ?_
                    obtain ⟨z30, hz31, b32⟩ := at_get (xs := (es11)) (n := (m : Int)) (by first | omega | assumption | (unfold okI; omega) | (have e := K1 (by assumption); omega) | (unfold okI; omega) | (have e1 := (KR _ (List.mem_of_getElem? (by assumption))).1; have e2 := fmtN_len (n := x4) (by omega); omega)) (by first | omega | assumption | (unfold okI; omega) | (have e := K1 (by assumption); omega) | (unfold okI; omega) | (have e1 := (KR _ (List.mem_of_getElem? (by assumption))).1; have e2 := fmtN_len (n := x4) (by omega); omega))
                    refine r_op (o_index rfl (by kernel_rfl) rfl rfl b32 hz31) ?_
                    refine r_op (o_field rfl (off := 0) (by kernel_rfl) rfl) ?_
                    refine r_op (o_load1 rfl (by kernel_rfl) rfl rfl) ?_
                    refine r_op (o_move rfl rfl) ?_
                    refine r_op (o_bin rfl rfl rfl rfl) ?_
                    refine r_op (o_move rfl rfl) ?_
                    refine r_guard rfl rfl rfl (fun g33 => ?_) (fun g33 => ?_)
                    ·
                      have g33' := of_decide_eq_true g33
                      refine r_op (o_move rfl rfl) ?_
                      refine r_guard rfl rfl rfl (fun _ => ?_) (nc g33)
                      refine r_op (o_move rfl rfl) ?_
                      refine r_guard rfl rfl rfl (fun _ => ?_) (nc g33)
                      refine r_op (o_index rfl (by kernel_rfl) rfl rfl b32 hz31) ?_
                      refine r_guard rfl rfl rfl (fun _ => ?_) (nc g33)
                      refine r_op (o_field rfl (off := 1) (by kernel_rfl) rfl) ?_
                      refine r_guard rfl rfl rfl (fun _ => ?_) (nc g33)
                      refine r_op (o_load1 rfl (by kernel_rfl) rfl rfl) ?_
                      refine r_guard rfl rfl rfl (fun _ => ?_) (nc g33)
                      refine r_op (o_bin rfl rfl rfl rfl) ?_
                      refine r_op (o_pickT rfl rfl g33 rfl) ?_
                      refine r_op (o_move rfl rfl) ?_
                      refine r_guard rfl rfl rfl (fun g34 => ?_) (fun g34 => ?_)
                      ·
                        have g34' := of_decide_eq_true g34
                        refine r_op (o_move rfl rfl) ?_
                        refine r_guard rfl rfl rfl (fun _ => ?_) (nc g34)
                        refine r_op (o_move rfl rfl) ?_
                        refine r_guard rfl rfl rfl (fun _ => ?_) (nc g34)
                        refine r_op (o_index rfl (by kernel_rfl) rfl rfl b32 hz31) ?_
                        refine r_guard rfl rfl rfl (fun _ => ?_) (nc g34)
                        refine r_op (o_field rfl (off := 1) (by kernel_rfl) rfl) ?_
                        refine r_guard rfl rfl rfl (fun _ => ?_) (nc g34)
                        refine r_op (o_load1 rfl (by kernel_rfl) rfl rfl) ?_
                        refine r_guard rfl rfl rfl (fun _ => ?_) (nc g34)
                        refine r_op (o_move rfl rfl) ?_
                        refine r_guard rfl rfl rfl (fun _ => ?_) (nc g34)
                        refine r_op (o_bin rfl rfl rfl rfl) ?_
                        refine r_op (o_pickT rfl rfl g34 rfl) ?_
                        refine r_op (o_move rfl rfl) ?_
                        refine r_guard rfl rfl rfl (fun g35 => ?_) (fun g35 => ?_)
                        ·
                          have g35' := of_decide_eq_true g35
                          refine r_op (o_move rfl rfl) ?_
                          refine r_guard rfl rfl rfl (fun _ => ?_) (nc g35)
                          refine r_op (o_move rfl rfl) ?_
                          refine r_guard rfl rfl rfl (fun _ => ?_) (nc g35)
                          refine r_op (o_move rfl rfl) ?_
                          refine r_guard rfl rfl rfl (fun _ => ?_) (nc g35)
                          refine r_op (o_move rfl rfl) ?_
                          refine r_guard rfl rfl rfl (fun _ => ?_) (nc g35)
                          refine r_op (o_move rfl rfl) ?_
                          refine r_guard rfl rfl rfl (fun _ => ?_) (nc g35)
                          refine r_op (o_index rfl (by kernel_rfl) rfl rfl b32 hz31) ?_
                          refine r_guard rfl rfl rfl (fun _ => ?_) (nc g35)
                          refine r_op (o_field rfl (off := 1) (by kernel_rfl) rfl) ?_
                          refine r_guard rfl rfl rfl (fun _ => ?_) (nc g35)
                          refine r_op (o_load1 rfl (by kernel_rfl) rfl rfl) ?_
                          refine r_guard rfl rfl rfl (fun _ => ?_) (nc g35)
                          refine r_op (o_call 0 0 false (Go.Proofs.enters_of Tryd.func8 (by kernel_rfl) rfl) (c_impl_IsReachable ((n10)) ((es11)) ((a12)) (z30.2.1) (by first | omega | assumption | (unfold okI; omega) | (have e := K1 (by assumption); omega) | (unfold okI; omega) | (have e1 := (KR _ (List.mem_of_getElem? (by assumption))).1; have e2 := fmtN_len (n := x4) (by omega); omega))) rfl (.cons rfl (.c .t0) (.cons rfl (.c .t0) (.cons rfl (.c .t0) (.cons rfl (.c .t0) .nil)))) rfl rfl rfl) ?_
                          refine r_guard rfl rfl rfl (fun _ => ?_) (nc g35)
                          refine r_op (o_not rfl rfl) ?_
                          refine r_op (o_pickT rfl rfl g35 rfl) ?_
                          refine r_end ?_
                          refine t_cond rfl (fun h36 => ?_) (fun h36 => ?_)
                          ·
                            have h36' := (bnt h36)
                            refine t_seq ?_
                            refine t_region ?_
                            refine r_op (o_assign rfl rfl) ?_
                            refine r_end ?_
                            refine t_ret Tryd.func3 (.tmp rfl .nil) rfl fun E S w u hI hd => ?_
                            refine post_mk hI hd ?_ trivial rfl rfl rfl <;> clear hI hd <;> (try clear ih0)
                            all_goals first | rfl | (first | rfl | (exfalso; clear KR; grind) | (refine scB ?_; clear KR; grind))
                          ·
                            have h36' := (bnf h36)
                            refine t_skip ?_
                            refine t_endblock ?_
                            refine t_region ?_
                            refine r_op (o_move rfl rfl) ?_
                            refine r_op (o_bin rfl rfl rfl rfl) ?_
                            refine r_op (o_assign rfl rfl) ?_
                            refine r_end ?_
                            refine t_le ?_ (ih0 (m + 1) (by (try dsimp only); omega) (by (try dsimp only); omega))
                            exact ⟨⟨rfl, ⟨rfl, ⟨rfl, ⟨rfl, ⟨rfl, ⟨(eqI (wr64 (by omega) (by omega))), trivial⟩⟩⟩⟩⟩⟩, trivial, rfl⟩
                        ·
                          have g35' := of_decide_eq_false g35
                          refine r_guard rfl rfl rfl (ncf g35) (fun _ => ?_)
                          refine r_guard rfl rfl rfl (ncf g35) (fun _ => ?_)
                          refine r_guard rfl rfl rfl (ncf g35) (fun _ => ?_)
                          refine r_guard rfl rfl rfl (ncf g35) (fun _ => ?_)
                          refine r_guard rfl rfl rfl (ncf g35) (fun _ => ?_)
                          refine r_guard rfl rfl rfl (ncf g35) (fun _ => ?_)
                          refine r_guard rfl rfl rfl (ncf g35) (fun _ => ?_)
                          refine r_guard rfl rfl rfl (ncf g35) (fun _ => ?_)
                          refine r_guard rfl rfl rfl (ncf g35) (fun _ => ?_)
                          refine r_op (o_pickF rfl rfl g35 rfl) ?_
                          refine r_end ?_
                          refine t_cond rfl (ncf rfl) (fun _ => ?_)
                          refine t_skip ?_
                          refine t_endblock ?_
                          refine t_region ?_
                          refine r_op (o_move rfl rfl) ?_
                          refine r_op (o_bin rfl rfl rfl rfl) ?_
                          refine r_op (o_assign rfl rfl) ?_
                          refine r_end ?_
                          refine t_le ?_ (ih0 (m + 1) (by (try dsimp only); omega) (by (try dsimp only); omega))
                          exact ⟨⟨rfl, ⟨rfl, ⟨rfl, ⟨rfl, ⟨rfl, ⟨(eqI (wr64 (by omega) (by omega))), trivial⟩⟩⟩⟩⟩⟩, trivial, rfl⟩
                      ·
                        have g34' := of_decide_eq_false g34
                        refine r_guard rfl rfl rfl (ncf g34) (fun _ => ?_)
                        refine r_guard rfl rfl rfl (ncf g34) (fun _ => ?_)
                        refine r_guard rfl rfl rfl (ncf g34) (fun _ => ?_)
                        refine r_guard rfl rfl rfl (ncf g34) (fun _ => ?_)
                        refine r_guard rfl rfl rfl (ncf g34) (fun _ => ?_)
                        refine r_guard rfl rfl rfl (ncf g34) (fun _ => ?_)
                        refine r_op (o_pickF rfl rfl g34 rfl) ?_
                        refine r_op (o_move rfl rfl) ?_
                        refine r_guard rfl rfl rfl (ncf rfl) (fun _ => ?_)
                        refine r_guard rfl rfl rfl (ncf rfl) (fun _ => ?_)
                        refine r_guard rfl rfl rfl (ncf rfl) (fun _ => ?_)
                        refine r_guard rfl rfl rfl (ncf rfl) (fun _ => ?_)
                        refine r_guard rfl rfl rfl (ncf rfl) (fun _ => ?_)
                        refine r_guard rfl rfl rfl (ncf rfl) (fun _ => ?_)
                        refine r_guard rfl rfl rfl (ncf rfl) (fun _ => ?_)
                        refine r_guard rfl rfl rfl (ncf rfl) (fun _ => ?_)
                        refine r_guard rfl rfl rfl (ncf rfl) (fun _ => ?_)
                        refine r_guard rfl rfl rfl (ncf rfl) (fun _ => ?_)
                        refine r_op (o_pickF rfl rfl rfl rfl) ?_
                        refine r_end ?_
                        refine t_cond rfl (ncf rfl) (fun _ => ?_)
                        refine t_skip ?_
                        refine t_endblock ?_
                        refine t_region ?_
                        refine r_op (o_move rfl rfl) ?_
                        refine r_op (o_bin rfl rfl rfl rfl) ?_
                        refine r_op (o_assign rfl rfl) ?_
                        refine r_end ?_
                        refine t_le ?_ (ih0 (m + 1) (by (try dsimp only); omega) (by (try dsimp only); omega))
                        exact ⟨⟨rfl, ⟨rfl, ⟨rfl, ⟨rfl, ⟨rfl, ⟨(eqI (wr64 (by omega) (by omega))), trivial⟩⟩⟩⟩⟩⟩, trivial, rfl⟩
                    ·
                      have g33' := of_decide_eq_false g33
                      refine r_guard rfl rfl rfl (ncf g33) (fun _ => ?_)
                      refine r_guard rfl rfl rfl (ncf g33) (fun _ => ?_)
                      refine r_guard rfl rfl rfl (ncf g33) (fun _ => ?_)
                      refine r_guard rfl rfl rfl (ncf g33) (fun _ => ?_)
                      refine r_guard rfl rfl rfl (ncf g33) (fun _ => ?_)
                      refine r_op (o_pickF rfl rfl g33 rfl) ?_
                      refine r_op (o_move rfl rfl) ?_
                      refine r_guard rfl rfl rfl (ncf rfl) (fun _ => ?_)
                      refine r_guard rfl rfl rfl (ncf rfl) (fun _ => ?_)
                      refine r_guard rfl rfl rfl (ncf rfl) (fun _ => ?_)
                      refine r_guard rfl rfl rfl (ncf rfl) (fun _ => ?_)
                      refine r_guard rfl rfl rfl (ncf rfl) (fun _ => ?_)
                      refine r_guard rfl rfl rfl (ncf rfl) (fun _ => ?_)
                      refine r_guard rfl rfl rfl (ncf rfl) (fun _ => ?_)
                      refine r_op (o_pickF rfl rfl rfl rfl) ?_
                      refine r_op (o_move rfl rfl) ?_
                      refine r_guard rfl rfl rfl (ncf rfl) (fun _ => ?_)
                      refine r_guard rfl rfl rfl (ncf rfl) (fun _ => ?_)
                      refine r_guard rfl rfl rfl (ncf rfl) (fun _ => ?_)
                      refine r_guard rfl rfl rfl (ncf rfl) (fun _ => ?_)
                      refine r_guard rfl rfl rfl (ncf rfl) (fun _ => ?_)
                      refine r_guard rfl rfl rfl (ncf rfl) (fun _ => ?_)
                      refine r_guard rfl rfl rfl (ncf rfl) (fun _ => ?_)
                      refine r_guard rfl rfl rfl (ncf rfl) (fun _ => ?_)
                      refine r_guard rfl rfl rfl (ncf rfl) (fun _ => ?_)
                      refine r_guard rfl rfl rfl (ncf rfl) (fun _ => ?_)
                      refine r_op (o_pickF rfl rfl rfl rfl) ?_
                      refine r_end ?_
                      refine t_cond rfl (ncf rfl) (fun _ => ?_)
                      refine t_skip ?_
                      refine t_endblock ?_
                      refine t_region ?_
                      refine r_op (o_move rfl rfl) ?_
                      refine r_op (o_bin rfl rfl rfl rfl) ?_
                      refine r_op (o_assign rfl rfl) ?_
                      refine r_end ?_
                      refine t_le ?_ (ih0 (m + 1) (by (try dsimp only); omega) (by (try dsimp only); omega))
                      exact ⟨⟨rfl, ⟨rfl, ⟨rfl, ⟨rfl, ⟨rfl, ⟨(eqI (wr64 (by omega) (by omega))), trivial⟩⟩⟩⟩⟩⟩, trivial, rfl⟩
                  ·
                    have h29' := h29
                    refine t_exit rfl ?_
                    refine t_seq ?_
                    refine t_region ?_
                    refine r_op (o_move rfl rfl) ?_
                    refine r_op (o_bin rfl rfl rfl rfl) ?_
                    refine r_op (o_move rfl rfl) ?_
                    refine r_guard rfl rfl rfl (fun g37 => ?_) (fun g37 => ?_)
                    ·
                      have g37' := of_decide_eq_false g37
                      refine r_op (o_move rfl rfl) ?_
                      refine r_guard rfl rfl rfl (fun _ => ?_) (ncf g37)
                      refine r_op (o_bin rfl rfl rfl rfl) ?_
                      refine r_op (o_pickF rfl rfl g37 rfl) ?_
                      refine r_op (o_move rfl rfl) ?_
                      refine r_guard rfl rfl rfl (fun g38 => ?_) (fun g38 => ?_)
                      ·
                        have g38' := of_decide_eq_false g38
                        refine r_op (o_move rfl rfl) ?_
                        refine r_guard rfl rfl rfl (fun _ => ?_) (ncf g38)
                        refine r_op (o_bin rfl rfl rfl rfl) ?_
                        refine r_op (o_pickF rfl rfl g38 rfl) ?_
                        refine r_op (o_move rfl rfl) ?_
                        refine r_guard rfl rfl rfl (fun g39 => ?_) (fun g39 => ?_)
                        ·
                          have g39' := of_decide_eq_false g39
                          refine r_op (o_move rfl rfl) ?_
                          refine r_guard rfl rfl rfl (fun _ => ?_) (ncf g39)
                          refine r_op (o_move rfl rfl) ?_
                          refine r_guard rfl rfl rfl (fun _ => ?_) (ncf g39)
                          refine r_op (o_bin rfl rfl rfl rfl) ?_
                          refine r_op (o_pickF rfl rfl g39 rfl) ?_
                          refine r_op (o_move rfl rfl) ?_
                          refine r_guard rfl rfl rfl (fun g40 => ?_) (fun g40 => ?_)
                          ·
                            have g40' := of_decide_eq_false g40
                            refine r_op (o_move rfl rfl) ?_
                            refine r_guard rfl rfl rfl (fun _ => ?_) (ncf g40)
                            refine r_op (o_move rfl rfl) ?_
                            refine r_guard rfl rfl rfl (fun _ => ?_) (ncf g40)
                            refine r_op (o_move rfl rfl) ?_
                            refine r_guard rfl rfl rfl (fun _ => ?_) (ncf g40)
                            refine r_op (o_move rfl rfl) ?_
                            refine r_guard rfl rfl rfl (fun _ => ?_) (ncf g40)
                            refine r_op (o_call 0 0 false (Go.Proofs.enters_of Tryd.func8 (by kernel_rfl) rfl) (c_impl_IsReachable ((n10)) ((es11)) ((a12)) ((a12)) (by first | omega | assumption | (unfold okI; omega) | (have e := K1 (by assumption); omega) | (unfold okI; omega) | (have e1 := (KR _ (List.mem_of_getElem? (by assumption))).1; have e2 := fmtN_len (n := x4) (by omega); omega))) rfl (.cons rfl (.c .t0) (.cons rfl (.c .t0) (.cons rfl (.c .t0) (.cons rfl (.c .t0) .nil)))) rfl rfl rfl) ?_
                            refine r_op (o_pickF rfl rfl g40 rfl) ?_
                            refine r_op (o_assign rfl rfl) ?_
                            refine r_end ?_
                            refine t_ret Tryd.func3 (.tmp rfl .nil) rfl fun E S w u hI hd => ?_
                            refine post_mk hI hd ?_ trivial rfl rfl rfl <;> clear hI hd <;> (try clear ih0)
                            all_goals first | rfl | (first | rfl | (exfalso; clear KR; grind) | (refine scB ?_; clear KR; grind))
                          ·
                            have g40' := of_decide_eq_true g40
                            refine r_guard rfl rfl rfl (nc g40) (fun _ => ?_)
                            refine r_guard rfl rfl rfl (nc g40) (fun _ => ?_)
                            refine r_guard rfl rfl rfl (nc g40) (fun _ => ?_)
                            refine r_guard rfl rfl rfl (nc g40) (fun _ => ?_)
                            refine r_op (o_pickT rfl rfl g40 rfl) ?_
                            refine r_op (o_assign rfl rfl) ?_
                            refine r_end ?_
                            refine t_ret Tryd.func3 (.tmp rfl .nil) rfl fun E S w u hI hd => ?_
                            refine post_mk hI hd ?_ trivial rfl rfl rfl <;> clear hI hd <;> (try clear ih0)
                            all_goals first | rfl | (first | rfl | (exfalso; clear KR; grind) | (refine scB ?_; clear KR; grind))
                        ·
                          have g39' := of_decide_eq_true g39
                          refine r_guard rfl rfl rfl (nc g39) (fun _ => ?_)
                          refine r_guard rfl rfl rfl (nc g39) (fun _ => ?_)
                          refine r_op (o_pickT rfl rfl g39 rfl) ?_
                          refine r_op (o_move rfl rfl) ?_
                          refine r_guard rfl rfl rfl (nc rfl) (fun _ => ?_)
                          refine r_guard rfl rfl rfl (nc rfl) (fun _ => ?_)
                          refine r_guard rfl rfl rfl (nc rfl) (fun _ => ?_)
                          refine r_guard rfl rfl rfl (nc rfl) (fun _ => ?_)
                          refine r_guard rfl rfl rfl (nc rfl) (fun _ => ?_)
                          refine r_op (o_pickT rfl rfl rfl rfl) ?_
                          refine r_op (o_assign rfl rfl) ?_
                          refine r_end ?_
                          refine t_ret Tryd.func3 (.tmp rfl .nil) rfl fun E S w u hI hd => ?_
                          refine post_mk hI hd ?_ trivial rfl rfl rfl <;> clear hI hd <;> (try clear ih0)
                          all_goals first | rfl | (first | rfl | (exfalso; clear KR; grind) | (refine scB ?_; clear KR; grind))
                      ·
                        have g38' := of_decide_eq_true g38
                        refine r_guard rfl rfl rfl (nc g38) (fun _ => ?_)
                        refine r_op (o_pickT rfl rfl g38 rfl) ?_
                        refine r_op (o_move rfl rfl) ?_
                        refine r_guard rfl rfl rfl (nc rfl) (fun _ => ?_)
                        refine r_guard rfl rfl rfl (nc rfl) (fun _ => ?_)
                        refine r_guard rfl rfl rfl (nc rfl) (fun _ => ?_)
                        refine r_op (o_pickT rfl rfl rfl rfl) ?_
                        refine r_op (o_move rfl rfl) ?_
                        refine r_guard rfl rfl rfl (nc rfl) (fun _ => ?_)
                        refine r_guard rfl rfl rfl (nc rfl) (fun _ => ?_)
                        refine r_guard rfl rfl rfl (nc rfl) (fun _ => ?_)
                        refine r_guard rfl rfl rfl (nc rfl) (fun _ => ?_)
                        refine r_guard rfl rfl rfl (nc rfl) (fun _ => ?_)
                        refine r_op (o_pickT rfl rfl rfl rfl) ?_
                        refine r_op (o_assign rfl rfl) ?_
                        refine r_end ?_
                        refine t_ret Tryd.func3 (.tmp rfl .nil) rfl fun E S w u hI hd => ?_
                        refine post_mk hI hd ?_ trivial rfl rfl rfl <;> clear hI hd <;> (try clear ih0)
                        all_goals first | rfl | (first | rfl | (exfalso; clear KR; grind) | (refine scB ?_; clear KR; grind))
                    ·
                      have g37' := of_decide_eq_true g37
                      refine r_guard rfl rfl rfl (nc g37) (fun _ => ?_)
                      refine r_op (o_pickT rfl rfl g37 rfl) ?_
                      refine r_op (o_move rfl rfl) ?_
                      refine r_guard rfl rfl rfl (nc rfl) (fun _ => ?_)
                      refine r_guard rfl rfl rfl (nc rfl) (fun _ => ?_)
                      refine r_op (o_pickT rfl rfl rfl rfl) ?_
                      refine r_op (o_move rfl rfl) ?_
                      refine r_guard rfl rfl rfl (nc rfl) (fun _ => ?_)
                      refine r_guard rfl rfl rfl (nc rfl) (fun _ => ?_)
                      refine r_guard rfl rfl rfl (nc rfl) (fun _ => ?_)
                      refine r_op (o_pickT rfl rfl rfl rfl) ?_
                      refine r_op (o_move rfl rfl) ?_
                      refine r_guard rfl rfl rfl (nc rfl) (fun _ => ?_)
                      refine r_guard rfl rfl rfl (nc rfl) (fun _ => ?_)
                      refine r_guard rfl rfl rfl (nc rfl) (fun _ => ?_)
                      refine r_guard rfl rfl rfl (nc rfl) (fun _ => ?_)
                      refine r_guard rfl rfl rfl (nc rfl) (fun _ => ?_)
                      refine r_op (o_pickT rfl rfl rfl rfl) ?_
                      refine r_op (o_assign rfl rfl) ?_
                      refine r_end ?_
                      refine t_ret Tryd.func3 (.tmp rfl .nil) rfl fun E S w u hI hd => ?_
                      refine post_mk hI hd ?_ trivial rfl rfl rfl <;> clear hI hd <;> (try clear ih0)
                      all_goals first | rfl | (first | rfl | (exfalso; clear KR; grind) | (refine scB ?_; clear KR; grind))
                ·
                  have g28' := of_decide_eq_false g28
                  refine r_op (o_pickF rfl rfl g28 rfl) ?_
                  refine r_end ?_
                  refine t_cond rfl (ncf rfl) (fun _ => ?_)
                  refine t_exit rfl ?_
                  refine t_seq ?_
                  refine t_region ?_
                  refine r_op (o_move rfl rfl) ?_
                  refine r_op (o_bin rfl rfl rfl rfl) ?_
                  refine r_op (o_move rfl rfl) ?_
                  refine r_guard rfl rfl rfl (fun g41 => ?_) (fun g41 => ?_)
                  ·
                    have g41' := of_decide_eq_false g41
                    refine r_op (o_move rfl rfl) ?_
                    refine r_guard rfl rfl rfl (fun _ => ?_) (ncf g41)
                    refine r_op (o_bin rfl rfl rfl rfl) ?_
                    refine r_op (o_pickF rfl rfl g41 rfl) ?_
                    refine r_op (o_move rfl rfl) ?_
                    refine r_guard rfl rfl rfl (fun g42 => ?_) (fun g42 => ?_)
                    ·
                      have g42' := of_decide_eq_false g42
                      refine r_op (o_move rfl rfl) ?_
                      refine r_guard rfl rfl rfl (fun _ => ?_) (ncf g42)
                      refine r_op (o_bin rfl rfl rfl rfl) ?_
                      refine r_op (o_pickF rfl rfl g42 rfl) ?_
                      refine r_op (o_move rfl rfl) ?_
                      refine r_guard rfl rfl rfl (fun g43 => ?_) (fun g43 => ?_)
                      ·
                        have g43' := of_decide_eq_false g43
                        refine r_op (o_move rfl rfl) ?_
                        refine r_guard rfl rfl rfl (fun _ => ?_) (ncf g43)
                        refine r_op (o_move rfl rfl) ?_
                        refine r_guard rfl rfl rfl (fun _ => ?_) (ncf g43)
                        refine r_op (o_bin rfl rfl rfl rfl) ?_
                        refine r_op (o_pickF rfl rfl g43 rfl) ?_
                        refine r_op (o_move rfl rfl) ?_
                        refine r_guard rfl rfl rfl (fun g44 => ?_) (fun g44 => ?_)
                        ·
                          have g44' := of_decide_eq_false g44
                          refine r_op (o_move rfl rfl) ?_
                          refine r_guard rfl rfl rfl (fun _ => ?_) (ncf g44)
                          refine r_op (o_move rfl rfl) ?_
                          refine r_guard rfl rfl rfl (fun _ => ?_) (ncf g44)
                          refine r_op (o_move rfl rfl) ?_
                          refine r_guard rfl rfl rfl (fun _ => ?_) (ncf g44)
                          refine r_op (o_move rfl rfl) ?_
                          refine r_guard rfl rfl rfl (fun _ => ?_) (ncf g44)
                          refine r_op (o_call 0 0 false (Go.Proofs.enters_of Tryd.func8 (by kernel_rfl) rfl) (c_impl_IsReachable ((n10)) ((es11)) ((a12)) ((a12)) (by first | omega | assumption | (unfold okI; omega) | (have e := K1 (by assumption); omega) | (unfold okI; omega) | (have e1 := (KR _ (List.mem_of_getElem? (by assumption))).1; have e2 := fmtN_len (n := x4) (by omega); omega))) rfl (.cons rfl (.c .t0) (.cons rfl (.c .t0) (.cons rfl (.c .t0) (.cons rfl (.c .t0) .nil)))) rfl rfl rfl) ?_
                          refine r_op (o_pickF rfl rfl g44 rfl) ?_
                          refine r_op (o_assign rfl rfl) ?_
                          refine r_end ?_
                          refine t_ret Tryd.func3 (.tmp rfl .nil) rfl fun E S w u hI hd => ?_
                          refine post_mk hI hd ?_ trivial rfl rfl rfl <;> clear hI hd <;> (try clear ih0)
                          all_goals first | rfl | (first | rfl | (exfalso; clear KR; grind) | (refine scB ?_; clear KR; grind))
                        ·
                          have g44' := of_decide_eq_true g44
                          refine r_guard rfl rfl rfl (nc g44) (fun _ => ?_)
                          refine r_guard rfl rfl rfl (nc g44) (fun _ => ?_)
                          refine r_guard rfl rfl rfl (nc g44) (fun _ => ?_)
                          refine r_guard rfl rfl rfl (nc g44) (fun _ => ?_)
                          refine r_op (o_pickT rfl rfl g44 rfl) ?_
                          refine r_op (o_assign rfl rfl) ?_
                          refine r_end ?_
                          refine t_ret Tryd.func3 (.tmp rfl .nil) rfl fun E S w u hI hd => ?_
                          refine post_mk hI hd ?_ trivial rfl rfl rfl <;> clear hI hd <;> (try clear ih0)
                          all_goals first | rfl | (first | rfl | (exfalso; clear KR; grind) | (refine scB ?_; clear KR; grind))
                      ·
                        have g43' := of_decide_eq_true g43
                        refine r_guard rfl rfl rfl (nc g43) (fun _ => ?_)
                        refine r_guard rfl rfl rfl (nc g43) (fun _ => ?_)
                        refine r_op (o_pickT rfl rfl g43 rfl) ?_
                        refine r_op (o_move rfl rfl) ?_
                        refine r_guard rfl rfl rfl (nc rfl) (fun _ => ?_)
                        refine r_guard rfl rfl rfl (nc rfl) (fun _ => ?_)
                        refine r_guard rfl rfl rfl (nc rfl) (fun _ => ?_)
                        refine r_guard rfl rfl rfl (nc rfl) (fun _ => ?_)
                        refine r_guard rfl rfl rfl (nc rfl) (fun _ => ?_)
                        refine r_op (o_pickT rfl rfl rfl rfl) ?_
                        refine r_op (o_assign rfl rfl) ?_
                        refine r_end ?_
                        refine t_ret Tryd.func3 (.tmp rfl .nil) rfl fun E S w u hI hd => ?_
                        refine post_mk hI hd ?_ trivial rfl rfl rfl <;> clear hI hd <;> (try clear ih0)
                        all_goals first | rfl | (first | rfl | (exfalso; clear KR; grind) | (refine scB ?_; clear KR; grind))
                    ·
                      have g42' := of_decide_eq_true g42
                      refine r_guard rfl rfl rfl (nc g42) (fun _ => ?_)
                      refine r_op (o_pickT rfl rfl g42 rfl) ?_
                      refine r_op (o_move rfl rfl) ?_
                      refine r_guard rfl rfl rfl (nc rfl) (fun _ => ?_)
                      refine r_guard rfl rfl rfl (nc rfl) (fun _ => ?_)
                      refine r_guard rfl rfl rfl (nc rfl) (fun _ => ?_)
                      refine r_op (o_pickT rfl rfl rfl rfl) ?_
                      refine r_op (o_move rfl rfl) ?_
                      refine r_guard rfl rfl rfl (nc rfl) (fun _ => ?_)
                      refine r_guard rfl rfl rfl (nc rfl) (fun _ => ?_)
                      refine r_guard rfl rfl rfl (nc rfl) (fun _ => ?_)
                      refine r_guard rfl rfl rfl (nc rfl) (fun _ => ?_)
                      refine r_guard rfl rfl rfl (nc rfl) (fun _ => ?_)
                      refine r_op (o_pickT rfl rfl rfl rfl) ?_
                      refine r_op (o_assign rfl rfl) ?_
                      refine r_end ?_
                      refine t_ret Tryd.func3 (.tmp rfl .nil) rfl fun E S w u hI hd => ?_
                      refine post_mk hI hd ?_ trivial rfl rfl rfl <;> clear hI hd <;> (try clear ih0)
                      all_goals first | rfl | (first | rfl | (exfalso; clear KR; grind) | (refine scB ?_; clear KR; grind))
                  ·
                    have g41' := of_decide_eq_true g41
                    refine r_guard rfl rfl rfl (nc g41) (fun _ => ?_)
                    refine r_op (o_pickT rfl rfl g41 rfl) ?_
                    refine r_op (o_move rfl rfl) ?_
                    refine r_guard rfl rfl rfl (nc rfl) (fun _ => ?_)
                    refine r_guard rfl rfl rfl (nc rfl) (fun _ => ?_)
                    refine r_op (o_pickT rfl rfl rfl rfl) ?_
                    refine r_op (o_move rfl rfl) ?_
                    refine r_guard rfl rfl rfl (nc rfl) (fun _ => ?_)
                    refine r_guard rfl rfl rfl (nc rfl) (fun _ => ?_)
                    refine r_guard rfl rfl rfl (nc rfl) (fun _ => ?_)
                    refine r_op (o_pickT rfl rfl rfl rfl) ?_
                    refine r_op (o_move rfl rfl) ?_
                    refine r_guard rfl rfl rfl (nc rfl) (fun _ => ?_)
                    refine r_guard rfl rfl rfl (nc rfl) (fun _ => ?_)
                    refine r_guard rfl rfl rfl (nc rfl) (fun _ => ?_)
                    refine r_guard rfl rfl rfl (nc rfl) (fun _ => ?_)
                    refine r_guard rfl rfl rfl (nc rfl) (fun _ => ?_)
                    refine r_op (o_pickT rfl rfl rfl rfl) ?_
                    refine r_op (o_assign rfl rfl) ?_
                    refine r_end ?_
                    refine t_ret Tryd.func3 (.tmp rfl .nil) rfl fun E S w u hI hd => ?_
                    refine post_mk hI hd ?_ trivial rfl rfl rfl <;> clear hI hd <;> (try clear ih0)
                    all_goals first | rfl | (first | rfl | (exfalso; clear KR; grind) | (refine scB ?_; clear KR; grind))
            ·
              have g23' := of_decide_eq_true g23
              refine d_guard 9 rfl rfl (by kernel_rfl) (by kernel_rfl) (by kernel_rfl) rfl rfl (v := .c .top) (nc g23) (nc g23) (fun _ => ?_)
              refine d_guard 10 rfl rfl (by kernel_rfl) (by kernel_rfl) (by kernel_rfl) rfl rfl (v := .c .top) (nc g23) (nc g23) (fun _ => ?_)
              refine d_guard 11 rfl rfl (by kernel_rfl) (by kernel_rfl) (by kernel_rfl) rfl rfl (v := .c .top) (nc g23) (nc g23) (fun _ => ?_)
              refine d_guard 12 rfl rfl (by kernel_rfl) (by kernel_rfl) (by kernel_rfl) rfl rfl (v := .c .top) (nc g23) (nc g23) (fun _ => ?_)
              refine d_guard 13 rfl rfl (by kernel_rfl) (by kernel_rfl) (by kernel_rfl) rfl rfl (v := .c .top) (nc g23) (nc g23) (fun _ => ?_)
              refine d_guard 14 rfl rfl (by kernel_rfl) (by kernel_rfl) (by kernel_rfl) rfl rfl (v := .c .top) (nc g23) (nc g23) (fun _ => ?_)
              refine d_guard 15 rfl rfl (by kernel_rfl) (by kernel_rfl) (by kernel_rfl) rfl rfl (v := .c .top) (nc g23) (nc g23) (fun _ => ?_)
              refine d_guard 16 rfl rfl (by kernel_rfl) (by kernel_rfl) (by kernel_rfl) rfl rfl (v := .c .top) (nc g23) (nc g23) (fun _ => ?_)
              refine d_guard 17 rfl rfl (by kernel_rfl) (by kernel_rfl) (by kernel_rfl) rfl rfl (v := .c .top) (nc g23) (nc g23) (fun _ => ?_)
              refine d_guard 18 rfl rfl (by kernel_rfl) (by kernel_rfl) (by kernel_rfl) rfl rfl (v := .c .top) (nc g23) (nc g23) (fun _ => ?_)
              refine d_guard 19 rfl rfl (by kernel_rfl) (by kernel_rfl) (by kernel_rfl) rfl rfl (v := .c .top) (nc g23) (nc g23) (fun _ => ?_)
              refine d_guard 20 rfl rfl (by kernel_rfl) (by kernel_rfl) (by kernel_rfl) rfl rfl (fun _ => p_pickT rfl g23 rfl) (fun _ => ?_) (nc g22)
              refine d_take 21 rfl rfl (by kernel_rfl) (by kernel_rfl) (by kernel_rfl) (p_pickT rfl g22 rfl) ?_
              refine d_end (by kernel_rfl) ?_
              refine t_cond rfl (fun _ => ?_) (nc rfl)
              refine t_seq ?_
              refine t_region ?_
              refine r_op (o_assign rfl rfl) ?_
              refine r_end ?_
              refine t_ret Tryd.func3 (.tmp rfl .nil) rfl fun E S w u hI hd => ?_
              refine post_mk hI hd ?_ trivial rfl rfl rfl <;> clear hI hd <;> (try clear ih0)
              all_goals first | rfl | (first | rfl | (exfalso; clear KR; grind) | (refine scB ?_; clear KR; grind))
          ·
            have g22' := of_decide_eq_false g22
            refine d_guard 4 rfl rfl (by kernel_rfl) (by kernel_rfl) (by kernel_rfl) rfl rfl (v := .c .top) (ncf g22) (ncf g22) (fun _ => ?_)
            refine d_guard 5 rfl rfl (by kernel_rfl) (by kernel_rfl) (by kernel_rfl) rfl rfl (v := .c .top) (ncf g22) (ncf g22) (fun _ => ?_)
            refine d_guard 6 rfl rfl (by kernel_rfl) (by kernel_rfl) (by kernel_rfl) rfl rfl (v := .c .top) (ncf g22) (ncf g22) (fun _ => ?_)
            refine d_guard 7 rfl rfl (by kernel_rfl) (by kernel_rfl) (by kernel_rfl) rfl rfl (v := .c .top) (ncf g22) (ncf g22) (fun _ => ?_)
            refine d_skip 8 rfl rfl (by kernel_rfl) (by kernel_rfl) (by kernel_rfl) rfl rfl ?_
            refine d_skip 9 rfl rfl (by kernel_rfl) (by kernel_rfl) (by kernel_rfl) rfl rfl ?_
            refine d_skip 10 rfl rfl (by kernel_rfl) (by kernel_rfl) (by kernel_rfl) rfl rfl ?_
            refine d_skip 11 rfl rfl (by kernel_rfl) (by kernel_rfl) (by kernel_rfl) rfl rfl ?_
            refine d_skip 12 rfl rfl (by kernel_rfl) (by kernel_rfl) (by kernel_rfl) rfl rfl ?_
            refine d_skip 13 rfl rfl (by kernel_rfl) (by kernel_rfl) (by kernel_rfl) rfl rfl ?_
            refine d_skip 14 rfl rfl (by kernel_rfl) (by kernel_rfl) (by kernel_rfl) rfl rfl ?_
            refine d_skip 15 rfl rfl (by kernel_rfl) (by kernel_rfl) (by kernel_rfl) rfl rfl ?_
            refine d_skip 16 rfl rfl (by kernel_rfl) (by kernel_rfl) (by kernel_rfl) rfl rfl ?_
            refine d_skip 17 rfl rfl (by kernel_rfl) (by kernel_rfl) (by kernel_rfl) rfl rfl ?_
            refine d_skip 18 rfl rfl (by kernel_rfl) (by kernel_rfl) (by kernel_rfl) rfl rfl ?_
            refine d_skip 19 rfl rfl (by kernel_rfl) (by kernel_rfl) (by kernel_rfl) rfl rfl ?_
            refine d_guard 20 rfl rfl (by kernel_rfl) (by kernel_rfl) (by kernel_rfl) rfl rfl (v := .c .top) (ncf g22) (ncf g22) (fun _ => ?_)
            refine d_take 21 rfl rfl (by kernel_rfl) (by kernel_rfl) (by kernel_rfl) (p_pickF rfl g22 rfl) ?_
            refine d_end (by kernel_rfl) ?_
            refine t_cond rfl (ncf rfl) (fun _ => ?_)
            refine t_skip ?_
            refine t_seq ?_
            refine t_seq ?_
            refine t_region ?_
            refine r_op (o_assign rfl rfl) ?_
            refine r_end ?_
            refine t_block ?_
            refine t_loopL (fun m => ⟨[(7, some (.c (.t none (.v (.int .i64 ((n10))))))), (8, some (.c (.t none (.sl 3 (enS3 encI encI encB) ((es11)))))), (9, some (.c (.t none (.v (.int .i64 ((a12))))))), (10, some (.c (.t none (.v (.int .i64 ((b13))))))), (11, some (.c (.t none (.v (.bool (reachB ((n10)) ((es11)) ((a12)) ((b13)))))))), (12, some (.c (.t none (.v (.int .i64 ((m : Int)))))))], [], 0⟩ : Nat → St) (fun m => m ≤ es11.length) (fun m => es11.length - m) 0 ⟨⟨rfl, ⟨rfl, ⟨rfl, ⟨rfl, ⟨rfl, ⟨rfl, trivial⟩⟩⟩⟩⟩⟩, trivial, rfl⟩ (by exact Nat.zero_le _) ?_
            rintro m hI ih0
            try dsimp only at hI ih0
            have i1 := hI
            refine t_seq ?_
            refine t_seq ?_
            refine t_region ?_
            refine r_op (o_move rfl rfl) ?_
            refine r_op (o_move rfl rfl) ?_
            refine r_op (o_len rfl rfl rfl) ?_
            refine r_op (o_bin rfl rfl rfl rfl) ?_
            refine r_op (o_move rfl rfl) ?_
            refine r_guard rfl rfl rfl (fun g45 => ?_) (fun g45 => ?_)
            ·
              have g45' := of_decide_eq_true g45
              refine r_op (o_move rfl rfl) ?_
              refine r_op (o_pickT rfl rfl g45 rfl) ?_
              refine r_end ?_
              refine t_cond rfl (fun h46 => ?_) (fun h46 => ?_)
              ·
                have h46' := h46
                refine t_skip ?_
                refine t_seq ?_
                refine t_block ?_
                refine t_seq ?_
                refine t_region ?_
                refine r_op (o_move rfl rfl) ?_
                refine r_op (o_move rfl rfl) ?_
                obtain ⟨z47, hz48, b49⟩ := at_get (xs := (es11)) (n := (m : Int)) (by first | omega | assumption | (unfold okI; omega) | (have e := K1 (by assumption); omega) | (unfold okI; omega) | (have e1 := (KR _ (List.mem_of_getElem? (by assumption))).1; have e2 := fmtN_len (n := x4) (by omega); omega)) (by first | omega | assumption | (unfold okI; omega) | (have e := K1 (by assumption); omega) | (unfold okI; omega) | (have e1 := (KR _ (List.mem_of_getElem? (by assumption))).1; have e2 := fmtN_len (n := x4) (by omega); omega))
                refine r_op (o_index rfl (by kernel_rfl) rfl rfl b49 hz48) ?_
                refine r_op (o_field rfl (off := 0) (by kernel_rfl) rfl) ?_
                refine r_op (o_load1 rfl (by kernel_rfl) rfl rfl) ?_
                refine r_op (o_move rfl rfl) ?_
                refine r_op (o_bin rfl rfl rfl rfl) ?_
                refine r_op (o_move rfl rfl) ?_
                refine r_guard rfl rfl rfl (fun g50 => ?_) (fun g50 => ?_)
                ·
                  have g50' := of_decide_eq_true g50
                  refine r_op (o_move rfl rfl) ?_
                  refine r_guard rfl rfl rfl (fun _ => ?_) (nc g50)
                  refine r_op (o_move rfl rfl) ?_
                  refine r_guard rfl rfl rfl (fun _ => ?_) (nc g50)
                  refine r_op (o_index rfl (by kernel_rfl) rfl rfl b49 hz48) ?_
                  refine r_guard rfl rfl rfl (fun _ => ?_) (nc g50)
                  refine r_op (o_field rfl (off := 1) (by kernel_rfl) rfl) ?_
                  refine r_guard rfl rfl rfl (fun _ => ?_) (nc g50)
                  refine r_op (o_load1 rfl (by kernel_rfl) rfl rfl) ?_
                  refine r_guard rfl rfl rfl (fun _ => ?_) (nc g50)
                  refine r_op (o_bin rfl rfl rfl rfl) ?_
                  refine r_op (o_pickT rfl rfl g50 rfl) ?_
                  refine r_op (o_move rfl rfl) ?_
                  refine r_guard rfl rfl rfl (fun g51 => ?_) (fun g51 => ?_)
                  ·
                    have g51' := of_decide_eq_true g51
                    refine r_op (o_move rfl rfl) ?_
                    refine r_guard rfl rfl rfl (fun _ => ?_) (nc g51)
                    refine r_op (o_move rfl rfl) ?_
                    refine r_guard rfl rfl rfl (fun _ => ?_) (nc g51)
                    refine r_op (o_index rfl (by kernel_rfl) rfl rfl b49 hz48) ?_
                    refine r_guard rfl rfl rfl (fun _ => ?_) (nc g51)
                    refine r_op (o_field rfl (off := 1) (by kernel_rfl) rfl) ?_
                    refine r_guard rfl rfl rfl (fun _ => ?_) (nc g51)
                    refine r_op (o_load1 rfl (by kernel_rfl) rfl rfl) ?_
                    refine r_guard rfl rfl rfl (fun _ => ?_) (nc g51)
                    refine r_op (o_move rfl rfl) ?_
                    refine r_guard rfl rfl rfl (fun _ => ?_) (nc g51)
                    refine r_op (o_bin rfl rfl rfl rfl) ?_
                    refine r_op (o_pickT rfl rfl g51 rfl) ?_
                    refine r_op (o_move rfl rfl) ?_
                    refine r_guard rfl rfl rfl (fun g52 => ?_) (fun g52 => ?_)
                    ·
                      have g52' := of_decide_eq_true g52
                      refine r_op (o_move rfl rfl) ?_
                      refine r_guard rfl rfl rfl (fun _ => ?_) (nc g52)
                      refine r_op (o_move rfl rfl) ?_
                      refine r_guard rfl rfl rfl (fun _ => ?_) (nc g52)
                      refine r_op (o_move rfl rfl) ?_
                      refine r_guard rfl rfl rfl (fun _ => ?_) (nc g52)
                      refine r_op (o_move rfl rfl) ?_
                      refine r_guard rfl rfl rfl (fun _ => ?_) (nc g52)
                      refine r_op (o_move rfl rfl) ?_
                      refine r_guard rfl rfl rfl (fun _ => ?_) (nc g52)
                      refine r_op (o_index rfl (by kernel_rfl) rfl rfl b49 hz48) ?_
                      refine r_guard rfl rfl rfl (fun _ => ?_) (nc g52)
                      refine r_op (o_field rfl (off := 1) (by kernel_rfl) rfl) ?_
                      refine r_guard rfl rfl rfl (fun _ => ?_) (nc g52)
                      refine r_op (o_load1 rfl (by kernel_rfl) rfl rfl) ?_
                      refine r_guard rfl rfl rfl (fun _ => ?_) (nc g52)
                      refine r_op (o_call 0 0 false (Go.Proofs.enters_of Tryd.func8 (by kernel_rfl) rfl) (c_impl_IsReachable ((n10)) ((es11)) ((a12)) (z47.2.1) (by first | omega | assumption | (unfold okI; omega) | (have e := K1 (by assumption); omega) | (unfold okI; omega) | (have e1 := (KR _ (List.mem_of_getElem? (by assumption))).1; have e2 := fmtN_len (n := x4) (by omega); omega))) rfl (.cons rfl (.c .t0) (.cons rfl (.c .t0) (.cons rfl (.c .t0) (.cons rfl (.c .t0) .nil)))) rfl rfl rfl) ?_
                      refine r_guard rfl rfl rfl (fun _ => ?_) (nc g52)
                      refine r_op (o_not rfl rfl) ?_
                      refine r_op (o_pickT rfl rfl g52 rfl) ?_
                      refine r_end ?_
                      refine t_cond rfl (fun h53 => ?_) (fun h53 => ?_)
                      ·
                        have h53' := (bnt h53)
                        refine t_seq ?_
                        refine t_region ?_
                        refine r_op (o_assign rfl rfl) ?_
                        refine r_end ?_
                        refine t_ret Tryd.func3 (.tmp rfl .nil) rfl fun E S w u hI hd => ?_
                        refine post_mk hI hd ?_ trivial rfl rfl rfl <;> clear hI hd <;> (try clear ih0)
                        all_goals first | rfl | (first | rfl | (exfalso; clear KR; grind) | (refine scB ?_; clear KR; grind))
                      ·
                        have h53' := (bnf h53)
                        refine t_skip ?_
                        refine t_endblock ?_
                        refine t_region ?_
                        refine r_op (o_move rfl rfl) ?_
                        refine r_op (o_bin rfl rfl rfl rfl) ?_
                        refine r_op (o_assign rfl rfl) ?_
                        refine r_end ?_
                        refine t_le ?_ (ih0 (m + 1) (by (try dsimp only); omega) (by (try dsimp only); omega))
                        exact ⟨⟨rfl, ⟨rfl, ⟨rfl, ⟨rfl, ⟨rfl, ⟨(eqI (wr64 (by omega) (by omega))), trivial⟩⟩⟩⟩⟩⟩, trivial, rfl⟩
                    ·
                      have g52' := of_decide_eq_false g52
                      refine r_guard rfl rfl rfl (ncf g52) (fun _ => ?_)
                      refine r_guard rfl rfl rfl (ncf g52) (fun _ => ?_)
                      refine r_guard rfl rfl rfl (ncf g52) (fun _ => ?_)
                      refine r_guard rfl rfl rfl (ncf g52) (fun _ => ?_)
                      refine r_guard rfl rfl rfl (ncf g52) (fun _ => ?_)
                      refine r_guard rfl rfl rfl (ncf g52) (fun _ => ?_)
                      refine r_guard rfl rfl rfl (ncf g52) (fun _ => ?_)
                      refine r_guard rfl rfl rfl (ncf g52) (fun _ => ?_)
                      refine r_guard rfl rfl rfl (ncf g52) (fun _ => ?_)
                      refine r_op (o_pickF rfl rfl g52 rfl) ?_
                      refine r_end ?_
                      refine t_cond rfl (ncf rfl) (fun _ => ?_)
                      refine t_skip ?_
                      refine t_endblock ?_
                      refine t_region ?_
                      refine r_op (o_move rfl rfl) ?_
                      refine r_op (o_bin rfl rfl rfl rfl) ?_
                      refine r_op (o_assign rfl rfl) ?_
                      refine r_end ?_
                      refine t_le ?_ (ih0 (m + 1) (by (try dsimp only); omega) (by (try dsimp only); omega))
                      exact ⟨⟨rfl, ⟨rfl, ⟨rfl, ⟨rfl, ⟨rfl, ⟨(eqI (wr64 (by omega) (by omega))), trivial⟩⟩⟩⟩⟩⟩, trivial, rfl⟩
                  ·
                    have g51' := of_decide_eq_false g51
                    refine r_guard rfl rfl rfl (ncf g51) (fun _ => ?_)
                    refine r_guard rfl rfl rfl (ncf g51) (fun _ => ?_)
                    refine r_guard rfl rfl rfl (ncf g51) (fun _ => ?_)
                    refine r_guard rfl rfl rfl (ncf g51) (fun _ => ?_)
                    refine r_guard rfl rfl rfl (ncf g51) (fun _ => ?_)
                    refine r_guard rfl rfl rfl (ncf g51) (fun _ => ?_)
                    refine r_op (o_pickF rfl rfl g51 rfl) ?_
                    refine r_op (o_move rfl rfl) ?_
                    refine r_guard rfl rfl rfl (ncf rfl) (fun _ => ?_)
                    refine r_guard rfl rfl rfl (ncf rfl) (fun _ => ?_)
                    refine r_guard rfl rfl rfl (ncf rfl) (fun _ => ?_)
                    refine r_guard rfl rfl rfl (ncf rfl) (fun _ => ?_)
                    refine r_guard rfl rfl rfl (ncf rfl) (fun _ => ?_)
                    refine r_guard rfl rfl rfl (ncf rfl) (fun _ => ?_)
                    refine r_guard rfl rfl rfl (ncf rfl) (fun _ => ?_)
                    refine r_guard rfl rfl rfl (ncf rfl) (fun _ => ?_)
                    refine r_guard rfl rfl rfl (ncf rfl) (fun _ => ?_)
                    refine r_guard rfl rfl rfl (ncf rfl) (fun _ => ?_)
                    refine r_op (o_pickF rfl rfl rfl rfl) ?_
                    refine r_end ?_
                    refine t_cond rfl (ncf rfl) (fun _ => ?_)
                    refine t_skip ?_
                    refine t_endblock ?_
                    refine t_region ?_
                    refine r_op (o_move rfl rfl) ?_
                    refine r_op (o_bin rfl rfl rfl rfl) ?_
                    refine r_op (o_assign rfl rfl) ?_
                    refine r_end ?_
                    refine t_le ?_ (ih0 (m + 1) (by (try dsimp only); omega) (by (try dsimp only); omega))
                    exact ⟨⟨rfl, ⟨rfl, ⟨rfl, ⟨rfl, ⟨rfl, ⟨(eqI (wr64 (by omega) (by omega))), trivial⟩⟩⟩⟩⟩⟩, trivial, rfl⟩
                ·
                  have g50' := of_decide_eq_false g50
                  refine r_guard rfl rfl rfl (ncf g50) (fun _ => ?_)
                  refine r_guard rfl rfl rfl (ncf g50) (fun _ => ?_)
                  refine r_guard rfl rfl rfl (ncf g50) (fun _ => ?_)
                  refine r_guard rfl rfl rfl (ncf g50) (fun _ => ?_)
                  refine r_guard rfl rfl rfl (ncf g50) (fun _ => ?_)
                  refine r_op (o_pickF rfl rfl g50 rfl) ?_
                  refine r_op (o_move rfl rfl) ?_
                  refine r_guard rfl rfl rfl (ncf rfl) (fun _ => ?_)
                  refine r_guard rfl rfl rfl (ncf rfl) (fun _ => ?_)
                  refine r_guard rfl rfl rfl (ncf rfl) (fun _ => ?_)
                  refine r_guard rfl rfl rfl (ncf rfl) (fun _ => ?_)
                  refine r_guard rfl rfl rfl (ncf rfl) (fun _ => ?_)
                  refine r_guard rfl rfl rfl (ncf rfl) (fun _ => ?_)
                  refine r_guard rfl rfl rfl (ncf rfl) (fun _ => ?_)
                  refine r_op (o_pickF rfl rfl rfl rfl) ?_
                  refine r_op (o_move rfl rfl) ?_
                  refine r_guard rfl rfl rfl (ncf rfl) (fun _ => ?_)
                  refine r_guard rfl rfl rfl (ncf rfl) (fun _ => ?_)
                  refine r_guard rfl rfl rfl (ncf rfl) (fun _ => ?_)
                  refine r_guard rfl rfl rfl (ncf rfl) (fun _ => ?_)
                  refine r_guard rfl rfl rfl (ncf rfl) (fun _ => ?_)
                  refine r_guard rfl rfl rfl (ncf rfl) (fun _ => ?_)
                  refine r_guard rfl rfl rfl (ncf rfl) (fun _ => ?_)
                  refine r_guard rfl rfl rfl (ncf rfl) (fun _ => ?_)
                  refine r_guard rfl rfl rfl (ncf rfl) (fun _ => ?_)
                  refine r_guard rfl rfl rfl (ncf rfl) (fun _ => ?_)
                  refine r_op (o_pickF rfl rfl rfl rfl) ?_
                  refine r_end ?_
                  refine t_cond rfl (ncf rfl) (fun _ => ?_)
                  refine t_skip ?_
                  refine t_endblock ?_
                  refine t_region ?_
                  refine r_op (o_move rfl rfl) ?_
                  refine r_op (o_bin rfl rfl rfl rfl) ?_
                  refine r_op (o_assign rfl rfl) ?_
                  refine r_end ?_
                  refine t_le ?_ (ih0 (m + 1) (by (try dsimp only); omega) (by (try dsimp only); omega))
                  exact ⟨⟨rfl, ⟨rfl, ⟨rfl, ⟨rfl, ⟨rfl, ⟨(eqI (wr64 (by omega) (by omega))), trivial⟩⟩⟩⟩⟩⟩, trivial, rfl⟩
              ·
                have h46' := h46
                refine t_exit rfl ?_
                refine t_seq ?_
                refine t_region ?_
                refine r_op (o_move rfl rfl) ?_
                refine r_op (o_bin rfl rfl rfl rfl) ?_
                refine r_op (o_move rfl rfl) ?_
                refine r_guard rfl rfl rfl (fun g54 => ?_) (fun g54 => ?_)
                ·
                  have g54' := of_decide_eq_false g54
                  refine r_op (o_move rfl rfl) ?_
                  refine r_guard rfl rfl rfl (fun _ => ?_) (ncf g54)
                  refine r_op (o_bin rfl rfl rfl rfl) ?_
                  refine r_op (o_pickF rfl rfl g54 rfl) ?_
                  refine r_op (o_move rfl rfl) ?_
                  refine r_guard rfl rfl rfl (fun g55 => ?_) (fun g55 => ?_)
                  ·
                    have g55' := of_decide_eq_false g55
                    refine r_op (o_move rfl rfl) ?_
                    refine r_guard rfl rfl rfl (fun _ => ?_) (ncf g55)
                    refine r_op (o_bin rfl rfl rfl rfl) ?_
                    refine r_op (o_pickF rfl rfl g55 rfl) ?_
                    refine r_op (o_move rfl rfl) ?_
                    refine r_guard rfl rfl rfl (fun g56 => ?_) (fun g56 => ?_)
                    ·
                      have g56' := of_decide_eq_false g56
                      refine r_op (o_move rfl rfl) ?_
                      refine r_guard rfl rfl rfl (fun _ => ?_) (ncf g56)
                      refine r_op (o_move rfl rfl) ?_
                      refine r_guard rfl rfl rfl (fun _ => ?_) (ncf g56)
                      refine r_op (o_bin rfl rfl rfl rfl) ?_
                      refine r_op (o_pickF rfl rfl g56 rfl) ?_
                      refine r_op (o_move rfl rfl) ?_
                      refine r_guard rfl rfl rfl (fun g57 => ?_) (fun g57 => ?_)
                      ·
                        have g57' := of_decide_eq_false g57
                        refine r_op (o_move rfl rfl) ?_
                        refine r_guard rfl rfl rfl (fun _ => ?_) (ncf g57)
                        refine r_op (o_move rfl rfl) ?_
                        refine r_guard rfl rfl rfl (fun _ => ?_) (ncf g57)
                        refine r_op (o_move rfl rfl) ?_
                        refine r_guard rfl rfl rfl (fun _ => ?_) (ncf g57)
                        refine r_op (o_move rfl rfl) ?_
                        refine r_guard rfl rfl rfl (fun _ => ?_) (ncf g57)
                        refine r_op (o_call 0 0 false (Go.Proofs.enters_of Tryd.func8 (by kernel_rfl) rfl) (c_impl_IsReachable ((n10)) ((es11)) ((a12)) ((a12)) (by first | omega | assumption | (unfold okI; omega) | (have e := K1 (by assumption); omega) | (unfold okI; omega) | (have e1 := (KR _ (List.mem_of_getElem? (by assumption))).1; have e2 := fmtN_len (n := x4) (by omega); omega))) rfl (.cons rfl (.c .t0) (.cons rfl (.c .t0) (.cons rfl (.c .t0) (.cons rfl (.c .t0) .nil)))) rfl rfl rfl) ?_
                        refine r_op (o_pickF rfl rfl g57 rfl) ?_
                        refine r_op (o_assign rfl rfl) ?_
                        refine r_end ?_
                        refine t_ret Tryd.func3 (.tmp rfl .nil) rfl fun E S w u hI hd => ?_
                        refine post_mk hI hd ?_ trivial rfl rfl rfl <;> clear hI hd <;> (try clear ih0)
                        all_goals first | rfl | (first | rfl | (exfalso; clear KR; grind) | (refine scB ?_; clear KR; grind))
                      ·
                        have g57' := of_decide_eq_true g57
                        refine r_guard rfl rfl rfl (nc g57) (fun _ => ?_)
                        refine r_guard rfl rfl rfl (nc g57) (fun _ => ?_)
                        refine r_guard rfl rfl rfl (nc g57) (fun _ => ?_)
                        refine r_guard rfl rfl rfl (nc g57) (fun _ => ?_)
                        refine r_op (o_pickT rfl rfl g57 rfl) ?_
                        refine r_op (o_assign rfl rfl) ?_
                        refine r_end ?_
                        refine t_ret Tryd.func3 (.tmp rfl .nil) rfl fun E S w u hI hd => ?_
                        refine post_mk hI hd ?_ trivial rfl rfl rfl <;> clear hI hd <;> (try clear ih0)
                        all_goals first | rfl | (first | rfl | (exfalso; clear KR; grind) | (refine scB ?_; clear KR; grind))
                    ·
                      have g56' := of_decide_eq_true g56
                      refine r_guard rfl rfl rfl (nc g56) (fun _ => ?_)
                      refine r_guard rfl rfl rfl (nc g56) (fun _ => ?_)
                      refine r_op (o_pickT rfl rfl g56 rfl) ?_
                      refine r_op (o_move rfl rfl) ?_
                      refine r_guard rfl rfl rfl (nc rfl) (fun _ => ?_)
                      refine r_guard rfl rfl rfl (nc rfl) (fun _ => ?_)
                      refine r_guard rfl rfl rfl (nc rfl) (fun _ => ?_)
                      refine r_guard rfl rfl rfl (nc rfl) (fun _ => ?_)
                      refine r_guard rfl rfl rfl (nc rfl) (fun _ => ?_)
                      refine r_op (o_pickT rfl rfl rfl rfl) ?_
                      refine r_op (o_assign rfl rfl) ?_
                      refine r_end ?_
                      refine t_ret Tryd.func3 (.tmp rfl .nil) rfl fun E S w u hI hd => ?_
                      refine post_mk hI hd ?_ trivial rfl rfl rfl <;> clear hI hd <;> (try clear ih0)
                      all_goals first | rfl | (first | rfl | (exfalso; clear KR; grind) | (refine scB ?_; clear KR; grind))
                  ·
                    have g55' := of_decide_eq_true g55
                    refine r_guard rfl rfl rfl (nc g55) (fun _ => ?_)
                    refine r_op (o_pickT rfl rfl g55 rfl) ?_
                    refine r_op (o_move rfl rfl) ?_
                    refine r_guard rfl rfl rfl (nc rfl) (fun _ => ?_)
                    refine r_guard rfl rfl rfl (nc rfl) (fun _ => ?_)
                    refine r_guard rfl rfl rfl (nc rfl) (fun _ => ?_)
                    refine r_op (o_pickT rfl rfl rfl rfl) ?_
                    refine r_op (o_move rfl rfl) ?_
                    refine r_guard rfl rfl rfl (nc rfl) (fun _ => ?_)
                    refine r_guard rfl rfl rfl (nc rfl) (fun _ => ?_)
                    refine r_guard rfl rfl rfl (nc rfl) (fun _ => ?_)
                    refine r_guard rfl rfl rfl (nc rfl) (fun _ => ?_)
                    refine r_guard rfl rfl rfl (nc rfl) (fun _ => ?_)
                    refine r_op (o_pickT rfl rfl rfl rfl) ?_
                    refine r_op (o_assign rfl rfl) ?_
                    refine r_end ?_
                    refine t_ret Tryd.func3 (.tmp rfl .nil) rfl fun E S w u hI hd => ?_
                    refine post_mk hI hd ?_ trivial rfl rfl rfl <;> clear hI hd <;> (try clear ih0)
                    all_goals first | rfl | (first | rfl | (exfalso; clear KR; grind) | (refine scB ?_; clear KR; grind))
                ·
                  have g54' := of_decide_eq_true g54
                  refine r_guard rfl rfl rfl (nc g54) (fun _ => ?_)
                  refine r_op (o_pickT rfl rfl g54 rfl) ?_
                  refine r_op (o_move rfl rfl) ?_
                  refine r_guard rfl rfl rfl (nc rfl) (fun _ => ?_)
                  refine r_guard rfl rfl rfl (nc rfl) (fun _ => ?_)
                  refine r_op (o_pickT rfl rfl rfl rfl) ?_
                  refine r_op (o_move rfl rfl) ?_
                  refine r_guard rfl rfl rfl (nc rfl) (fun _ => ?_)
                  refine r_guard rfl rfl rfl (nc rfl) (fun _ => ?_)
                  refine r_guard rfl rfl rfl (nc rfl) (fun _ => ?_)
                  refine r_op (o_pickT rfl rfl rfl rfl) ?_
                  refine r_op (o_move rfl rfl) ?_
                  refine r_guard rfl rfl rfl (nc rfl) (fun _ => ?_)
                  refine r_guard rfl rfl rfl (nc rfl) (fun _ => ?_)
                  refine r_guard rfl rfl rfl (nc rfl) (fun _ => ?_)
                  refine r_guard rfl rfl rfl (nc rfl) (fun _ => ?_)
                  refine r_guard rfl rfl rfl (nc rfl) (fun _ => ?_)
                  refine r_op (o_pickT rfl rfl rfl rfl) ?_
                  refine r_op (o_assign rfl rfl) ?_
                  refine r_end ?_
                  refine t_ret Tryd.func3 (.tmp rfl .nil) rfl fun E S w u hI hd => ?_
                  refine post_mk hI hd ?_ trivial rfl rfl rfl <;> clear hI hd <;> (try clear ih0)
                  all_goals first | rfl | (first | rfl | (exfalso; clear KR; grind) | (refine scB ?_; clear KR; grind))
            ·
              have g45' := of_decide_eq_false g45
              refine r_op (o_pickF rfl rfl g45 rfl) ?_
              refine r_end ?_
              refine t_cond rfl (ncf rfl) (fun _ => ?_)
              refine t_exit rfl ?_
              refine t_seq ?_
              refine t_region ?_
              refine r_op (o_move rfl rfl) ?_
              refine r_op (o_bin rfl rfl rfl rfl) ?_
              refine r_op (o_move rfl rfl) ?_
              refine r_guard rfl rfl rfl (fun g58 => ?_) (fun g58 => ?_)
              ·
                have g58' := of_decide_eq_false g58
                refine r_op (o_move rfl rfl) ?_
                refine r_guard rfl rfl rfl (fun _ => ?_) (ncf g58)
                refine r_op (o_bin rfl rfl rfl rfl) ?_
                refine r_op (o_pickF rfl rfl g58 rfl) ?_
                refine r_op (o_move rfl rfl) ?_
                refine r_guard rfl rfl rfl (fun g59 => ?_) (fun g59 => ?_)
                ·
                  have g59' := of_decide_eq_false g59
                  refine r_op (o_move rfl rfl) ?_
                  refine r_guard rfl rfl rfl (fun _ => ?_) (ncf g59)
                  refine r_op (o_bin rfl rfl rfl rfl) ?_
                  refine r_op (o_pickF rfl rfl g59 rfl) ?_
                  refine r_op (o_move rfl rfl) ?_
                  refine r_guard rfl rfl rfl (fun g60 => ?_) (fun g60 => ?_)
                  ·
                    have g60' := of_decide_eq_false g60
                    refine r_op (o_move rfl rfl) ?_
                    refine r_guard rfl rfl rfl (fun _ => ?_) (ncf g60)
                    refine r_op (o_move rfl rfl) ?_
                    refine r_guard rfl rfl rfl (fun _ => ?_) (ncf g60)
                    refine r_op (o_bin rfl rfl rfl rfl) ?_
                    refine r_op (o_pickF rfl rfl g60 rfl) ?_
                    refine r_op (o_move rfl rfl) ?_
                    refine r_guard rfl rfl rfl (fun g61 => ?_) (fun g61 => ?_)
                    ·
                      have g61' := of_decide_eq_false g61
                      refine r_op (o_move rfl rfl) ?_
                      refine r_guard rfl rfl rfl (fun _ => ?_) (ncf g61)
                      refine r_op (o_move rfl rfl) ?_
                      refine r_guard rfl rfl rfl (fun _ => ?_) (ncf g61)
                      refine r_op (o_move rfl rfl) ?_
                      refine r_guard rfl rfl rfl (fun _ => ?_) (ncf g61)
                      refine r_op (o_move rfl rfl) ?_
                      refine r_guard rfl rfl rfl (fun _ => ?_) (ncf g61)
                      refine r_op (o_call 0 0 false (Go.Proofs.enters_of Tryd.func8 (by kernel_rfl) rfl) (c_impl_IsReachable ((n10)) ((es11)) ((a12)) ((a12)) (by first | omega | assumption | (unfold okI; omega) | (have e := K1 (by assumption); omega) | (unfold okI; omega) | (have e1 := (KR _ (List.mem_of_getElem? (by assumption))).1; have e2 := fmtN_len (n := x4) (by omega); omega))) rfl (.cons rfl (.c .t0) (.cons rfl (.c .t0) (.cons rfl (.c .t0) (.cons rfl (.c .t0) .nil)))) rfl rfl rfl) ?_
                      refine r_op (o_pickF rfl rfl g61 rfl) ?_
                      refine r_op (o_assign rfl rfl) ?_
                      refine r_end ?_
                      refine t_ret Tryd.func3 (.tmp rfl .nil) rfl fun E S w u hI hd => ?_
                      refine post_mk hI hd ?_ trivial rfl rfl rfl <;> clear hI hd <;> (try clear ih0)
                      all_goals first | rfl | (first | rfl | (exfalso; clear KR; grind) | (refine scB ?_; clear KR; grind))
                    ·
                      have g61' := of_decide_eq_true g61
                      refine r_guard rfl rfl rfl (nc g61) (fun _ => ?_)
                      refine r_guard rfl rfl rfl (nc g61) (fun _ => ?_)
                      refine r_guard rfl rfl rfl (nc g61) (fun _ => ?_)
                      refine r_guard rfl rfl rfl (nc g61) (fun _ => ?_)
                      refine r_op (o_pickT rfl rfl g61 rfl) ?_
                      refine r_op (o_assign rfl rfl) ?_
                      refine r_end ?_
                      refine t_ret Tryd.func3 (.tmp rfl .nil) rfl fun E S w u hI hd => ?_
                      refine post_mk hI hd ?_ trivial rfl rfl rfl <;> clear hI hd <;> (try clear ih0)
                      all_goals first | rfl | (first | rfl | (exfalso; clear KR; grind) | (refine scB ?_; clear KR; grind))
                  ·
                    have g60' := of_decide_eq_true g60
                    refine r_guard rfl rfl rfl (nc g60) (fun _ => ?_)
                    refine r_guard rfl rfl rfl (nc g60) (fun _ => ?_)
                    refine r_op (o_pickT rfl rfl g60 rfl) ?_
                    refine r_op (o_move rfl rfl) ?_
                    refine r_guard rfl rfl rfl (nc rfl) (fun _ => ?_)
                    refine r_guard rfl rfl rfl (nc rfl) (fun _ => ?_)
                    refine r_guard rfl rfl rfl (nc rfl) (fun _ => ?_)
                    refine r_guard rfl rfl rfl (nc rfl) (fun _ => ?_)
                    refine r_guard rfl rfl rfl (nc rfl) (fun _ => ?_)
                    refine r_op (o_pickT rfl rfl rfl rfl) ?_
                    refine r_op (o_assign rfl rfl) ?_
                    refine r_end ?_
                    refine t_ret Tryd.func3 (.tmp rfl .nil) rfl fun E S w u hI hd => ?_
                    refine post_mk hI hd ?_ trivial rfl rfl rfl <;> clear hI hd <;> (try clear ih0)
                    all_goals first | rfl | (first | rfl | (exfalso; clear KR; grind) | (refine scB ?_; clear KR; grind))
                ·
                  have g59' := of_decide_eq_true g59
                  refine r_guard rfl rfl rfl (nc g59) (fun _ => ?_)
                  refine r_op (o_pickT rfl rfl g59 rfl) ?_
                  refine r_op (o_move rfl rfl) ?_
                  refine r_guard rfl rfl rfl (nc rfl) (fun _ => ?_)
                  refine r_guard rfl rfl rfl (nc rfl) (fun _ => ?_)
                  refine r_guard rfl rfl rfl (nc rfl) (fun _ => ?_)
                  refine r_op (o_pickT rfl rfl rfl rfl) ?_
                  refine r_op (o_move rfl rfl) ?_
                  refine r_guard rfl rfl rfl (nc rfl) (fun _ => ?_)
                  refine r_guard rfl rfl rfl (nc rfl) (fun _ => ?_)
                  refine r_guard rfl rfl rfl (nc rfl) (fun _ => ?_)
                  refine r_guard rfl rfl rfl (nc rfl) (fun _ => ?_)
                  refine r_guard rfl rfl rfl (nc rfl) (fun _ => ?_)
                  refine r_op (o_pickT rfl rfl rfl rfl) ?_
                  refine r_op (o_assign rfl rfl) ?_
                  refine r_end ?_
                  refine t_ret Tryd.func3 (.tmp rfl .nil) rfl fun E S w u hI hd => ?_
                  refine post_mk hI hd ?_ trivial rfl rfl rfl <;> clear hI hd <;> (try clear ih0)
                  all_goals first | rfl | (first | rfl | (exfalso; clear KR; grind) | (refine scB ?_; clear KR; grind))
              ·
                have g58' := of_decide_eq_true g58
                refine r_guard rfl rfl rfl (nc g58) (fun _ => ?_)
                refine r_op (o_pickT rfl rfl g58 rfl) ?_
                refine r_op (o_move rfl rfl) ?_
                refine r_guard rfl rfl rfl (nc rfl) (fun _ => ?_)
                refine r_guard rfl rfl rfl (nc rfl) (fun _ => ?_)
                refine r_op (o_pickT rfl rfl rfl rfl) ?_
                refine r_op (o_move rfl rfl) ?_
                refine r_guard rfl rfl rfl (nc rfl) (fun _ => ?_)
                refine r_guard rfl rfl rfl (nc rfl) (fun _ => ?_)
                refine r_guard rfl rfl rfl (nc rfl) (fun _ => ?_)
                refine r_op (o_pickT rfl rfl rfl rfl) ?_
                refine r_op (o_move rfl rfl) ?_
                refine r_guard rfl rfl rfl (nc rfl) (fun _ => ?_)
                refine r_guard rfl rfl rfl (nc rfl) (fun _ => ?_)
                refine r_guard rfl rfl rfl (nc rfl) (fun _ => ?_)
                refine r_guard rfl rfl rfl (nc rfl) (fun _ => ?_)
                refine r_guard rfl rfl rfl (nc rfl) (fun _ => ?_)
                refine r_op (o_pickT rfl rfl rfl rfl) ?_
                refine r_op (o_assign rfl rfl) ?_
                refine r_end ?_
                refine t_ret Tryd.func3 (.tmp rfl .nil) rfl fun E S w u hI hd => ?_
                refine post_mk hI hd ?_ trivial rfl rfl rfl <;> clear hI hd <;> (try clear ih0)
                all_goals first | rfl | (first | rfl | (exfalso; clear KR; grind) | (refine scB ?_; clear KR; grind))
      ·
        have g20' := of_decide_eq_true g20
        refine r_guard rfl rfl rfl (nc g20) (fun _ => ?_)
        refine r_guard rfl rfl rfl (nc g20) (fun _ => ?_)
        refine r_guard rfl rfl rfl (nc g20) (fun _ => ?_)
        refine r_guard rfl rfl rfl (nc g20) (fun _ => ?_)
        refine r_guard rfl rfl rfl (nc g20) (fun _ => ?_)
        refine r_guard rfl rfl rfl (nc g20) (fun _ => ?_)
        refine r_op (o_pickT rfl rfl g20 rfl) ?_
        refine r_end ?_
        refine t_cond rfl (fun _ => ?_) (nc rfl)
        refine t_seq ?_
        refine t_region ?_
        refine r_op (o_assign rfl rfl) ?_
        refine r_end ?_
        refine t_ret Tryd.func3 (.tmp rfl .nil) rfl fun E S w u hI hd => ?_
        refine post_mk hI hd ?_ trivial rfl rfl rfl <;> clear hI hd <;> (try clear ih0)
        all_goals first | rfl | (first | rfl | (exfalso; clear KR; grind) | (refine scB ?_; clear KR; grind))
    ·
      have g19' := of_decide_eq_true g19
      refine r_guard rfl rfl rfl (nc g19) (fun _ => ?_)
      refine r_guard rfl rfl rfl (nc g19) (fun _ => ?_)
      refine r_guard rfl rfl rfl (nc g19) (fun _ => ?_)
      refine r_guard rfl rfl rfl (nc g19) (fun _ => ?_)
      refine r_op (o_pickT rfl rfl g19 rfl) ?_
      refine r_op (o_move rfl rfl) ?_
      refine r_guard rfl rfl rfl (nc rfl) (fun _ => ?_)
      refine r_guard rfl rfl rfl (nc rfl) (fun _ => ?_)
      refine r_guard rfl rfl rfl (nc rfl) (fun _ => ?_)
      refine r_guard rfl rfl rfl (nc rfl) (fun _ => ?_)
      refine r_guard rfl rfl rfl (nc rfl) (fun _ => ?_)
      refine r_guard rfl rfl rfl (nc rfl) (fun _ => ?_)
      refine r_guard rfl rfl rfl (nc rfl) (fun _ => ?_)
      refine r_op (o_pickT rfl rfl rfl rfl) ?_
      refine r_end ?_
      refine t_cond rfl (fun _ => ?_) (nc rfl)
      refine t_seq ?_
      refine t_region ?_
      refine r_op (o_assign rfl rfl) ?_
      refine r_end ?_
      refine t_ret Tryd.func3 (.tmp rfl .nil) rfl fun E S w u hI hd => ?_
      refine post_mk hI hd ?_ trivial rfl rfl rfl <;> clear hI hd <;> (try clear ih0)
      all_goals first | rfl | (first | rfl | (exfalso; clear KR; grind) | (refine scB ?_; clear KR; grind))
end Go.Eng
