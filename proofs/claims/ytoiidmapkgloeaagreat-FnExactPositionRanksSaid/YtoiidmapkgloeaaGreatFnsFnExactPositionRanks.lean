/- What the functions that FnExactPositionRanks reaches answer. -/
import Derived.Test.YtoiidmapkgloeaaGreatFnsFnExactPositionRanksp2
import Derived.Test.YtoiidmapkgloeaaGreatEngN
import Derived.Test.YtoiidmapkgloeaaGreatChecked
set_option linter.unusedVariables false
set_option linter.unusedSimpArgs false
namespace Go.Eng
open Go Go.RowKit Go.Proofs
set_option maxHeartbeats 1000000 in
set_option maxRecDepth 10000 in
theorem c_laws_FnExactPositionRanks (rs : Rels) (ds : List Dep) (h0 : (okL (fun (x : List UInt8 × Int × Bool) => okS (x.1) ∧ okI (x.2.1) ∧ okB (x.2.2))) rs) (h2 : (okL (fun (x : (List (Int × (List (Int)))) × (List (Int × (List (Int)))) × Bool × Int × Int) => (okL (fun (x : Int × (List (Int))) => okI (x.1) ∧ (okL okI) (x.2))) (x.1) ∧ (okL (fun (x : Int × (List (Int))) => okI (x.1) ∧ (okL okI) (x.2))) (x.2.1) ∧ okB (x.2.2.1) ∧ okI (x.2.2.2.1) ∧ okI (x.2.2.2.2))) ds) : Pu Tryz.prog 3 [.c (.t none (.sl 3 (enS3 encS encI encB) (rs))), .c (.t none (.sl 5 (enS5 (enSl 2 (enS2 encI (enSl 1 encI))) (enSl 2 (enS2 encI (enSl 1 encI))) encB encI encI) (ds)))] [] 0 (.c (.t none (.v (.bool (true))))) := by
  refine pu_enter Tryz.func3 rfl (Nat.le_of_ble_eq_true rfl) fun w S => ?_
  have g0 := h0.1; have g2 := h2.1; have gr := sz_len (f := (fun (x : List UInt8 × Int × Bool) => (x.1).length)) (l := rs); have gs := sz_len (f := (fun (x : (List (Int × (List (Int)))) × (List (Int × (List (Int)))) × Bool × Int × Int) => (szS (fun (x : Int × (List (Int))) => (x.2).length) (x.1)) + (szS (fun (x : Int × (List (Int))) => (x.2).length) (x.2.1)))) (l := ds); have gd : (ds.map ctD).sum ≤ 3 * szS (fun (x : (List (Int × (List (Int)))) × (List (Int × (List (Int)))) × Bool × Int × Int) => (szS (fun (x : Int × (List (Int))) => (x.2).length) (x.1)) + (szS (fun (x : Int × (List (Int))) => (x.2).length) (x.2.1))) ds := ctD_sum ds; have gg := graph_len (rs := rs) (ds := ds); have gm := markES_len 1 (graphL rs ds); have gi := markES_idem 1 (graphL rs ds); have rl := rks_len rs ds
  refine t_seq ?_
  refine t_region ?_
  refine r_op (o_assign rfl rfl) ?_
  refine r_end ?_
  refine t_seq ?_
  refine t_region ?_
  refine r_op (o_assign rfl rfl) ?_
  refine r_end ?_
  refine t_seq ?_
  refine t_region ?_
  refine r_op (o_move rfl rfl) ?_
  refine r_op (o_move rfl rfl) ?_
  refine r_op (o_call 0 0 false (Go.Proofs.enters_of Tryz.func4 (by kernel_rfl) rfl) (c_laws_szRelationS (rs) (1048576) (by first | omega | assumption | (simp only [seqI_length]; done) | (simp only [seqI_length]; omega)) (by first | omega | assumption | (simp only [seqI_length]; done) | (simp only [seqI_length]; omega)) (by first | omega | assumption | (simp only [seqI_length]; done) | (simp only [seqI_length]; omega))) rfl (.cons rfl (.c .t0) (.cons rfl (.c .t0) .nil)) rfl rfl rfl) ?_
  refine r_op (o_assign rfl rfl) ?_
  refine r_end ?_
  refine t_seq ?_
  refine t_seq ?_
  refine t_region ?_
  refine r_op (o_move rfl rfl) ?_
  refine r_op (o_bin rfl rfl rfl rfl) ?_
  refine r_end ?_
  refine t_cond rfl (fun h1 => ?_) (fun h1 => ?_)
  ·
    have h1' := of_decide_eq_true h1
    refine t_seq ?_
    refine t_region ?_
    refine r_op (o_assign rfl rfl) ?_
    refine r_end ?_
    refine t_ret Tryz.func3 (.tmp rfl .nil) rfl fun E S w u hI hd => ?_
    refine post_mk hI hd ?_ trivial rfl rfl rfl <;> clear hI hd
    all_goals first | rfl | (exfalso; first | omega | (simp at *; done) | (simp [seqI_length] at *; done) | (simp [seqI_length] at *; omega))
  ·
    have h1' := of_decide_eq_false h1
    refine t_skip ?_
    refine t_seq ?_
    refine t_region ?_
    refine r_op (o_move rfl rfl) ?_
    refine r_op (o_move rfl rfl) ?_
    refine r_op (o_call 0 0 false (Go.Proofs.enters_of Tryz.func5 (by kernel_rfl) rfl) (c_laws_szDependencyS (ds) (if (1048576) - ((szS (fun (x : List UInt8 × Int × Bool) => (x.1).length) (rs) : Nat) : Int) < 0 then -1 else (1048576) - ((szS (fun (x : List UInt8 × Int × Bool) => (x.1).length) (rs) : Nat) : Int)) (by first | omega | assumption | (simp only [seqI_length]; done) | (simp only [seqI_length]; omega)) (by first | omega | assumption | (simp only [seqI_length]; done) | (simp only [seqI_length]; omega)) (by first | omega | assumption | (simp only [seqI_length]; done) | (simp only [seqI_length]; omega))) rfl (.cons rfl (.c .t0) (.cons rfl (.c .t0) .nil)) rfl rfl rfl) ?_
    refine r_op (o_assign rfl rfl) ?_
    refine r_end ?_
    refine t_seq ?_
    refine t_seq ?_
    refine t_region ?_
    refine r_op (o_move rfl rfl) ?_
    refine r_op (o_bin rfl rfl rfl rfl) ?_
    refine r_end ?_
    refine t_cond rfl (fun h2 => ?_) (fun h2 => ?_)
    ·
      have h2' := of_decide_eq_true h2
      refine t_seq ?_
      refine t_region ?_
      refine r_op (o_assign rfl rfl) ?_
      refine r_end ?_
      refine t_ret Tryz.func3 (.tmp rfl .nil) rfl fun E S w u hI hd => ?_
      refine post_mk hI hd ?_ trivial rfl rfl rfl <;> clear hI hd
      all_goals first | rfl | (exfalso; first | omega | (simp at *; done) | (simp [seqI_length] at *; done) | (simp [seqI_length] at *; omega))
    ·
      have h2' := of_decide_eq_false h2
      refine t_skip ?_
      refine t_seq ?_
      refine t_region ?_
      refine r_op (o_move rfl rfl) ?_
      refine r_op (o_call 0 1 false (Go.Proofs.enters_of Tryz.func7 (by kernel_rfl) rfl) (c_laws_toRelationS (rs) (by first | omega | assumption | (simp only [seqI_length]; done) | (simp only [seqI_length]; omega))) rfl (.cons rfl (.c .t0) .nil) rfl rfl rfl) ?_
      refine r_op (o_move rfl rfl) ?_
      refine r_op (o_call 1 2 false (Go.Proofs.enters_of Tryz.func8 (by kernel_rfl) rfl) (c_laws_toDependencyS (ds) (by first | omega | assumption | (simp only [seqI_length]; done) | (simp only [seqI_length]; omega))) rfl (.cons rfl (.c .t0) .nil) rfl rfl rfl) ?_
      refine r_op (o_call 2 3 false (Go.Proofs.enters_of Tryz.func6 (by kernel_rfl) rfl) (c_spec_PositionRanks ((rs)) ((ds)) (by first | omega | assumption | (simp only [seqI_length]; done) | (simp only [seqI_length]; omega)) (by first | omega | assumption | (simp only [seqI_length]; done) | (simp only [seqI_length]; omega))) rfl (.cons rfl (.c (.own rfl)) (.cons rfl (.c (.own rfl)) .nil)) rfl rfl rfl) ?_
      refine r_op (o_move rfl rfl) ?_
      refine r_op (o_extract rfl rfl rfl rfl) ?_
      refine r_op (o_extract rfl rfl rfl rfl) ?_
      refine r_op (o_assign rfl rfl) ?_
      refine r_op (o_assign rfl rfl) ?_
      refine r_end ?_
      refine t_seq ?_
      refine t_region ?_
      refine r_op (o_move rfl rfl) ?_
      refine r_op (o_call 3 4 false (Go.Proofs.enters_of Tryz.func7 (by kernel_rfl) rfl) (c_laws_toRelationS (rs) (by first | omega | assumption | (simp only [seqI_length]; done) | (simp only [seqI_length]; omega))) rfl (.cons rfl (.c .t0) .nil) rfl rfl rfl) ?_
      refine r_op (o_assign rfl rfl) ?_
      refine r_end ?_
      refine t_seq ?_
      refine t_region ?_
      refine r_op (o_move rfl rfl) ?_
      refine r_op (o_call 4 5 false (Go.Proofs.enters_of Tryz.func8 (by kernel_rfl) rfl) (c_laws_toDependencyS (ds) (by first | omega | assumption | (simp only [seqI_length]; done) | (simp only [seqI_length]; omega))) rfl (.cons rfl (.c .t0) .nil) rfl rfl rfl) ?_
      refine r_op (o_assign rfl rfl) ?_
      refine r_end ?_
      refine t_seq ?_
      refine t_region ?_
      refine r_op (o_move rfl rfl) ?_
      refine r_op (o_move rfl rfl) ?_
      refine r_op (o_call 5 6 false (Go.Proofs.enters_of Tryz.func9 (by kernel_rfl) rfl) (c_impl_PositionRanks ((rs)) ((ds)) (by first | omega | assumption | (simp only [seqI_length]; done) | (simp only [seqI_length]; omega)) (by first | omega | assumption | (simp only [seqI_length]; done) | (simp only [seqI_length]; omega))) rfl (.cons rfl (.c (.own rfl)) (.cons rfl (.c (.own rfl)) .nil)) rfl rfl rfl) ?_
      refine r_op (o_move rfl rfl) ?_
      refine r_op (o_extract rfl rfl rfl rfl) ?_
      refine r_op (o_extract rfl rfl rfl rfl) ?_
      refine r_op (o_assign rfl rfl) ?_
      refine r_op (o_assign rfl rfl) ?_
      refine r_end ?_
      refine t_seq ?_
      refine t_seq ?_
      refine t_region ?_
      refine r_op (o_move rfl rfl) ?_
      refine r_op (o_move rfl rfl) ?_
      refine r_op (o_call 6 6 false (Go.Proofs.enters_of Tryz.func10 (by kernel_rfl) rfl) (c_laws_eqIntS (rksL ((rs)) ((ds))) (rksL ((rs)) ((ds))) (by first | omega | assumption | (simp only [seqI_length]; done) | (simp only [seqI_length]; omega))) rfl (.cons rfl (.c (.own rfl)) (.cons rfl (.c (.own rfl)) .nil)) rfl rfl rfl) ?_
      refine r_op (o_not rfl rfl) ?_
      refine r_op (o_move rfl rfl) ?_
      refine r_guard rfl rfl rfl (fun g3 => ?_) (fun g3 => ?_)
      ·
        have g3' := of_decide_eq_true (bnf g3)
        refine r_op (o_move rfl rfl) ?_
        refine r_guard rfl rfl rfl (fun _ => ?_) (ncf g3)
        refine r_op (o_move rfl rfl) ?_
        refine r_guard rfl rfl rfl (fun _ => ?_) (ncf g3)
        refine r_op (o_neB rfl Tryz.underlying4 rfl rfl) ?_
        refine r_op (o_pickF rfl rfl g3 rfl) ?_
        refine r_end ?_
        refine t_cond rfl (fun h4 => ?_) (fun h4 => ?_)
        ·
          have h4' := h4
          refine t_seq ?_
          refine t_region ?_
          refine r_op (o_assign rfl rfl) ?_
          refine r_end ?_
          refine t_ret Tryz.func3 (.tmp rfl .nil) rfl fun E S w u hI hd => ?_
          refine post_mk hI hd ?_ trivial rfl rfl rfl <;> clear hI hd
          all_goals first | rfl | (exfalso; first | omega | (simp at *; done) | (simp [seqI_length] at *; done) | (simp [seqI_length] at *; omega))
        ·
          have h4' := h4
          refine t_skip ?_
          refine t_seq ?_
          refine t_seq ?_
          refine t_region ?_
          refine r_op (o_move rfl rfl) ?_
          refine r_op (o_move rfl rfl) ?_
          refine r_op (o_call 6 7 false (Go.Proofs.enters_of Tryz.func7 (by kernel_rfl) rfl) (c_laws_toRelationS (rs) (by first | omega | assumption | (simp only [seqI_length]; done) | (simp only [seqI_length]; omega))) rfl (.cons rfl (.c .t0) .nil) rfl rfl rfl) ?_
          refine r_op (o_call 7 7 false (Go.Proofs.enters_of Tryz.func11 (by kernel_rfl) rfl) (c_laws_eqRelationS ((rs)) ((rs)) (by first | omega | assumption | (simp only [seqI_length]; done) | (simp only [seqI_length]; omega))) rfl (.cons rfl (.c (.own rfl)) (.cons rfl (.c (.own rfl)) .nil)) rfl rfl rfl) ?_
          refine r_op (o_not rfl rfl) ?_
          refine r_end ?_
          refine t_cond rfl (fun h5 => ?_) (fun h5 => ?_)
          ·
            have h5' := of_decide_eq_false (bnt h5)
            refine t_seq ?_
            refine t_region ?_
            refine r_op (o_assign rfl rfl) ?_
            refine r_end ?_
            refine t_ret Tryz.func3 (.tmp rfl .nil) rfl fun E S w u hI hd => ?_
            refine post_mk hI hd ?_ trivial rfl rfl rfl <;> clear hI hd
            all_goals first | rfl | (exfalso; first | omega | (simp at *; done) | (simp [seqI_length] at *; done) | (simp [seqI_length] at *; omega))
          ·
            have h5' := of_decide_eq_true (bnf h5)
            refine t_skip ?_
            refine t_seq ?_
            refine t_seq ?_
            refine t_region ?_
            refine r_op (o_move rfl rfl) ?_
            refine r_op (o_move rfl rfl) ?_
            refine r_op (o_call 7 8 false (Go.Proofs.enters_of Tryz.func8 (by kernel_rfl) rfl) (c_laws_toDependencyS (ds) (by first | omega | assumption | (simp only [seqI_length]; done) | (simp only [seqI_length]; omega))) rfl (.cons rfl (.c .t0) .nil) rfl rfl rfl) ?_
            refine r_op (o_call 8 8 false (Go.Proofs.enters_of Tryz.func12 (by kernel_rfl) rfl) (c_laws_eqDependencyS ((ds)) ((ds)) (by first | omega | assumption | (simp only [seqI_length]; done) | (simp only [seqI_length]; omega))) rfl (.cons rfl (.c (.own rfl)) (.cons rfl (.c (.own rfl)) .nil)) rfl rfl rfl) ?_
            refine r_op (o_not rfl rfl) ?_
            refine r_end ?_
            refine t_cond rfl (fun h6 => ?_) (fun h6 => ?_)
            ·
              have h6' := of_decide_eq_false (bnt h6)
              refine t_seq ?_
              refine t_region ?_
              refine r_op (o_assign rfl rfl) ?_
              refine r_end ?_
              refine t_ret Tryz.func3 (.tmp rfl .nil) rfl fun E S w u hI hd => ?_
              refine post_mk hI hd ?_ trivial rfl rfl rfl <;> clear hI hd
              all_goals first | rfl | (exfalso; first | omega | (simp at *; done) | (simp [seqI_length] at *; done) | (simp [seqI_length] at *; omega))
            ·
              have h6' := of_decide_eq_true (bnf h6)
              refine t_skip ?_
              refine t_seq ?_
              refine t_region ?_
              refine r_op (o_assign rfl rfl) ?_
              refine r_end ?_
              refine t_seq ?_
              refine t_region ?_
              refine r_op (o_move rfl rfl) ?_
              refine r_op (o_move rfl rfl) ?_
              refine r_op (o_callH [⟨3, none, 53, 3, _, (enS3 encS encI encB), (rs), markRS (1) ((rs))⟩] (Go.Proofs.enters_of Tryz.func13 (by kernel_rfl) rfl) (fun U => c_laws_markRelationS U 53 ((rs)) (1) (by first | omega | assumption | (simp only [seqI_length]; done) | (simp only [seqI_length]; omega)) (by first | omega | assumption | (simp only [seqI_length]; done) | (simp only [seqI_length]; omega))) rfl ⟨rfl, trivial⟩ rfl rfl (.cons rfl (.own rfl) (.cons rfl .t0 .nil)) rfl) ?_
              refine r_op (o_assign rfl rfl) ?_
              refine r_end ?_
              refine t_seq ?_
              refine t_region ?_
              refine r_op (o_move rfl rfl) ?_
              refine r_op (o_move rfl rfl) ?_
              refine r_op (o_callH [⟨4, none, 57, 5, _, (enS5 (enSl 2 (enS2 encI (enSl 1 encI))) (enSl 2 (enS2 encI (enSl 1 encI))) encB encI encI), (ds), markDS ((1) + 3 * ((((rs)).length : Nat) : Int)) ((ds))⟩] (Go.Proofs.enters_of Tryz.func14 (by kernel_rfl) rfl) (fun U => c_laws_markDependencyS U 57 ((ds)) ((1) + 3 * ((((rs)).length : Nat) : Int)) (by first | omega | assumption | (simp only [seqI_length]; done) | (simp only [seqI_length]; omega)) (by first | omega | assumption | (simp only [seqI_length]; done) | (simp only [seqI_length]; omega))) rfl ⟨rfl, trivial⟩ rfl rfl (.cons rfl (.own rfl) (.cons rfl .t0 .nil)) rfl) ?_
              refine r_op (o_assign rfl rfl) ?_
              refine r_end ?_
              refine t_seq ?_
              refine t_seq ?_
              refine t_region ?_
              refine r_op (o_move rfl rfl) ?_
              refine r_op (o_bin rfl rfl rfl rfl) ?_
              refine r_op (o_move rfl rfl) ?_
              refine r_guard rfl rfl rfl (fun g7 => ?_) (fun g7 => ?_)
              ·
                have g7' := of_decide_eq_false g7
                refine r_op (o_move rfl rfl) ?_
                refine r_guard rfl rfl rfl (fun _ => ?_) (ncf g7)
                refine r_op (o_move rfl rfl) ?_
                refine r_guard rfl rfl rfl (fun _ => ?_) (ncf g7)
                refine r_op (o_call 8 8 false (Go.Proofs.enters_of Tryz.func10 (by kernel_rfl) rfl) (c_laws_eqIntS (rksL ((rs)) ((ds))) (rksL ((rs)) ((ds))) (by first | omega | assumption | (simp only [seqI_length]; done) | (simp only [seqI_length]; omega))) rfl (.cons rfl (.c (.own rfl)) (.cons rfl (.c (.own rfl)) .nil)) rfl rfl rfl) ?_
                refine r_guard rfl rfl rfl (fun _ => ?_) (ncf g7)
                refine r_op (o_not rfl rfl) ?_
                refine r_op (o_pickF rfl rfl g7 rfl) ?_
                refine r_op (o_move rfl rfl) ?_
                refine r_guard rfl rfl rfl (fun g8 => ?_) (fun g8 => ?_)
                ·
                  have g8' := of_decide_eq_true (bnf g8)
                  refine r_op (o_move rfl rfl) ?_
                  refine r_guard rfl rfl rfl (fun _ => ?_) (ncf g8)
                  refine r_op (o_move rfl rfl) ?_
                  refine r_guard rfl rfl rfl (fun _ => ?_) (ncf g8)
                  refine r_op (o_neB rfl Tryz.underlying4 rfl rfl) ?_
                  refine r_op (o_pickF rfl rfl g8 rfl) ?_
                  refine r_end ?_
                  refine t_cond rfl (fun h9 => ?_) (fun h9 => ?_)
                  ·
                    have h9' := h9
                    refine t_seq ?_
                    refine t_region ?_
                    refine r_op (o_assign rfl rfl) ?_
                    refine r_end ?_
                    refine t_ret Tryz.func3 (.tmp rfl .nil) rfl fun E S w u hI hd => ?_
                    refine post_mk hI hd ?_ trivial rfl rfl rfl <;> clear hI hd
                    all_goals first | rfl | (exfalso; first | omega | (simp at *; done) | (simp [seqI_length] at *; done) | (simp [seqI_length] at *; omega))
                  ·
                    have h9' := h9
                    refine t_skip ?_
                    refine t_seq ?_
                    refine t_region ?_
                    refine r_op (o_assign rfl rfl) ?_
                    refine r_end ?_
                    refine t_seq ?_
                    refine t_region ?_
                    refine r_op (o_move rfl rfl) ?_
                    refine r_op (o_move rfl rfl) ?_
                    refine r_op (o_callH [⟨5, none, 3, 1, _, encI, rksL ((rs)) ((ds)), seqI (1) (rksL ((rs)) ((ds))).length⟩] (Go.Proofs.enters_of Tryz.func15 (by kernel_rfl) rfl) (fun U => c_laws_markIntS U 3 (rksL ((rs)) ((ds))) (1) (by first | omega | assumption | (simp only [seqI_length]; done) | (simp only [seqI_length]; omega)) (by first | omega | assumption | (simp only [seqI_length]; done) | (simp only [seqI_length]; omega))) rfl ⟨rfl, trivial⟩ rfl rfl (.cons rfl (.own rfl) (.cons rfl .t0 .nil)) rfl) ?_
                    refine r_op (o_assign rfl rfl) ?_
                    refine r_end ?_
                    refine t_seq ?_
                    refine t_region ?_
                    refine r_op (o_assign rfl rfl) ?_
                    refine r_end ?_
                    refine t_seq ?_
                    refine t_region ?_
                    refine r_op (o_move rfl rfl) ?_
                    refine r_op (o_move rfl rfl) ?_
                    refine r_op (o_call 8 8 false (Go.Proofs.enters_of Tryz.func16 (by kernel_rfl) rfl) (c_laws_heldIntS (seqI (1) (rksL ((rs)) ((ds))).length) (1) (by first | omega | assumption | (simp only [seqI_length]; done) | (simp only [seqI_length]; omega)) (by first | omega | assumption | (simp only [seqI_length]; done) | (simp only [seqI_length]; omega))) rfl (.cons rfl (.c (.own rfl)) (.cons rfl (.c .t0) .nil)) rfl rfl rfl) ?_
                    refine r_op (o_assign rfl rfl) ?_
                    refine r_end ?_
                    refine t_seq ?_
                    refine t_seq ?_
                    refine t_region ?_
                    refine r_op (o_move rfl rfl) ?_
                    refine r_op (o_bin rfl rfl rfl rfl) ?_
                    refine r_end ?_
                    refine t_cond rfl (fun h10 => ?_) (fun h10 => ?_)
                    ·
                      have h10' := of_decide_eq_true h10
                      refine t_seq ?_
                      refine t_region ?_
                      refine r_op (o_assign rfl rfl) ?_
                      refine r_end ?_
                      refine t_ret Tryz.func3 (.tmp rfl .nil) rfl fun E S w u hI hd => ?_
                      refine post_mk hI hd ?_ trivial rfl rfl rfl <;> clear hI hd
                      all_goals first | rfl | (exfalso; first | omega | (simp at *; done) | (simp [seqI_length] at *; done) | (simp [seqI_length] at *; omega))
                    ·
                      have h10' := of_decide_eq_false h10
                      refine t_skip ?_
                      refine t_seq ?_
                      refine t_seq ?_
                      refine t_region ?_
                      refine r_op (o_move rfl rfl) ?_
                      refine r_op (o_move rfl rfl) ?_
                      refine r_op (o_bin rfl rfl rfl rfl) ?_
                      refine r_end ?_
                      refine t_cond rfl (fun h11 => ?_) (fun h11 => ?_)
                      ·
                        have h11' := of_decide_eq_true h11
                        refine t_seq ?_
                        refine t_region ?_
                        refine r_op (o_assign rfl rfl) ?_
                        refine r_end ?_
                        refine t_ret Tryz.func3 (.tmp rfl .nil) rfl fun E S w u hI hd => ?_
                        refine post_mk hI hd ?_ trivial rfl rfl rfl <;> clear hI hd
                        all_goals first | rfl | (exfalso; first | omega | (simp at *; done) | (simp [seqI_length] at *; done) | (simp [seqI_length] at *; omega))
                      ·
                        have h11' := of_decide_eq_false h11
                        refine t_skip ?_
                        refine t_seq ?_
                        refine t_region ?_
                        refine r_op (o_move rfl rfl) ?_
                        refine r_op (o_call 8 9 false (Go.Proofs.enters_of Tryz.func7 (by kernel_rfl) rfl) (c_laws_toRelationS (rs) (by first | omega | assumption | (simp only [seqI_length]; done) | (simp only [seqI_length]; omega))) rfl (.cons rfl (.c .t0) .nil) rfl rfl rfl) ?_
                        refine r_op (o_move rfl rfl) ?_
                        refine r_op (o_call 9 10 false (Go.Proofs.enters_of Tryz.func8 (by kernel_rfl) rfl) (c_laws_toDependencyS (ds) (by first | omega | assumption | (simp only [seqI_length]; done) | (simp only [seqI_length]; omega))) rfl (.cons rfl (.c .t0) .nil) rfl rfl rfl) ?_
                        refine r_op (o_call 10 11 false (Go.Proofs.enters_of Tryz.func9 (by kernel_rfl) rfl) (c_impl_PositionRanks ((rs)) ((ds)) (by first | omega | assumption | (simp only [seqI_length]; done) | (simp only [seqI_length]; omega)) (by first | omega | assumption | (simp only [seqI_length]; done) | (simp only [seqI_length]; omega))) rfl (.cons rfl (.c (.own rfl)) (.cons rfl (.c (.own rfl)) .nil)) rfl rfl rfl) ?_
                        refine r_op (o_move rfl rfl) ?_
                        refine r_op (o_extract rfl rfl rfl rfl) ?_
                        refine r_op (o_extract rfl rfl rfl rfl) ?_
                        refine r_op (o_assign rfl rfl) ?_
                        refine r_op (o_assign rfl rfl) ?_
                        refine r_end ?_
                        refine t_seq ?_
                        refine t_seq ?_
                        refine t_region ?_
                        refine r_op (o_move rfl rfl) ?_
                        refine r_op (o_move rfl rfl) ?_
                        refine r_op (o_call 11 11 false (Go.Proofs.enters_of Tryz.func10 (by kernel_rfl) rfl) (c_laws_eqIntS (rksL ((rs)) ((ds))) (rksL ((rs)) ((ds))) (by first | omega | assumption | (simp only [seqI_length]; done) | (simp only [seqI_length]; omega))) rfl (.cons rfl (.c (.own rfl)) (.cons rfl (.c (.own rfl)) .nil)) rfl rfl rfl) ?_
                        refine r_op (o_not rfl rfl) ?_
                        refine r_op (o_move rfl rfl) ?_
                        refine r_guard rfl rfl rfl (fun g12 => ?_) (fun g12 => ?_)
                        ·
                          have g12' := of_decide_eq_true (bnf g12)
                          refine r_op (o_move rfl rfl) ?_
                          refine r_guard rfl rfl rfl (fun _ => ?_) (ncf g12)
                          refine r_op (o_move rfl rfl) ?_
                          refine r_guard rfl rfl rfl (fun _ => ?_) (ncf g12)
                          refine r_op (o_neB rfl Tryz.underlying4 rfl rfl) ?_
                          refine r_op (o_pickF rfl rfl g12 rfl) ?_
                          refine r_end ?_
                          refine t_cond rfl (fun h13 => ?_) (fun h13 => ?_)
                          ·
                            have h13' := h13
                            refine t_seq ?_
                            refine t_region ?_
                            refine r_op (o_assign rfl rfl) ?_
                            refine r_end ?_
                            refine t_ret Tryz.func3 (.tmp rfl .nil) rfl fun E S w u hI hd => ?_
                            refine post_mk hI hd ?_ trivial rfl rfl rfl <;> clear hI hd
                            all_goals first | rfl | (exfalso; first | omega | (simp at *; done) | (simp [seqI_length] at *; done) | (simp [seqI_length] at *; omega))
                          ·
                            have h13' := h13
                            refine t_skip ?_
                            refine t_seq ?_
                            refine t_region ?_
                            refine r_op (o_assign rfl rfl) ?_
                            refine r_end ?_
                            refine t_seq ?_
                            refine t_region ?_
                            refine r_op (o_move rfl rfl) ?_
                            refine r_op (o_move rfl rfl) ?_
                            refine r_op (o_call 11 11 false (Go.Proofs.enters_of Tryz.func16 (by kernel_rfl) rfl) (c_laws_heldIntS (seqI (1) (rksL ((rs)) ((ds))).length) (1) (by first | omega | assumption | (simp only [seqI_length]; done) | (simp only [seqI_length]; omega)) (by first | omega | assumption | (simp only [seqI_length]; done) | (simp only [seqI_length]; omega))) rfl (.cons rfl (.c (.own rfl)) (.cons rfl (.c .t0) .nil)) rfl rfl rfl) ?_
                            refine r_op (o_assign rfl rfl) ?_
                            refine r_end ?_
                            refine t_seq ?_
                            refine t_seq ?_
                            refine t_region ?_
                            refine r_op (o_move rfl rfl) ?_
                            refine r_op (o_bin rfl rfl rfl rfl) ?_
                            refine r_end ?_
                            refine t_cond rfl (fun h14 => ?_) (fun h14 => ?_)
                            ·
                              have h14' := of_decide_eq_true h14
                              refine t_seq ?_
                              refine t_region ?_
                              refine r_op (o_assign rfl rfl) ?_
                              refine r_end ?_
                              refine t_ret Tryz.func3 (.tmp rfl .nil) rfl fun E S w u hI hd => ?_
                              refine post_mk hI hd ?_ trivial rfl rfl rfl <;> clear hI hd
                              all_goals first | rfl | (exfalso; first | omega | (simp at *; done) | (simp [seqI_length] at *; done) | (simp [seqI_length] at *; omega))
                            ·
                              have h14' := of_decide_eq_false h14
                              refine t_skip ?_
                              refine t_seq ?_
                              refine t_seq ?_
                              refine t_region ?_
                              refine r_op (o_move rfl rfl) ?_
                              refine r_op (o_move rfl rfl) ?_
                              refine r_op (o_bin rfl rfl rfl rfl) ?_
                              refine r_end ?_
                              refine t_cond rfl (fun h15 => ?_) (fun h15 => ?_)
                              ·
                                have h15' := of_decide_eq_true h15
                                refine t_seq ?_
                                refine t_region ?_
                                refine r_op (o_assign rfl rfl) ?_
                                refine r_end ?_
                                refine t_ret Tryz.func3 (.tmp rfl .nil) rfl fun E S w u hI hd => ?_
                                refine post_mk hI hd ?_ trivial rfl rfl rfl <;> clear hI hd
                                all_goals first | rfl | (exfalso; first | omega | (simp at *; done) | (simp [seqI_length] at *; done) | (simp [seqI_length] at *; omega))
                              ·
                                have h15' := of_decide_eq_false h15
                                refine t_skip ?_
                                refine t_seq ?_
                                refine t_region ?_
                                refine r_op (o_assign rfl rfl) ?_
                                refine r_end ?_
                                refine t_ret Tryz.func3 (.tmp rfl .nil) rfl fun E S w u hI hd => ?_
                                refine post_mk hI hd ?_ trivial rfl rfl rfl <;> clear hI hd
                                all_goals first | rfl | (exfalso; first | omega | (simp at *; done) | (simp [seqI_length] at *; done) | (simp [seqI_length] at *; omega))
                        ·
                          have g12' := of_decide_eq_false (bnt g12)
                          refine r_guard rfl rfl rfl (nc g12) (fun _ => ?_)
                          refine r_guard rfl rfl rfl (nc g12) (fun _ => ?_)
                          refine r_op (o_pickT rfl rfl g12 rfl) ?_
                          refine r_end ?_
                          refine t_cond rfl (fun _ => ?_) (nc rfl)
                          refine t_seq ?_
                          refine t_region ?_
                          refine r_op (o_assign rfl rfl) ?_
                          refine r_end ?_
                          refine t_ret Tryz.func3 (.tmp rfl .nil) rfl fun E S w u hI hd => ?_
                          refine post_mk hI hd ?_ trivial rfl rfl rfl <;> clear hI hd
                          all_goals first | rfl | (exfalso; first | omega | (simp at *; done) | (simp [seqI_length] at *; done) | (simp [seqI_length] at *; omega))
                ·
                  have g8' := of_decide_eq_false (bnt g8)
                  refine r_guard rfl rfl rfl (nc g8) (fun _ => ?_)
                  refine r_guard rfl rfl rfl (nc g8) (fun _ => ?_)
                  refine r_op (o_pickT rfl rfl g8 rfl) ?_
                  refine r_end ?_
                  refine t_cond rfl (fun _ => ?_) (nc rfl)
                  refine t_seq ?_
                  refine t_region ?_
                  refine r_op (o_assign rfl rfl) ?_
                  refine r_end ?_
                  refine t_ret Tryz.func3 (.tmp rfl .nil) rfl fun E S w u hI hd => ?_
                  refine post_mk hI hd ?_ trivial rfl rfl rfl <;> clear hI hd
                  all_goals first | rfl | (exfalso; first | omega | (simp at *; done) | (simp [seqI_length] at *; done) | (simp [seqI_length] at *; omega))
              ·
                have g7' := of_decide_eq_true g7
                refine r_guard rfl rfl rfl (nc g7) (fun _ => ?_)
                refine r_guard rfl rfl rfl (nc g7) (fun _ => ?_)
                refine r_guard rfl rfl rfl (nc g7) (fun _ => ?_)
                refine r_op (o_pickT rfl rfl g7 rfl) ?_
                refine r_op (o_move rfl rfl) ?_
                refine r_guard rfl rfl rfl (nc rfl) (fun _ => ?_)
                refine r_guard rfl rfl rfl (nc rfl) (fun _ => ?_)
                refine r_guard rfl rfl rfl (nc rfl) (fun _ => ?_)
                refine r_op (o_pickT rfl rfl rfl rfl) ?_
                refine r_end ?_
                refine t_cond rfl (fun _ => ?_) (nc rfl)
                refine t_seq ?_
                refine t_region ?_
                refine r_op (o_assign rfl rfl) ?_
                refine r_end ?_
                refine t_ret Tryz.func3 (.tmp rfl .nil) rfl fun E S w u hI hd => ?_
                refine post_mk hI hd ?_ trivial rfl rfl rfl <;> clear hI hd
                all_goals first | rfl | (exfalso; first | omega | (simp at *; done) | (simp [seqI_length] at *; done) | (simp [seqI_length] at *; omega))
      ·
        have g3' := of_decide_eq_false (bnt g3)
        refine r_guard rfl rfl rfl (nc g3) (fun _ => ?_)
        refine r_guard rfl rfl rfl (nc g3) (fun _ => ?_)
        refine r_op (o_pickT rfl rfl g3 rfl) ?_
        refine r_end ?_
        refine t_cond rfl (fun _ => ?_) (nc rfl)
        refine t_seq ?_
        refine t_region ?_
        refine r_op (o_assign rfl rfl) ?_
        refine r_end ?_
        refine t_ret Tryz.func3 (.tmp rfl .nil) rfl fun E S w u hI hd => ?_
        refine post_mk hI hd ?_ trivial rfl rfl rfl <;> clear hI hd
        all_goals first | rfl | (exfalso; first | omega | (simp at *; done) | (simp [seqI_length] at *; done) | (simp [seqI_length] at *; omega))
end Go.Eng
