/- What the functions that FnExactFirstViolation reaches answer. -/
import Derived.Test.YtoogciieclonfaaGreatFnsFnExactFirstViolationp0
import Derived.Test.YtoogciieclonfaaGreatEngK
import Derived.Test.YtoogciieclonfaaGreatChecked
set_option linter.unusedVariables false
set_option linter.unusedSimpArgs false
namespace Go.Eng
open Go Go.RowKit Go.Proofs
set_option maxHeartbeats 1000000 in
set_option maxRecDepth 10000 in
theorem c_laws_FnExactFirstViolation (rs : Rels) (fs : Atoms) (ds : List Dep) (h0 : (okL (fun (x : List UInt8 × Int × Bool) => okS (x.1) ∧ okI (x.2.1) ∧ okB (x.2.2))) rs) (h1 : (okL (fun (x : Int × (List (Int))) => okI (x.1) ∧ (okL okI) (x.2))) fs) (h2 : (okL (fun (x : (List (Int × (List (Int)))) × (List (Int × (List (Int)))) × Bool × Int × Int) => (okL (fun (x : Int × (List (Int))) => okI (x.1) ∧ (okL okI) (x.2))) (x.1) ∧ (okL (fun (x : Int × (List (Int))) => okI (x.1) ∧ (okL okI) (x.2))) (x.2.1) ∧ okB (x.2.2.1) ∧ okI (x.2.2.2.1) ∧ okI (x.2.2.2.2))) ds) : Pu Tryz.prog 7 [.agg [.t none (.sl 3 (enS3 encS encI encB) (rs)), .t none (.sl 2 (enS2 encI (enSl 1 encI)) (fs))], .c (.t none (.sl 5 (enS5 (enSl 2 (enS2 encI (enSl 1 encI))) (enSl 2 (enS2 encI (enSl 1 encI))) encB encI encI) (ds)))] [] 0 (.c (.t none (.v (.bool (true))))) := by
  refine pu_enter Tryz.func7 rfl (Nat.le_of_ble_eq_true rfl) fun w S => ?_
  have g0 := h0.1; have g1 := h1.1; have g2 := h2.1; have gr := sz_len (f := (fun (x : List UInt8 × Int × Bool) => (x.1).length)) (l := rs); have gd : (ds.map ctD).sum ≤ 3 * szS (fun (x : (List (Int × (List (Int)))) × (List (Int × (List (Int)))) × Bool × Int × Int) => (szS (fun (x : Int × (List (Int))) => (x.2).length) (x.1)) + (szS (fun (x : Int × (List (Int))) => (x.2).length) (x.2.1))) ds := ctD_sum ds; have gv := vioB_len (rs := rs) (fs := fs) (ds := ds); have ho : ∀ z ∈ fs, ∀ x ∈ z.2, okI x := fun z hz x hx => ((h1.2 z hz).2).2 x hx; have hod : ∀ d ∈ ds, ∀ z ∈ d.1, ∀ x ∈ z.2, okI x := fun d hd z hz x hx => (((h2.2 d hd).1.2 z hz).2).2 x hx
  refine t_seq ?_
  refine t_region ?_
  refine r_op (o_box 0 rfl rfl rfl rfl) ?_
  refine r_op (o_assign rfl rfl) ?_
  refine r_end ?_
  refine t_seq ?_
  refine t_region ?_
  refine r_op (o_assign rfl rfl) ?_
  refine r_end ?_
  refine t_seq ?_
  refine t_region ?_
  refine r_op (o_loadAb rfl (n := 2) (by kernel_rfl) (by kernel_rfl) rfl rfl rfl) ?_
  refine r_op (o_move rfl rfl) ?_
  refine r_op (o_call 1 1 false (Go.Proofs.enters_of Tryz.func11 (by kernel_rfl) rfl) (c_laws_szInstance (rs) (fs) (1048576) (by omega) (by omega) (by omega) (by omega)) rfl (.cons rfl (.agg (.cons .t0 (.cons .t0 .nil))) (.cons rfl (.c .t0) .nil)) rfl rfl rfl) ?_
  refine r_op (o_assign rfl rfl) ?_
  refine r_end ?_
  refine t_seq ?_
  refine t_seq ?_
  refine t_region ?_
  refine r_op (o_move rfl rfl) ?_
  refine r_op (o_bin rfl rfl rfl rfl) ?_
  refine r_end ?_
  refine t_cond rfl (fun h1 => ?_) (fun h1 => ?_)
  ·
    have h1' := of_decide_eq_true h1
    refine t_seq ?_
    refine t_region ?_
    refine r_op (o_assign rfl rfl) ?_
    refine r_end ?_
    refine t_ret Tryz.func7 (.tmp rfl .nil) rfl fun E S w u hI hd => ?_
    refine post_mk hI hd ?_ trivial rfl rfl rfl <;> clear hI hd
    all_goals (rfl)
  ·
    have h1' := of_decide_eq_false h1
    refine t_skip ?_
    refine t_seq ?_
    refine t_region ?_
    refine r_op (o_move rfl rfl) ?_
    refine r_op (o_move rfl rfl) ?_
    refine r_op (o_call 1 1 false (Go.Proofs.enters_of Tryz.func31 (by kernel_rfl) rfl) (c_laws_szDependencyS (ds) (if (1048576) - (((szS (fun (x : List UInt8 × Int × Bool) => (x.1).length) ((rs))) + (szS (fun (x : Int × (List (Int))) => (x.2).length) ((fs))) : Nat) : Int) < 0 then -1 else (1048576) - (((szS (fun (x : List UInt8 × Int × Bool) => (x.1).length) ((rs))) + (szS (fun (x : Int × (List (Int))) => (x.2).length) ((fs))) : Nat) : Int)) (by omega) (by omega) (by omega)) rfl (.cons rfl (.c .t0) (.cons rfl (.c .t0) .nil)) rfl rfl rfl) ?_
    refine r_op (o_assign rfl rfl) ?_
    refine r_end ?_
    refine t_seq ?_
    refine t_seq ?_
    refine t_region ?_
    refine r_op (o_move rfl rfl) ?_
    refine r_op (o_bin rfl rfl rfl rfl) ?_
    refine r_end ?_
    refine t_cond rfl (fun h2 => ?_) (fun h2 => ?_)
    ·
      have h2' := of_decide_eq_true h2
      refine t_seq ?_
      refine t_region ?_
      refine r_op (o_assign rfl rfl) ?_
      refine r_end ?_
      refine t_ret Tryz.func7 (.tmp rfl .nil) rfl fun E S w u hI hd => ?_
      refine post_mk hI hd ?_ trivial rfl rfl rfl <;> clear hI hd
      all_goals (rfl)
    ·
      have h2' := of_decide_eq_false h2
      refine t_skip ?_
      refine t_seq ?_
      refine t_region ?_
      refine r_op (o_loadAb rfl (n := 2) (by kernel_rfl) (by kernel_rfl) rfl rfl rfl) ?_
      refine r_op (o_call 1 6 false (Go.Proofs.enters_of Tryz.func14 (by kernel_rfl) rfl) (c_laws_toInstance (rs) (fs) (by omega)) rfl (.cons rfl (.agg (.cons .t0 (.cons .t0 .nil))) .nil) rfl rfl rfl) ?_
      refine r_op (o_move rfl rfl) ?_
      refine r_op (o_call 6 7 false (Go.Proofs.enters_of Tryz.func33 (by kernel_rfl) rfl) (c_laws_toDependencyS (ds) (by omega)) rfl (.cons rfl (.c .t0) .nil) rfl rfl rfl) ?_
      refine r_opE (o_callE 7 8 (Go.Proofs.enters_of Tryz.func39 (by kernel_rfl) rfl) (c_spec_FirstViolation ((rs)) ((fs)) ((ds)) (by omega) (by omega) (by omega) (by omega) (by omega)) rfl (.cons rfl (.agg (.cons (.own rfl) (.cons (.own rfl) .nil))) (.cons rfl (.c (.own rfl)) .nil)) (fun _ => rfl) rfl rfl) fun e3 => ?_
      refine r_op (o_move rfl rfl) ?_
      refine r_op (o_extract rfl rfl rfl rfl) ?_
      refine r_op (o_extract rfl rfl rfl rfl) ?_
      refine r_op (o_extract rfl rfl rfl rfl) ?_
      refine r_op (o_assign rfl rfl) ?_
      refine r_op (o_assign rfl rfl) ?_
      refine r_op (o_assign rfl rfl) ?_
      refine r_end ?_
      refine t_seq ?_
      refine t_region ?_
      refine r_op (o_loadAb rfl (n := 2) (by kernel_rfl) (by kernel_rfl) rfl rfl rfl) ?_
      refine r_op (o_call 8 13 false (Go.Proofs.enters_of Tryz.func14 (by kernel_rfl) rfl) (c_laws_toInstance (rs) (fs) (by omega)) rfl (.cons rfl (.agg (.cons .t0 (.cons .t0 .nil))) .nil) rfl rfl rfl) ?_
      refine r_op (o_alloc 13 (zs := [.slice none 0 0, .slice none 0 0]) rfl rfl (by kernel_rfl) rfl) ?_
      refine r_op (o_storeb (n := 2) (by kernel_rfl) rfl rfl rfl rfl rfl rfl) ?_
      refine r_end ?_
      refine t_seq ?_
      refine t_region ?_
      refine r_op (o_move rfl rfl) ?_
      refine r_op (o_call 14 15 false (Go.Proofs.enters_of Tryz.func33 (by kernel_rfl) rfl) (c_laws_toDependencyS (ds) (by omega)) rfl (.cons rfl (.c .t0) .nil) rfl rfl rfl) ?_
      refine r_op (o_assign rfl rfl) ?_
      refine r_end ?_
      refine t_seq ?_
      refine t_region ?_
      refine r_op (o_loadAb rfl (n := 2) (by kernel_rfl) (by kernel_rfl) rfl rfl rfl) ?_
      refine r_op (o_move rfl rfl) ?_
      refine r_opE (o_callE 15 16 (Go.Proofs.enters_of Tryz.func40 (by kernel_rfl) rfl) (c_impl_FirstViolation ((rs)) ((fs)) ((ds)) (by omega) (by omega) (by omega) (by omega) (by omega)) rfl (.cons rfl (.agg (.cons (.own rfl) (.cons (.own rfl) .nil))) (.cons rfl (.c (.own rfl)) .nil)) (fun _ => rfl) rfl rfl) fun e4 => ?_
      refine r_op (o_move rfl rfl) ?_
      refine r_op (o_extract rfl rfl rfl rfl) ?_
      refine r_op (o_extract rfl rfl rfl rfl) ?_
      refine r_op (o_extract rfl rfl rfl rfl) ?_
      refine r_op (o_assign rfl rfl) ?_
      refine r_op (o_assign rfl rfl) ?_
      refine r_op (o_assign rfl rfl) ?_
      refine r_end ?_
      refine t_seq ?_
      refine t_seq ?_
      refine t_region ?_
      refine r_op (o_move rfl rfl) ?_
      refine r_op (o_move rfl rfl) ?_
      refine r_op (o_bin rfl rfl rfl rfl) ?_
      refine r_op (o_move rfl rfl) ?_
      refine r_guard rfl rfl rfl (fun g5 => ?_) (fun g5 => ?_)
      ·
        have g5' := of_decide_eq_false g5
        refine r_op (o_move rfl rfl) ?_
        refine r_guard rfl rfl rfl (fun _ => ?_) (ncf g5)
        refine r_op (o_move rfl rfl) ?_
        refine r_guard rfl rfl rfl (fun _ => ?_) (ncf g5)
        refine r_op (o_call 16 16 false (Go.Proofs.enters_of Tryz.func20 (by kernel_rfl) rfl) (c_laws_eqIntS (vioB ((rs)) ((fs)) ((ds))) (vioB ((rs)) ((fs)) ((ds))) (by omega)) rfl (.cons rfl (.c (.own rfl)) (.cons rfl (.c (.own rfl)) .nil)) rfl rfl rfl) ?_
        refine r_guard rfl rfl rfl (fun _ => ?_) (ncf g5)
        refine r_op (o_not rfl rfl) ?_
        refine r_op (o_pickF rfl rfl g5 rfl) ?_
        refine r_op (o_move rfl rfl) ?_
        refine r_guard rfl rfl rfl (fun g6 => ?_) (fun g6 => ?_)
        ·
          have g6' := of_decide_eq_true (bnf g6)
          refine r_op (o_move rfl rfl) ?_
          refine r_guard rfl rfl rfl (fun _ => ?_) (ncf g6)
          refine r_op (o_move rfl rfl) ?_
          refine r_guard rfl rfl rfl (fun _ => ?_) (ncf g6)
          refine r_op (o_neB rfl Tryz.underlying4 rfl rfl) ?_
          refine r_op (o_pickF rfl rfl g6 rfl) ?_
          refine r_end ?_
          refine t_cond rfl (fun h7 => ?_) (fun h7 => ?_)
          ·
            have h7' := h7
            refine t_seq ?_
            refine t_region ?_
            refine r_op (o_assign rfl rfl) ?_
            refine r_end ?_
            refine t_ret Tryz.func7 (.tmp rfl .nil) rfl fun E S w u hI hd => ?_
            refine post_mk hI hd ?_ trivial rfl rfl rfl <;> clear hI hd
            all_goals (exfalso; (simp [seqI_length] at *; done))
          ·
            have h7' := h7
            refine t_skip ?_
            refine t_seq ?_
            refine t_seq ?_
            refine t_draw (fun _ => true) (by kernel_rfl) ?_
            refine d_take 0 rfl rfl (by kernel_rfl) (by kernel_rfl) (by kernel_rfl) (p_loadAb (n := 2) (by kernel_rfl) (by kernel_rfl) rfl rfl rfl) ?_
            refine d_take 1 rfl rfl (by kernel_rfl) (by kernel_rfl) (by kernel_rfl) (p_loadAb (n := 2) (by kernel_rfl) (by kernel_rfl) rfl rfl rfl) ?_
            refine d_only 2 rfl (by kernel_rfl) rfl (o_call 16 21 false (Go.Proofs.enters_of Tryz.func14 (by kernel_rfl) rfl) (c_laws_toInstance (rs) (fs) (by omega)) rfl (.cons rfl (.agg (.cons .t0 (.cons .t0 .nil))) .nil) rfl rfl rfl) ?_
            refine d_only 3 rfl (by kernel_rfl) rfl (o_call 21 21 false (Go.Proofs.enters_of Tryz.func18 (by kernel_rfl) rfl) (c_laws_eqInstance ((rs)) ((fs)) ((rs)) ((fs)) (by omega)) rfl (.cons rfl (.agg (.cons (.own rfl) (.cons (.own rfl) .nil))) (.cons rfl (.agg (.cons (.own rfl) (.cons (.own rfl) .nil))) .nil)) rfl rfl rfl) ?_
            refine d_take 4 rfl rfl (by kernel_rfl) (by kernel_rfl) (by kernel_rfl) (p_not rfl) ?_
            refine d_end (by kernel_rfl) ?_
            refine t_cond rfl (fun h8 => ?_) (fun h8 => ?_)
            ·
              have h8' := of_decide_eq_false (bnt h8)
              refine t_seq ?_
              refine t_region ?_
              refine r_op (o_assign rfl rfl) ?_
              refine r_end ?_
              refine t_ret Tryz.func7 (.tmp rfl .nil) rfl fun E S w u hI hd => ?_
              refine post_mk hI hd ?_ trivial rfl rfl rfl <;> clear hI hd
              all_goals (exfalso; (simp [seqI_length] at *; done))
            ·
              have h8' := of_decide_eq_true (bnf h8)
              refine t_skip ?_
              refine t_seq ?_
              refine t_seq ?_
              refine t_region ?_
              refine r_op (o_move rfl rfl) ?_
              refine r_op (o_move rfl rfl) ?_
              refine r_op (o_call 21 22 false (Go.Proofs.enters_of Tryz.func33 (by kernel_rfl) rfl) (c_laws_toDependencyS (ds) (by omega)) rfl (.cons rfl (.c .t0) .nil) rfl rfl rfl) ?_
              refine r_op (o_call 22 22 false (Go.Proofs.enters_of Tryz.func35 (by kernel_rfl) rfl) (c_laws_eqDependencyS ((ds)) ((ds)) (by omega)) rfl (.cons rfl (.c (.own rfl)) (.cons rfl (.c (.own rfl)) .nil)) rfl rfl rfl) ?_
              refine r_op (o_not rfl rfl) ?_
              refine r_end ?_
              refine t_cond rfl (fun h9 => ?_) (fun h9 => ?_)
              ·
                have h9' := of_decide_eq_false (bnt h9)
                refine t_seq ?_
                refine t_region ?_
                refine r_op (o_assign rfl rfl) ?_
                refine r_end ?_
                refine t_ret Tryz.func7 (.tmp rfl .nil) rfl fun E S w u hI hd => ?_
                refine post_mk hI hd ?_ trivial rfl rfl rfl <;> clear hI hd
                all_goals (exfalso; (simp [seqI_length] at *; done))
              ·
                have h9' := of_decide_eq_true (bnf h9)
                refine t_skip ?_
                refine t_seq ?_
                refine t_region ?_
                refine r_op (o_assign rfl rfl) ?_
                refine r_end ?_
                refine t_seq ?_
                refine t_region ?_
                refine r_op (o_loadAb rfl (n := 2) (by kernel_rfl) (by kernel_rfl) rfl rfl rfl) ?_
                refine r_op (o_move rfl rfl) ?_
                refine r_op (o_callH [⟨11, none, 132, 3, _, (enS3 encS encI encB), (rs), markRS (1) ((rs))⟩, ⟨12, none, 117, 2, _, (enS2 encI (enSl 1 encI)), (fs), markATS ((1) + 3 * ((((rs)).length : Nat) : Int)) ((fs))⟩] (Go.Proofs.enters_of Tryz.func27 (by kernel_rfl) rfl) (fun U => c_laws_markInstance U 132 117 ((rs)) ((fs)) (1) (by omega) (by omega)) rfl ⟨rfl, ⟨rfl, trivial⟩⟩ rfl rfl (.agg rfl (.cons (.own rfl) (.cons (.own rfl) .nil)) (.cons rfl .t0 .nil)) rfl) ?_
                refine r_op (o_assign rfl rfl) ?_
                refine r_end ?_
                refine t_seq ?_
                refine t_region ?_
                refine r_op (o_move rfl rfl) ?_
                refine r_op (o_move rfl rfl) ?_
                refine r_op (o_callH [⟨14, none, 40, 5, _, (enS5 (enSl 2 (enS2 encI (enSl 1 encI))) (enSl 2 (enS2 encI (enSl 1 encI))) encB encI encI), (ds), markDS ((1) + 3 * ((((rs)).length : Nat) : Int) + ((szS (fun (x : Int × (List (Int))) => (x.2).length) ((fs)) : Nat) : Int)) ((ds))⟩] (Go.Proofs.enters_of Tryz.func41 (by kernel_rfl) rfl) (fun U => c_laws_markDependencyS U 40 ((ds)) ((1) + 3 * ((((rs)).length : Nat) : Int) + ((szS (fun (x : Int × (List (Int))) => (x.2).length) ((fs)) : Nat) : Int)) (by omega) (by omega)) rfl ⟨rfl, trivial⟩ rfl rfl (.cons rfl (.own rfl) (.cons rfl .t0 .nil)) rfl) ?_
                refine r_op (o_assign rfl rfl) ?_
                refine r_end ?_
                refine t_seq ?_
                refine t_seq ?_
                refine t_region ?_
                refine r_op (o_move rfl rfl) ?_
                refine r_op (o_bin rfl rfl rfl rfl) ?_
                refine r_op (o_move rfl rfl) ?_
                refine r_guard rfl rfl rfl (fun g10 => ?_) (fun g10 => ?_)
                ·
                  have g10' := of_decide_eq_false g10
                  refine r_op (o_move rfl rfl) ?_
                  refine r_guard rfl rfl rfl (fun _ => ?_) (ncf g10)
                  refine r_op (o_move rfl rfl) ?_
                  refine r_guard rfl rfl rfl (fun _ => ?_) (ncf g10)
                  refine r_op (o_bin rfl rfl rfl rfl) ?_
                  refine r_op (o_pickF rfl rfl g10 rfl) ?_
                  refine r_op (o_move rfl rfl) ?_
                  refine r_guard rfl rfl rfl (fun g11 => ?_) (fun g11 => ?_)
                  ·
                    have g11' := of_decide_eq_false g11
                    refine r_op (o_move rfl rfl) ?_
                    refine r_guard rfl rfl rfl (fun _ => ?_) (ncf g11)
                    refine r_op (o_move rfl rfl) ?_
                    refine r_guard rfl rfl rfl (fun _ => ?_) (ncf g11)
                    refine r_op (o_call 22 22 false (Go.Proofs.enters_of Tryz.func20 (by kernel_rfl) rfl) (c_laws_eqIntS (vioB ((rs)) ((fs)) ((ds))) (vioB ((rs)) ((fs)) ((ds))) (by omega)) rfl (.cons rfl (.c (.own rfl)) (.cons rfl (.c (.own rfl)) .nil)) rfl rfl rfl) ?_
                    refine r_guard rfl rfl rfl (fun _ => ?_) (ncf g11)
                    refine r_op (o_not rfl rfl) ?_
                    refine r_op (o_pickF rfl rfl g11 rfl) ?_
                    refine r_op (o_move rfl rfl) ?_
                    refine r_guard rfl rfl rfl (fun g12 => ?_) (fun g12 => ?_)
                    ·
                      have g12' := of_decide_eq_true (bnf g12)
                      refine r_op (o_move rfl rfl) ?_
                      refine r_guard rfl rfl rfl (fun _ => ?_) (ncf g12)
                      refine r_op (o_move rfl rfl) ?_
                      refine r_guard rfl rfl rfl (fun _ => ?_) (ncf g12)
                      refine r_op (o_neB rfl Tryz.underlying4 rfl rfl) ?_
                      refine r_op (o_pickF rfl rfl g12 rfl) ?_
                      refine r_end ?_
                      refine t_cond rfl (fun h13 => ?_) (fun h13 => ?_)
                      ·
                        have h13' := h13
                        refine t_seq ?_
                        refine t_region ?_
                        refine r_op (o_assign rfl rfl) ?_
                        refine r_end ?_
                        refine t_ret Tryz.func7 (.tmp rfl .nil) rfl fun E S w u hI hd => ?_
                        refine post_mk hI hd ?_ trivial rfl rfl rfl <;> clear hI hd
                        all_goals (exfalso; (simp [seqI_length] at *; done))
                      ·
                        have h13' := h13
                        refine t_skip ?_
                        refine t_seq ?_
                        refine t_region ?_
                        refine r_op (o_assign rfl rfl) ?_
                        refine r_end ?_
                        refine t_seq ?_
                        refine t_region ?_
                        refine r_op (o_move rfl rfl) ?_
                        refine r_op (o_move rfl rfl) ?_
                        refine r_op (o_callH [⟨15, none, e4, 1, _, encI, vioB ((rs)) ((fs)) ((ds)), seqI (1) (vioB ((rs)) ((fs)) ((ds))).length⟩] (Go.Proofs.enters_of Tryz.func42 (by kernel_rfl) rfl) (fun U => c_laws_markIntS U e4 (vioB ((rs)) ((fs)) ((ds))) (1) (by omega) (by omega)) rfl ⟨rfl, trivial⟩ rfl rfl (.cons rfl (.own rfl) (.cons rfl .t0 .nil)) rfl) ?_
                        refine r_op (o_assign rfl rfl) ?_
                        refine r_end ?_
                        refine t_seq ?_
                        refine t_region ?_
                        refine r_op (o_assign rfl rfl) ?_
                        refine r_end ?_
                        refine t_seq ?_
                        refine t_region ?_
                        refine r_op (o_move rfl rfl) ?_
                        refine r_op (o_move rfl rfl) ?_
                        refine r_op (o_call 22 22 false (Go.Proofs.enters_of Tryz.func43 (by kernel_rfl) rfl) (c_laws_heldIntS (seqI (1) (vioB ((rs)) ((fs)) ((ds))).length) (1) (by omega) (by (simp only [seqI_length]; omega))) rfl (.cons rfl (.c (.own rfl)) (.cons rfl (.c .t0) .nil)) rfl rfl rfl) ?_
                        refine r_op (o_assign rfl rfl) ?_
                        refine r_end ?_
                        refine t_seq ?_
                        refine t_seq ?_
                        refine t_region ?_
                        refine r_op (o_move rfl rfl) ?_
                        refine r_op (o_bin rfl rfl rfl rfl) ?_
                        refine r_end ?_
                        refine t_cond rfl (fun h14 => ?_) (fun h14 => ?_)
                        ·
                          have h14' := of_decide_eq_true h14
                          refine t_seq ?_
                          refine t_region ?_
                          refine r_op (o_assign rfl rfl) ?_
                          refine r_end ?_
                          refine t_ret Tryz.func7 (.tmp rfl .nil) rfl fun E S w u hI hd => ?_
                          refine post_mk hI hd ?_ trivial rfl rfl rfl <;> clear hI hd
                          all_goals (exfalso; (simp [seqI_length] at *; omega))
                        ·
                          have h14' := of_decide_eq_false h14
                          refine t_skip ?_
                          refine t_seq ?_
                          refine t_seq ?_
                          refine t_region ?_
                          refine r_op (o_move rfl rfl) ?_
                          refine r_op (o_move rfl rfl) ?_
                          refine r_op (o_bin rfl rfl rfl rfl) ?_
                          refine r_end ?_
                          refine t_cond rfl (fun h15 => ?_) (fun h15 => ?_)
                          ·
                            have h15' := of_decide_eq_true h15
                            refine t_seq ?_
                            refine t_region ?_
                            refine r_op (o_assign rfl rfl) ?_
                            refine r_end ?_
                            refine t_ret Tryz.func7 (.tmp rfl .nil) rfl fun E S w u hI hd => ?_
                            refine post_mk hI hd ?_ trivial rfl rfl rfl <;> clear hI hd
                            all_goals (exfalso; (simp [seqI_length] at *; done))
                          ·
                            have h15' := of_decide_eq_false h15
                            refine t_skip ?_
                            refine t_seq ?_
                            refine t_region ?_
                            refine r_op (o_loadAb rfl (n := 2) (by kernel_rfl) (by kernel_rfl) rfl rfl rfl) ?_
                            refine r_op (o_call 22 27 false (Go.Proofs.enters_of Tryz.func14 (by kernel_rfl) rfl) (c_laws_toInstance (rs) (fs) (by omega)) rfl (.cons rfl (.agg (.cons .t0 (.cons .t0 .nil))) .nil) rfl rfl rfl) ?_
                            refine r_op (o_move rfl rfl) ?_
                            refine r_op (o_call 27 28 false (Go.Proofs.enters_of Tryz.func33 (by kernel_rfl) rfl) (c_laws_toDependencyS (ds) (by omega)) rfl (.cons rfl (.c .t0) .nil) rfl rfl rfl) ?_
                            refine r_opE (o_callE 28 29 (Go.Proofs.enters_of Tryz.func40 (by kernel_rfl) rfl) (c_impl_FirstViolation ((rs)) ((fs)) ((ds)) (by omega) (by omega) (by omega) (by omega) (by omega)) rfl (.cons rfl (.agg (.cons (.own rfl) (.cons (.own rfl) .nil))) (.cons rfl (.c (.own rfl)) .nil)) (fun _ => rfl) rfl rfl) fun e16 => ?_
                            refine r_op (o_move rfl rfl) ?_
                            refine r_op (o_extract rfl rfl rfl rfl) ?_
                            refine r_op (o_extract rfl rfl rfl rfl) ?_
                            refine r_op (o_extract rfl rfl rfl rfl) ?_
                            refine r_op (o_assign rfl rfl) ?_
                            refine r_op (o_assign rfl rfl) ?_
                            refine r_op (o_assign rfl rfl) ?_
                            refine r_end ?_
                            refine t_seq ?_
                            refine t_seq ?_
                            refine t_region ?_
                            refine r_op (o_move rfl rfl) ?_
                            refine r_op (o_move rfl rfl) ?_
                            refine r_op (o_bin rfl rfl rfl rfl) ?_
                            refine r_op (o_move rfl rfl) ?_
                            refine r_guard rfl rfl rfl (fun g17 => ?_) (fun g17 => ?_)
                            ·
                              have g17' := of_decide_eq_false g17
                              refine r_op (o_move rfl rfl) ?_
                              refine r_guard rfl rfl rfl (fun _ => ?_) (ncf g17)
                              refine r_op (o_move rfl rfl) ?_
                              refine r_guard rfl rfl rfl (fun _ => ?_) (ncf g17)
                              refine r_op (o_call 29 29 false (Go.Proofs.enters_of Tryz.func20 (by kernel_rfl) rfl) (c_laws_eqIntS (vioB ((rs)) ((fs)) ((ds))) (vioB ((rs)) ((fs)) ((ds))) (by omega)) rfl (.cons rfl (.c (.own rfl)) (.cons rfl (.c (.own rfl)) .nil)) rfl rfl rfl) ?_
                              refine r_guard rfl rfl rfl (fun _ => ?_) (ncf g17)
                              refine r_op (o_not rfl rfl) ?_
                              refine r_op (o_pickF rfl rfl g17 rfl) ?_
                              refine r_op (o_move rfl rfl) ?_
                              refine r_guard rfl rfl rfl (fun g18 => ?_) (fun g18 => ?_)
                              ·
                                have g18' := of_decide_eq_true (bnf g18)
                                refine r_op (o_move rfl rfl) ?_
                                refine r_guard rfl rfl rfl (fun _ => ?_) (ncf g18)
                                refine r_op (o_move rfl rfl) ?_
                                refine r_guard rfl rfl rfl (fun _ => ?_) (ncf g18)
                                refine r_op (o_neB rfl Tryz.underlying4 rfl rfl) ?_
                                refine r_op (o_pickF rfl rfl g18 rfl) ?_
                                refine r_end ?_
                                refine t_cond rfl (fun h19 => ?_) (fun h19 => ?_)
                                ·
                                  have h19' := h19
                                  refine t_seq ?_
                                  refine t_region ?_
                                  refine r_op (o_assign rfl rfl) ?_
                                  refine r_end ?_
                                  refine t_ret Tryz.func7 (.tmp rfl .nil) rfl fun E S w u hI hd => ?_
                                  refine post_mk hI hd ?_ trivial rfl rfl rfl <;> clear hI hd
                                  all_goals (exfalso; (simp [seqI_length] at *; done))
                                ·
                                  have h19' := h19
                                  refine t_skip ?_
                                  refine t_seq ?_
                                  refine t_region ?_
                                  refine r_op (o_assign rfl rfl) ?_
                                  refine r_end ?_
                                  refine t_seq ?_
                                  refine t_region ?_
                                  refine r_op (o_move rfl rfl) ?_
                                  refine r_op (o_move rfl rfl) ?_
                                  refine r_op (o_call 29 29 false (Go.Proofs.enters_of Tryz.func43 (by kernel_rfl) rfl) (c_laws_heldIntS (seqI (1) (vioB ((rs)) ((fs)) ((ds))).length) (1) (by omega) (by omega)) rfl (.cons rfl (.c (.own rfl)) (.cons rfl (.c .t0) .nil)) rfl rfl rfl) ?_
                                  refine r_op (o_assign rfl rfl) ?_
                                  refine r_end ?_
                                  refine t_seq ?_
                                  refine t_seq ?_
                                  refine t_region ?_
                                  refine r_op (o_move rfl rfl) ?_
                                  refine r_op (o_bin rfl rfl rfl rfl) ?_
                                  refine r_end ?_
                                  refine t_cond rfl (fun h20 => ?_) (fun h20 => ?_)
                                  ·
                                    have h20' := of_decide_eq_true h20
                                    refine t_seq ?_
                                    refine t_region ?_
                                    refine r_op (o_assign rfl rfl) ?_
                                    refine r_end ?_
                                    refine t_ret Tryz.func7 (.tmp rfl .nil) rfl fun E S w u hI hd => ?_
                                    refine post_mk hI hd ?_ trivial rfl rfl rfl <;> clear hI hd
                                    all_goals (exfalso; (omega))
                                  ·
                                    have h20' := of_decide_eq_false h20
                                    refine t_skip ?_
                                    refine t_seq ?_
                                    refine t_seq ?_
                                    refine t_region ?_
                                    refine r_op (o_move rfl rfl) ?_
                                    refine r_op (o_move rfl rfl) ?_
                                    refine r_op (o_bin rfl rfl rfl rfl) ?_
                                    refine r_end ?_
                                    refine t_cond rfl (fun h21 => ?_) (fun h21 => ?_)
                                    ·
                                      have h21' := of_decide_eq_true h21
                                      refine t_seq ?_
                                      refine t_region ?_
                                      refine r_op (o_assign rfl rfl) ?_
                                      refine r_end ?_
                                      refine t_ret Tryz.func7 (.tmp rfl .nil) rfl fun E S w u hI hd => ?_
                                      refine post_mk hI hd ?_ trivial rfl rfl rfl <;> clear hI hd
                                      all_goals (exfalso; (omega))
                                    ·
                                      have h21' := of_decide_eq_false h21
                                      refine t_skip ?_
                                      refine t_seq ?_
                                      refine t_region ?_
                                      refine r_op (o_assign rfl rfl) ?_
                                      refine r_end ?_
                                      refine t_ret Tryz.func7 (.tmp rfl .nil) rfl fun E S w u hI hd => ?_
                                      refine post_mk hI hd ?_ trivial rfl rfl rfl <;> clear hI hd
                                      all_goals (rfl)
                              ·
                                have g18' := of_decide_eq_false (bnt g18)
                                refine r_guard rfl rfl rfl (nc g18) (fun _ => ?_)
                                refine r_guard rfl rfl rfl (nc g18) (fun _ => ?_)
                                refine r_op (o_pickT rfl rfl g18 rfl) ?_
                                refine r_end ?_
                                refine t_cond rfl (fun _ => ?_) (nc rfl)
                                refine t_seq ?_
                                refine t_region ?_
                                refine r_op (o_assign rfl rfl) ?_
                                refine r_end ?_
                                refine t_ret Tryz.func7 (.tmp rfl .nil) rfl fun E S w u hI hd => ?_
                                refine post_mk hI hd ?_ trivial rfl rfl rfl <;> clear hI hd
                                all_goals (exfalso; (simp [seqI_length] at *; done))
                            ·
                              have g17' := of_decide_eq_true g17
                              refine r_guard rfl rfl rfl (nc g17) (fun _ => ?_)
                              refine r_guard rfl rfl rfl (nc g17) (fun _ => ?_)
                              refine r_guard rfl rfl rfl (nc g17) (fun _ => ?_)
                              refine r_op (o_pickT rfl rfl g17 rfl) ?_
                              refine r_op (o_move rfl rfl) ?_
                              refine r_guard rfl rfl rfl (nc rfl) (fun _ => ?_)
                              refine r_guard rfl rfl rfl (nc rfl) (fun _ => ?_)
                              refine r_guard rfl rfl rfl (nc rfl) (fun _ => ?_)
                              refine r_op (o_pickT rfl rfl rfl rfl) ?_
                              refine r_end ?_
                              refine t_cond rfl (fun _ => ?_) (nc rfl)
                              refine t_seq ?_
                              refine t_region ?_
                              refine r_op (o_assign rfl rfl) ?_
                              refine r_end ?_
                              refine t_ret Tryz.func7 (.tmp rfl .nil) rfl fun E S w u hI hd => ?_
                              refine post_mk hI hd ?_ trivial rfl rfl rfl <;> clear hI hd
                              all_goals (exfalso; (omega))
                    ·
                      have g12' := of_decide_eq_false (bnt g12)
                      refine r_guard rfl rfl rfl (nc g12) (fun _ => ?_)
                      refine r_guard rfl rfl rfl (nc g12) (fun _ => ?_)
                      refine r_op (o_pickT rfl rfl g12 rfl) ?_
                      refine r_end ?_
                      refine t_cond rfl (fun _ => ?_) (nc rfl)
                      refine t_seq ?_
                      refine t_region ?_
                      refine r_op (o_assign rfl rfl) ?_
                      refine r_end ?_
                      refine t_ret Tryz.func7 (.tmp rfl .nil) rfl fun E S w u hI hd => ?_
                      refine post_mk hI hd ?_ trivial rfl rfl rfl <;> clear hI hd
                      all_goals (exfalso; (simp [seqI_length] at *; done))
                  ·
                    have g11' := of_decide_eq_true g11
                    refine r_guard rfl rfl rfl (nc g11) (fun _ => ?_)
                    refine r_guard rfl rfl rfl (nc g11) (fun _ => ?_)
                    refine r_guard rfl rfl rfl (nc g11) (fun _ => ?_)
                    refine r_op (o_pickT rfl rfl g11 rfl) ?_
                    refine r_op (o_move rfl rfl) ?_
                    refine r_guard rfl rfl rfl (nc rfl) (fun _ => ?_)
                    refine r_guard rfl rfl rfl (nc rfl) (fun _ => ?_)
                    refine r_guard rfl rfl rfl (nc rfl) (fun _ => ?_)
                    refine r_op (o_pickT rfl rfl rfl rfl) ?_
                    refine r_end ?_
                    refine t_cond rfl (fun _ => ?_) (nc rfl)
                    refine t_seq ?_
                    refine t_region ?_
                    refine r_op (o_assign rfl rfl) ?_
                    refine r_end ?_
                    refine t_ret Tryz.func7 (.tmp rfl .nil) rfl fun E S w u hI hd => ?_
                    refine post_mk hI hd ?_ trivial rfl rfl rfl <;> clear hI hd
                    all_goals (exfalso; (omega))
                ·
                  have g10' := of_decide_eq_true g10
                  refine r_guard rfl rfl rfl (nc g10) (fun _ => ?_)
                  refine r_guard rfl rfl rfl (nc g10) (fun _ => ?_)
                  refine r_op (o_pickT rfl rfl g10 rfl) ?_
                  refine r_op (o_move rfl rfl) ?_
                  refine r_guard rfl rfl rfl (nc rfl) (fun _ => ?_)
                  refine r_guard rfl rfl rfl (nc rfl) (fun _ => ?_)
                  refine r_guard rfl rfl rfl (nc rfl) (fun _ => ?_)
                  refine r_guard rfl rfl rfl (nc rfl) (fun _ => ?_)
                  refine r_op (o_pickT rfl rfl rfl rfl) ?_
                  refine r_op (o_move rfl rfl) ?_
                  refine r_guard rfl rfl rfl (nc rfl) (fun _ => ?_)
                  refine r_guard rfl rfl rfl (nc rfl) (fun _ => ?_)
                  refine r_guard rfl rfl rfl (nc rfl) (fun _ => ?_)
                  refine r_op (o_pickT rfl rfl rfl rfl) ?_
                  refine r_end ?_
                  refine t_cond rfl (fun _ => ?_) (nc rfl)
                  refine t_seq ?_
                  refine t_region ?_
                  refine r_op (o_assign rfl rfl) ?_
                  refine r_end ?_
                  refine t_ret Tryz.func7 (.tmp rfl .nil) rfl fun E S w u hI hd => ?_
                  refine post_mk hI hd ?_ trivial rfl rfl rfl <;> clear hI hd
                  all_goals (exfalso; (omega))
        ·
          have g6' := of_decide_eq_false (bnt g6)
          refine r_guard rfl rfl rfl (nc g6) (fun _ => ?_)
          refine r_guard rfl rfl rfl (nc g6) (fun _ => ?_)
          refine r_op (o_pickT rfl rfl g6 rfl) ?_
          refine r_end ?_
          refine t_cond rfl (fun _ => ?_) (nc rfl)
          refine t_seq ?_
          refine t_region ?_
          refine r_op (o_assign rfl rfl) ?_
          refine r_end ?_
          refine t_ret Tryz.func7 (.tmp rfl .nil) rfl fun E S w u hI hd => ?_
          refine post_mk hI hd ?_ trivial rfl rfl rfl <;> clear hI hd
          all_goals (exfalso; (simp [seqI_length] at *; done))
      ·
        have g5' := of_decide_eq_true g5
        refine r_guard rfl rfl rfl (nc g5) (fun _ => ?_)
        refine r_guard rfl rfl rfl (nc g5) (fun _ => ?_)
        refine r_guard rfl rfl rfl (nc g5) (fun _ => ?_)
        refine r_op (o_pickT rfl rfl g5 rfl) ?_
        refine r_op (o_move rfl rfl) ?_
        refine r_guard rfl rfl rfl (nc rfl) (fun _ => ?_)
        refine r_guard rfl rfl rfl (nc rfl) (fun _ => ?_)
        refine r_guard rfl rfl rfl (nc rfl) (fun _ => ?_)
        refine r_op (o_pickT rfl rfl rfl rfl) ?_
        refine r_end ?_
        refine t_cond rfl (fun _ => ?_) (nc rfl)
        refine t_seq ?_
        refine t_region ?_
        refine r_op (o_assign rfl rfl) ?_
        refine r_end ?_
        refine t_ret Tryz.func7 (.tmp rfl .nil) rfl fun E S w u hI hd => ?_
        refine post_mk hI hd ?_ trivial rfl rfl rfl <;> clear hI hd
        all_goals (exfalso; (omega))
end Go.Eng
