/- What the functions that FnWeakAcyclicity reaches answer. -/
import Derived.Test.YtjjoopbebildfaaGreatDoorFnsFnWeakAcyclicityp2
import Derived.Test.YtjjoopbebildfaaGreatDoorEngZ
import Derived.Test.YtjjoopbebildfaaGreatDoorChecked
set_option linter.unusedVariables false
set_option linter.unusedSimpArgs false
namespace Go.Eng
open Go Go.RowKit Go.Proofs
set_option maxHeartbeats 1000000 in
set_option maxRecDepth 10000 in
theorem c_impl_PositionRank (rs : Rels) (ds : List Dep) (p : Int) (hrs : rs.length ≤ 4611686018427387904) (hds : szS (fun (x : (List (Int × (List (Int)))) × (List (Int × (List (Int)))) × Bool × Int × Int) => (szS (fun (x : Int × (List (Int))) => (x.2).length) (x.1)) + (szS (fun (x : Int × (List (Int))) => (x.2).length) (x.2.1))) ds ≤ 1048576) (hp : okI p) : Pu Tryz.prog 19 [.c (.t none (.sl 3 (enS3 encS encI encB) (rs))), .c (.t none (.sl 5 (enS5 (enSl 2 (enS2 encI (enSl 1 encI))) (enSl 2 (enS2 encI (enSl 1 encI))) encB encI encI) (ds))), .c (.t none (.v (.int .i64 (p))))] [] 0 (.c (.t none (.v (.int .i64 (rkP rs ds p))))) := by
  refine pu_enter Tryz.func19 rfl (Nat.le_of_ble_eq_true rfl) fun w S => ?_
  have gl := sz_len (f := (fun (x : (List (Int × (List (Int)))) × (List (Int × (List (Int)))) × Bool × Int × Int) => (szS (fun (x : Int × (List (Int))) => (x.2).length) (x.1)) + (szS (fun (x : Int × (List (Int))) => (x.2).length) (x.2.1)))) (l := ds); have hp1 := hp.1; have hp2 := hp.2; have rl := rks_len rs ds; have rw0 := @rks_wa rs ds; have wl : IntKind.i64.wrap (((rksL rs ds).length : Int) - 1) = ((rksL rs ds).length : Int) - 1 := wr64 (by omega) (by omega)
  refine t_seq ?_
  refine t_region ?_
  refine r_op (o_assign rfl rfl) ?_
  refine r_end ?_
  refine t_seq ?_
  refine t_region ?_
  refine r_op (o_move rfl rfl) ?_
  refine r_op (o_move rfl rfl) ?_
  refine r_op (o_call 0 1 false (Go.Proofs.enters_of Tryz.func11 (by kernel_rfl) rfl) (c_impl_PositionRanks (rs) (ds) (by omega) (by omega)) rfl (.cons rfl (.c .t0) (.cons rfl (.c .t0) .nil)) rfl rfl rfl) ?_
  refine r_op (o_move rfl rfl) ?_
  refine r_op (o_extract rfl rfl rfl rfl) ?_
  refine r_op (o_extract rfl rfl rfl rfl) ?_
  refine r_op (o_assign rfl rfl) ?_
  refine r_op (o_assign rfl rfl) ?_
  refine r_end ?_
  refine t_seq ?_
  refine t_seq ?_
  refine t_region ?_
  refine r_op (o_move rfl rfl) ?_
  refine r_op (o_move rfl rfl) ?_
  refine r_op (o_leno rfl rfl rfl rfl) ?_
  refine r_op (o_bin rfl rfl rfl rfl) ?_
  refine r_op (o_call 1 1 false (Go.Proofs.enters_of Tryz.func56 (by kernel_rfl) rfl) (c_impl_within (p) (0) (IntKind.i64.wrap (((rksL (rs) (ds)).length : Int) - 1))) rfl (.cons rfl (.c .t0) (.cons rfl (.c .t0) (.cons rfl (.c .t0) .nil))) rfl rfl rfl) ?_
  refine r_op (o_not rfl rfl) ?_
  refine r_end ?_
  refine t_cond rfl (fun h1 => ?_) (fun h1 => ?_)
  ·
    have h1' := of_decide_eq_false (bnt h1)
    refine t_seq ?_
    refine t_region ?_
    refine r_op (o_assign rfl rfl) ?_
    refine r_end ?_
    refine t_ret Tryz.func19 (.tmp rfl .nil) rfl fun E S w u hI hd => ?_
    refine post_mk hI hd ?_ trivial rfl rfl rfl <;> clear hI hd
    all_goals (refine scI ?_; (exact rkP_no (by omega)))
  ·
    have h1' := of_decide_eq_true (bnf h1)
    refine t_skip ?_
    refine t_seq ?_
    refine t_region ?_
    refine r_op (o_move rfl rfl) ?_
    refine r_op (o_move rfl rfl) ?_
    obtain ⟨z2, hz3, b4⟩ := at_get (xs := rksL (rs) (ds)) (n := p) (by omega) (by omega)
    refine r_op (o_indexo rfl (by kernel_rfl) rfl rfl rfl b4 (at_lt b4 hz3)) ?_
    refine r_op (o_load1o rfl (by kernel_rfl) rfl rfl rfl hz3) ?_
    refine r_op (o_assign rfl rfl) ?_
    refine r_end ?_
    refine t_ret Tryz.func19 (.tmp rfl .nil) rfl fun E S w u hI hd => ?_
    refine post_mk hI hd ?_ trivial rfl rfl rfl <;> clear hI hd
    all_goals (refine scI ?_; (exact rkP_yes (by omega) (by assumption)))
theorem eq_c_laws_FnWeakAcyclicity_neq_30 (p0 : Int) (p1 : Int) (p2 : Bool) (q0 : Int) (q1 : Int) (q2 : Bool) : EqS Tryz.prog .neq 30 [.int .i64 p0, .int .i64 p1, .bool p2] [.int .i64 q0, .int .i64 q1, .bool q2] (.bool (!(decide ((p0, p1, p2) = (q0, q1, q2))))) := by
  refine ⟨rfl, fun x y w => ?_⟩
  have hS : Tryz.prog.underlying 30 = some (.struct (Tryz.prog.fieldsOf 30)) := by kernel_rfl
  have hp : Tryz.prog.stoodInHeld 30 = false := by kernel_rfl
  have u3 := Tryz.underlying3; have a3 := Tryz.isAgg3; have z3 := Tryz.sizeOf3; have u4 := Tryz.underlying4; have a4 := Tryz.isAgg4; have z4 := Tryz.sizeOf4
  rw [Sem.run_bind, run_eqGuard_agg w _ _ _ _ _ _ (by kernel_rfl), Result.andThen_ok, run_neq_struct, show (10000 : Nat) = 9999 + 1 from rfl, run_equalIn_agg w 9999 30 _ _ hS hp]
  simp only [Program.fieldsOf, Tryz.underlying30]
  go_simp
  by_cases h0 : p0 = q0 <;> by_cases h1 : p1 = q1 <;> by_cases h2 : p2 = q2 <;> simp [h0, h1, h2, mkS_toList]
set_option maxHeartbeats 1000000 in
set_option maxRecDepth 10000 in
theorem c_laws_FnWeakAcyclicity (code : List Int) (hcl : code.length ≤ 9223372036854775807) : Pu Tryz.prog 3 [.c (.t none (.sl 1 encU (code)))] [] 0 (.c (.t none (.v (.bool (true))))) := by
  refine pu_enter Tryz.func3 rfl (Nat.le_of_ble_eq_true rfl) fun w S => ?_
  refine t_seq ?_
  refine t_region ?_
  refine r_op (o_assign rfl rfl) ?_
  refine r_end ?_
  refine t_seq ?_
  refine t_seq ?_
  refine t_region ?_
  refine r_op (o_move rfl rfl) ?_
  refine r_op (o_call 0 0 false (Go.Proofs.enters_of Tryz.func6 (by kernel_rfl) rfl) (c_laws_big (code)) rfl (.cons rfl (.c .t0) .nil) rfl rfl rfl) ?_
  refine r_end ?_
  refine t_cond rfl (fun h1 => ?_) (fun h1 => ?_)
  ·
    have h1' := of_decide_eq_true h1
    refine t_seq ?_
    refine t_region ?_
    refine r_op (o_assign rfl rfl) ?_
    refine r_end ?_
    refine t_ret Tryz.func3 (.tmp rfl .nil) rfl fun E S w u hI hd => ?_
    refine post_mk hI hd ?_ trivial rfl rfl rfl <;> clear hI hd <;> (try clear ih0)
    all_goals (rfl)
  ·
    have h1' := of_decide_eq_false h1
    refine t_skip ?_
    refine t_seq ?_
    refine t_region ?_
    refine r_op (o_move rfl rfl) ?_
    refine r_opX (o_callG 0 0 (Go.Proofs.enters_of Tryz.func7 (by kernel_rfl) rfl) (c_spec_DrawIsWeaklyAcyclic (code) (by omega)) rfl (.cons rfl (.c .t0) .nil) rfl rfl) ?_
    rintro ⟨ds2, hq3⟩
    try dsimp only at hq3
    try dsimp only
    obtain ⟨q4, q5⟩ := hq3
    have KZ := dep6_sz (ds := ds2) (by assumption) (by assumption); have KG := graph_len (rs := sigs5) (ds := ds2); have KL := rks_len sigs5 ds2; have KE : (!(spcF sigs5 ds2) && depsOk sigs5 ds2) = true → ∀ (k : Nat) (e : Edg), (graphL sigs5 ds2)[k]? = some e → (0 ≤ e.1 ∧ e.1 < (rksL sigs5 ds2).length) ∧ (0 ≤ e.2.1 ∧ e.2.1 < (rksL sigs5 ds2).length) := fun h k e he => wk_in h he; have KR : (!(spcF sigs5 ds2) && depsOk sigs5 ds2) = true → ∀ (k : Nat) (e : Edg) (a b : Int), (graphL sigs5 ds2)[k]? = some e → (rksL sigs5 ds2)[e.1.toNat]? = some a → (rksL sigs5 ds2)[e.2.1.toNat]? = some b → (e.2.2 = true → a + 1 ≤ b) ∧ a ≤ b ∧ rkP sigs5 ds2 e.2.1 = b ∧ (0 ≤ a ∧ a ≤ 18) := fun h k e a b h1 h2 h3 => wk_rank h h1 h2 h3; have KS : spcF sigs5 ds2 = true → (spcE sigs5 ds2).2.2 = true ∧ reachB (cntP sigs5) (graphL sigs5 ds2) (spcE sigs5 ds2).2.1 (spcE sigs5 ds2).1 = true := spc_true; have KW : ∀ x : Int, 0 ≤ x → x ≤ 18 → IntKind.i64.wrap (x + 1) = x + 1 := fun x h1 h2 => wr64 (by omega) (by omega); have KD : depsOk sigs5 ds2 = false → (graphL sigs5 ds2).length = 0 ∧ spcF sigs5 ds2 = false := spc_dep
    refine r_op (o_move rfl rfl) ?_
    refine r_op (o_extract rfl rfl rfl rfl) ?_
    refine r_op (o_extract rfl rfl rfl rfl) ?_
    refine r_op (o_assign rfl rfl) ?_
    refine r_op (o_assign rfl rfl) ?_
    refine r_end ?_
    refine t_seq ?_
    refine t_region ?_
    refine r_op (o_move rfl rfl) ?_
    refine r_op (o_move rfl rfl) ?_
    refine r_op (o_call 0 0 false (Go.Proofs.enters_of Tryz.func8 (by kernel_rfl) rfl) (c_impl_IsWeaklyAcyclic (sigs5) ((ds2)) (by (rw [sigs5_len]; omega)) (by omega)) rfl (.cons rfl (.c .t0) (.cons rfl (.c .t0) .nil)) rfl rfl rfl) ?_
    refine r_op (o_assign rfl rfl) ?_
    refine r_end ?_
    refine t_seq ?_
    refine t_region ?_
    refine r_op (o_move rfl rfl) ?_
    refine r_op (o_move rfl rfl) ?_
    refine r_op (o_call 0 0 false (Go.Proofs.enters_of Tryz.func9 (by kernel_rfl) rfl) (c_impl_SpecialCycleEdge (sigs5) ((ds2)) (by (rw [sigs5_len]; omega)) (by omega)) rfl (.cons rfl (.c .t0) (.cons rfl (.c .t0) .nil)) rfl rfl rfl) ?_
    refine r_op (o_move rfl rfl) ?_
    refine r_op (o_extract rfl rfl rfl rfl) ?_
    refine r_op (o_extract rfl rfl rfl rfl) ?_
    refine r_op (o_alloc 0 (zs := [.int .i64 (0), .int .i64 (0), .bool (false)]) rfl rfl (by kernel_rfl) rfl) ?_
    refine r_op (o_storeb (n := 3) (by kernel_rfl) rfl rfl rfl rfl rfl rfl) ?_
    refine r_op (o_assign rfl rfl) ?_
    refine r_end ?_
    refine t_seq ?_
    refine t_region ?_
    refine r_op (o_move rfl rfl) ?_
    refine r_op (o_move rfl rfl) ?_
    refine r_op (o_call 1 1 false (Go.Proofs.enters_of Tryz.func10 (by kernel_rfl) rfl) (c_spec_SpecialCycleEdge (sigs5) ((ds2)) (by (rw [sigs5_len]; omega)) (by omega)) rfl (.cons rfl (.c .t0) (.cons rfl (.c .t0) .nil)) rfl rfl rfl) ?_
    refine r_op (o_move rfl rfl) ?_
    refine r_op (o_extract rfl rfl rfl rfl) ?_
    refine r_op (o_extract rfl rfl rfl rfl) ?_
    refine r_op (o_alloc 1 (zs := [.int .i64 (0), .int .i64 (0), .bool (false)]) rfl rfl (by kernel_rfl) rfl) ?_
    refine r_op (o_storeb (n := 3) (by kernel_rfl) rfl rfl rfl rfl rfl rfl) ?_
    refine r_op (o_assign rfl rfl) ?_
    refine r_end ?_
    refine t_seq ?_
    refine t_region ?_
    refine r_op (o_move rfl rfl) ?_
    refine r_op (o_move rfl rfl) ?_
    refine r_op (o_call 2 3 false (Go.Proofs.enters_of Tryz.func11 (by kernel_rfl) rfl) (c_impl_PositionRanks (sigs5) ((ds2)) (by (rw [sigs5_len]; omega)) (by omega)) rfl (.cons rfl (.c .t0) (.cons rfl (.c .t0) .nil)) rfl rfl rfl) ?_
    refine r_op (o_move rfl rfl) ?_
    refine r_op (o_extract rfl rfl rfl rfl) ?_
    refine r_op (o_extract rfl rfl rfl rfl) ?_
    refine r_op (o_assign rfl rfl) ?_
    refine r_op (o_assign rfl rfl) ?_
    refine r_end ?_
    refine t_seq ?_
    refine t_region ?_
    refine r_op (o_move rfl rfl) ?_
    refine r_op (o_move rfl rfl) ?_
    refine r_op (o_call 3 4 false (Go.Proofs.enters_of Tryz.func12 (by kernel_rfl) rfl) (c_spec_PositionRanks (sigs5) ((ds2)) (by (rw [sigs5_len]; omega)) (by omega)) rfl (.cons rfl (.c .t0) (.cons rfl (.c .t0) .nil)) rfl rfl rfl) ?_
    refine r_op (o_move rfl rfl) ?_
    refine r_op (o_extract rfl rfl rfl rfl) ?_
    refine r_op (o_extract rfl rfl rfl rfl) ?_
    refine r_op (o_assign rfl rfl) ?_
    refine r_op (o_assign rfl rfl) ?_
    refine r_end ?_
    refine t_seq ?_
    refine t_seq ?_
    refine t_region ?_
    refine r_op (o_move rfl rfl) ?_
    refine r_op (o_move rfl rfl) ?_
    refine r_op (o_move rfl rfl) ?_
    refine r_op (o_call 4 4 false (Go.Proofs.enters_of Tryz.func13 (by kernel_rfl) rfl) (c_spec_IsWeaklyAcyclic (sigs5) ((ds2)) (by (rw [sigs5_len]; omega)) (by omega)) rfl (.cons rfl (.c .t0) (.cons rfl (.c .t0) .nil)) rfl rfl rfl) ?_
    refine r_op (o_neB rfl Tryz.underlying4 rfl rfl) ?_
    refine r_op (o_move rfl rfl) ?_
    refine r_guard rfl rfl rfl (fun g6 => ?_) (fun g6 => ?_)
    ·
      have g6' := g6
      refine r_op (o_move rfl rfl) ?_
      refine r_guard rfl rfl rfl (fun _ => ?_) (ncf g6)
      refine r_op (o_move rfl rfl) ?_
      refine r_guard rfl rfl rfl (fun _ => ?_) (ncf g6)
      refine r_op (o_neB rfl Tryz.underlying4 rfl rfl) ?_
      refine r_op (o_pickF rfl rfl g6 rfl) ?_
      refine r_op (o_move rfl rfl) ?_
      refine r_guard rfl rfl rfl (fun g7 => ?_) (fun g7 => ?_)
      ·
        have g7' := g7
        refine r_op (o_loadAb rfl (n := 3) (by kernel_rfl) (by kernel_rfl) rfl rfl rfl) ?_
        refine r_guard rfl rfl rfl (fun _ => ?_) (ncf g7)
        refine r_op (o_loadAb rfl (n := 3) (by kernel_rfl) (by kernel_rfl) rfl rfl rfl) ?_
        refine r_guard rfl rfl rfl (fun _ => ?_) (ncf g7)
        refine r_op (o_eqA rfl rfl rfl (eq_c_laws_FnWeakAcyclicity_neq_30 _ _ _ _ _ _)) ?_
        refine r_op (o_pickF rfl rfl g7 rfl) ?_
        refine r_op (o_move rfl rfl) ?_
        refine r_guard rfl rfl rfl (fun g8 => ?_) (fun g8 => ?_)
        ·
          have g8' := of_decide_eq_true (bnf g8)
          refine r_op (o_move rfl rfl) ?_
          refine r_guard rfl rfl rfl (fun _ => ?_) (ncf g8)
          refine r_op (o_move rfl rfl) ?_
          refine r_guard rfl rfl rfl (fun _ => ?_) (ncf g8)
          refine r_op (o_neB rfl Tryz.underlying4 rfl rfl) ?_
          refine r_op (o_pickF rfl rfl g8 rfl) ?_
          refine r_op (o_move rfl rfl) ?_
          refine r_guard rfl rfl rfl (fun g9 => ?_) (fun g9 => ?_)
          ·
            have g9' := g9
            refine r_op (o_move rfl rfl) ?_
            refine r_guard rfl rfl rfl (fun _ => ?_) (ncf g9)
            refine r_op (o_move rfl rfl) ?_
            refine r_guard rfl rfl rfl (fun _ => ?_) (ncf g9)
            refine r_op (o_call 4 4 false (Go.Proofs.enters_of Tryz.func14 (by kernel_rfl) rfl) (c_laws_sameInts (rksL (sigs5) ((ds2))) (rksL (sigs5) ((ds2))) (by omega)) rfl (.cons rfl (.c (.own rfl)) (.cons rfl (.c (.own rfl)) .nil)) rfl rfl rfl) ?_
            refine r_guard rfl rfl rfl (fun _ => ?_) (ncf g9)
            refine r_op (o_not rfl rfl) ?_
            refine r_op (o_pickF rfl rfl g9 rfl) ?_
            refine r_op (o_move rfl rfl) ?_
            refine r_guard rfl rfl rfl (fun g10 => ?_) (fun g10 => ?_)
            ·
              have g10' := of_decide_eq_true (bnf g10)
              refine r_op (o_move rfl rfl) ?_
              refine r_guard rfl rfl rfl (fun _ => ?_) (ncf g10)
              refine r_op (o_move rfl rfl) ?_
              refine r_guard rfl rfl rfl (fun _ => ?_) (ncf g10)
              refine r_op (o_call 4 4 false (Go.Proofs.enters_of Tryz.func15 (by kernel_rfl) rfl) (c_impl_FormatTermination (sigs5) ((ds2)) (by (rw [sigs5_len]; omega)) (by omega)) rfl (.cons rfl (.c .t0) (.cons rfl (.c .t0) .nil)) rfl rfl rfl) ?_
              refine r_guard rfl rfl rfl (fun _ => ?_) (ncf g10)
              refine r_op (o_move rfl rfl) ?_
              refine r_guard rfl rfl rfl (fun _ => ?_) (ncf g10)
              refine r_op (o_move rfl rfl) ?_
              refine r_guard rfl rfl rfl (fun _ => ?_) (ncf g10)
              refine r_op (o_call 4 4 false (Go.Proofs.enters_of Tryz.func16 (by kernel_rfl) rfl) (c_spec_FormatTermination (sigs5) ((ds2)) (by (rw [sigs5_len]; omega)) (by omega)) rfl (.cons rfl (.c .t0) (.cons rfl (.c .t0) .nil)) rfl rfl rfl) ?_
              refine r_guard rfl rfl rfl (fun _ => ?_) (ncf g10)
              refine r_op (o_str rfl rfl rfl rfl) ?_
              refine r_op (o_pickF rfl rfl g10 rfl) ?_
              refine r_end ?_
              refine t_cond rfl (fun h11 => ?_) (fun h11 => ?_)
              ·
                have h11' := of_decide_eq_true h11
                refine t_seq ?_
                refine t_region ?_
                refine r_op (o_assign rfl rfl) ?_
                refine r_end ?_
                refine t_ret Tryz.func3 (.tmp rfl .nil) rfl fun E S w u hI hd => ?_
                refine post_mk hI hd ?_ trivial rfl rfl rfl <;> clear hI hd <;> (try clear ih0)
                all_goals ((exfalso; clear KZ; grind))
              ·
                have h11' := of_decide_eq_false h11
                refine t_skip ?_
                refine t_seq ?_
                refine t_region ?_
                refine r_op (o_move rfl rfl) ?_
                refine r_op (o_move rfl rfl) ?_
                refine r_op (o_call 4 7 false (Go.Proofs.enters_of Tryz.func17 (by kernel_rfl) rfl) (c_impl_PositionGraph (sigs5) ((ds2)) (by (rw [sigs5_len]; omega)) (by omega)) rfl (.cons rfl (.c .t0) (.cons rfl (.c .t0) .nil)) rfl rfl rfl) ?_
                refine r_op (o_assign rfl rfl) ?_
                refine r_end ?_
                refine t_seq ?_
                refine t_seq ?_
                refine t_region ?_
                refine r_op (o_move rfl rfl) ?_
                refine r_op (o_move rfl rfl) ?_
                refine r_op (o_call 7 7 false (Go.Proofs.enters_of Tryz.func18 (by kernel_rfl) rfl) (c_spec_AreValidDependencies (sigs5) ((ds2)) (by (rw [sigs5_len]; omega)) (by omega)) rfl (.cons rfl (.c .t0) (.cons rfl (.c .t0) .nil)) rfl rfl rfl) ?_
                refine r_op (o_not rfl rfl) ?_
                refine r_end ?_
                refine t_cond rfl (fun h12 => ?_) (fun h12 => ?_)
                ·
                  have h12' := (bnt h12)
                  refine t_seq ?_
                  refine t_region ?_
                  refine r_op (o_move rfl rfl) ?_
                  refine r_op (o_leno rfl rfl rfl rfl) ?_
                  refine r_op (o_bin rfl rfl rfl rfl) ?_
                  refine r_op (o_move rfl rfl) ?_
                  refine r_guard rfl rfl rfl (fun g13 => ?_) (fun g13 => ?_)
                  ·
                    have g13' := of_decide_eq_true g13
                    refine r_op (o_move rfl rfl) ?_
                    refine r_guard rfl rfl rfl (fun _ => ?_) (nc g13)
                    refine r_op (o_not rfl rfl) ?_
                    refine r_op (o_pickT rfl rfl g13 rfl) ?_
                    refine r_op (o_move rfl rfl) ?_
                    refine r_guard rfl rfl rfl (fun g14 => ?_) (fun g14 => ?_)
                    ·
                      have g14' := (bnt g14)
                      refine r_op (o_move rfl rfl) ?_
                      refine r_guard rfl rfl rfl (fun _ => ?_) (nc g14)
                      refine r_op (o_not rfl rfl) ?_
                      refine r_op (o_pickT rfl rfl g14 rfl) ?_
                      refine r_op (o_assign rfl rfl) ?_
                      refine r_end ?_
                      refine t_ret Tryz.func3 (.tmp rfl .nil) rfl fun E S w u hI hd => ?_
                      refine post_mk hI hd ?_ trivial rfl rfl rfl <;> clear hI hd <;> (try clear ih0)
                      all_goals ((refine scB ?_; clear KZ; grind))
                    ·
                      have g14' := (bnf g14)
                      refine r_guard rfl rfl rfl (ncf g14) (fun _ => ?_)
                      refine r_op (o_pickF rfl rfl g14 rfl) ?_
                      refine r_op (o_assign rfl rfl) ?_
                      refine r_end ?_
                      refine t_ret Tryz.func3 (.tmp rfl .nil) rfl fun E S w u hI hd => ?_
                      refine post_mk hI hd ?_ trivial rfl rfl rfl <;> clear hI hd <;> (try clear ih0)
                      all_goals ((exfalso; clear KZ; grind))
                  ·
                    have g13' := of_decide_eq_false g13
                    refine r_guard rfl rfl rfl (ncf g13) (fun _ => ?_)
                    refine r_op (o_pickF rfl rfl g13 rfl) ?_
                    refine r_op (o_move rfl rfl) ?_
                    refine r_guard rfl rfl rfl (ncf rfl) (fun _ => ?_)
                    refine r_guard rfl rfl rfl (ncf rfl) (fun _ => ?_)
                    refine r_op (o_pickF rfl rfl rfl rfl) ?_
                    refine r_op (o_assign rfl rfl) ?_
                    refine r_end ?_
                    refine t_ret Tryz.func3 (.tmp rfl .nil) rfl fun E S w u hI hd => ?_
                    refine post_mk hI hd ?_ trivial rfl rfl rfl <;> clear hI hd <;> (try clear ih0)
                    all_goals ((exfalso; clear KZ; grind))
                ·
                  have h12' := (bnf h12)
                  refine t_skip ?_
                  refine t_seq ?_
                  refine t_seq ?_
                  refine t_region ?_
                  refine r_op (o_assign rfl rfl) ?_
                  refine r_end ?_
                  refine t_block ?_
                  refine t_loopL (fun m => ⟨[(3, some (.c (.t none (.sl 3 (enS3 encS encI encB) (sigs5))))), (4, some (.c (.t none (.sl 5 (enS5 (enSl 2 (enS2 encI (enSl 1 encI))) (enSl 2 (enS2 encI (enSl 1 encI))) encB encI encI) ((ds2)))))), (5, some (.c (.t none (.v (.bool (!(spcF (sigs5) ((ds2))) && depsOk (sigs5) ((ds2)))))))), (6, some (.c (.ptr 0 0))), (7, some (.c (.t none (.v (.bool (spcF (sigs5) ((ds2)))))))), (12, some (.c (.own 3))), (14, some (.c (.own 5))), (15, some (.c (.t none (.v (.int .i64 ((m : Int)))))))], [(0, some (.box [.t none (.v (.int .i64 ((spcE (sigs5) ((ds2))).1))), .t none (.v (.int .i64 ((spcE (sigs5) ((ds2))).2.1))), .t none (.v (.bool ((spcE (sigs5) ((ds2))).2.2)))])), (1, some (.box [.t none (.v (.int .i64 ((spcE (sigs5) ((ds2))).1))), .t none (.v (.int .i64 ((spcE (sigs5) ((ds2))).2.1))), .t none (.v (.bool ((spcE (sigs5) ((ds2))).2.2)))])), (2, some (.row none 3 true 1 encI (rksL (sigs5) ((ds2))))), (3, some (.row none 3 true 1 encI (rksL (sigs5) ((ds2))))), (5, some (.row none 30 true 3 (enS3 encI encI encB) (graphL (sigs5) ((ds2)))))], 7⟩ : Nat → St) (fun m => m ≤ (graphL sigs5 ds2).length) (fun m => (graphL sigs5 ds2).length - m) 0 ⟨⟨rfl, ⟨rfl, ⟨rfl, ⟨rfl, ⟨rfl, ⟨rfl, ⟨rfl, ⟨rfl, trivial⟩⟩⟩⟩⟩⟩⟩⟩, ⟨rfl, ⟨rfl, ⟨rfl, ⟨rfl, ⟨rfl, trivial⟩⟩⟩⟩⟩, rfl⟩ (by exact Nat.zero_le _) ?_
                  rintro m hI ih0
                  try dsimp only at hI ih0
                  have i1 := hI
                  refine t_seq ?_
                  refine t_seq ?_
                  refine t_region ?_
                  refine r_op (o_move rfl rfl) ?_
                  refine r_op (o_move rfl rfl) ?_
                  refine r_op (o_leno rfl rfl rfl rfl) ?_
                  refine r_op (o_bin rfl rfl rfl rfl) ?_
                  refine r_op (o_move rfl rfl) ?_
                  refine r_guard rfl rfl rfl (fun g15 => ?_) (fun g15 => ?_)
                  ·
                    have g15' := of_decide_eq_true g15
                    refine r_op (o_move rfl rfl) ?_
                    refine r_op (o_pickT rfl rfl g15 rfl) ?_
                    refine r_end ?_
                    refine t_cond rfl (fun h16 => ?_) (fun h16 => ?_)
                    ·
                      have h16' := h16
                      try simp only [decide_eq_true_eq, decide_eq_false_iff_not, Bool.not_eq_true', Bool.not_eq_false', Bool.not_false, Bool.not_true] at h16'
                      refine t_skip ?_
                      refine t_seq ?_
                      refine t_block ?_
                      refine t_seq ?_
                      refine t_seq ?_
                      refine t_region ?_
                      refine r_op (o_move rfl rfl) ?_
                      refine r_op (o_move rfl rfl) ?_
                      obtain ⟨z17, hz18, b19⟩ := at_get (xs := graphL (sigs5) ((ds2))) (n := (m : Int)) (by omega) (by omega)
                      refine r_op (o_indexo rfl (by kernel_rfl) rfl rfl rfl b19 (at_lt b19 hz18)) ?_
                      refine r_op (o_fieldo rfl (off := 0) (by kernel_rfl) rfl) ?_
                      refine r_op (o_load1o rfl (by kernel_rfl) rfl rfl rfl hz18) ?_
                      refine r_op (o_bin rfl rfl rfl rfl) ?_
                      refine r_op (o_move rfl rfl) ?_
                      refine r_guard rfl rfl rfl (fun g20 => ?_) (fun g20 => ?_)
                      ·
                        have g20' := of_decide_eq_false g20
                        refine r_op (o_move rfl rfl) ?_
                        refine r_guard rfl rfl rfl (fun _ => ?_) (ncf g20)
                        refine r_op (o_move rfl rfl) ?_
                        refine r_guard rfl rfl rfl (fun _ => ?_) (ncf g20)
                        refine r_op (o_indexo rfl (by kernel_rfl) rfl rfl rfl b19 (at_lt b19 hz18)) ?_
                        refine r_guard rfl rfl rfl (fun _ => ?_) (ncf g20)
                        refine r_op (o_fieldo rfl (off := 0) (by kernel_rfl) rfl) ?_
                        refine r_guard rfl rfl rfl (fun _ => ?_) (ncf g20)
                        refine r_op (o_load1o rfl (by kernel_rfl) rfl rfl rfl hz18) ?_
                        refine r_guard rfl rfl rfl (fun _ => ?_) (ncf g20)
                        refine r_op (o_move rfl rfl) ?_
                        refine r_guard rfl rfl rfl (fun _ => ?_) (ncf g20)
                        refine r_op (o_leno rfl rfl rfl rfl) ?_
                        refine r_guard rfl rfl rfl (fun _ => ?_) (ncf g20)
                        refine r_op (o_bin rfl rfl rfl rfl) ?_
                        refine r_op (o_pickF rfl rfl g20 rfl) ?_
                        refine r_op (o_move rfl rfl) ?_
                        refine r_guard rfl rfl rfl (fun g21 => ?_) (fun g21 => ?_)
                        ·
                          have g21' := of_decide_eq_false g21
                          refine r_op (o_move rfl rfl) ?_
                          refine r_guard rfl rfl rfl (fun _ => ?_) (ncf g21)
                          refine r_op (o_move rfl rfl) ?_
                          refine r_guard rfl rfl rfl (fun _ => ?_) (ncf g21)
                          refine r_op (o_indexo rfl (by kernel_rfl) rfl rfl rfl b19 (at_lt b19 hz18)) ?_
                          refine r_guard rfl rfl rfl (fun _ => ?_) (ncf g21)
                          refine r_op (o_fieldo rfl (off := 1) (by kernel_rfl) rfl) ?_
                          refine r_guard rfl rfl rfl (fun _ => ?_) (ncf g21)
                          refine r_op (o_load1o rfl (by kernel_rfl) rfl rfl rfl hz18) ?_
                          refine r_guard rfl rfl rfl (fun _ => ?_) (ncf g21)
                          refine r_op (o_bin rfl rfl rfl rfl) ?_
                          refine r_op (o_pickF rfl rfl g21 rfl) ?_
                          refine r_op (o_move rfl rfl) ?_
                          refine r_guard rfl rfl rfl (fun g22 => ?_) (fun g22 => ?_)
                          ·
                            have g22' := of_decide_eq_false g22
                            refine r_op (o_move rfl rfl) ?_
                            refine r_guard rfl rfl rfl (fun _ => ?_) (ncf g22)
                            refine r_op (o_move rfl rfl) ?_
                            refine r_guard rfl rfl rfl (fun _ => ?_) (ncf g22)
                            refine r_op (o_indexo rfl (by kernel_rfl) rfl rfl rfl b19 (at_lt b19 hz18)) ?_
                            refine r_guard rfl rfl rfl (fun _ => ?_) (ncf g22)
                            refine r_op (o_fieldo rfl (off := 1) (by kernel_rfl) rfl) ?_
                            refine r_guard rfl rfl rfl (fun _ => ?_) (ncf g22)
                            refine r_op (o_load1o rfl (by kernel_rfl) rfl rfl rfl hz18) ?_
                            refine r_guard rfl rfl rfl (fun _ => ?_) (ncf g22)
                            refine r_op (o_move rfl rfl) ?_
                            refine r_guard rfl rfl rfl (fun _ => ?_) (ncf g22)
                            refine r_op (o_leno rfl rfl rfl rfl) ?_
                            refine r_guard rfl rfl rfl (fun _ => ?_) (ncf g22)
                            refine r_op (o_bin rfl rfl rfl rfl) ?_
                            refine r_op (o_pickF rfl rfl g22 rfl) ?_
                            refine r_end ?_
                            refine t_cond rfl (fun h23 => ?_) (fun h23 => ?_)
                            ·
                              have h23' := of_decide_eq_true h23
                              refine t_seq ?_
                              refine t_region ?_
                              refine r_op (o_assign rfl rfl) ?_
                              refine r_end ?_
                              refine t_ret Tryz.func3 (.tmp rfl .nil) rfl fun E S w u hI hd => ?_
                              refine post_mk hI hd ?_ trivial rfl rfl rfl <;> clear hI hd <;> (try clear ih0)
                              all_goals ((exfalso; clear KZ; grind))
                            ·
                              have h23' := of_decide_eq_false h23
                              refine t_skip ?_
                              refine t_seq ?_
                              refine t_region ?_
                              refine r_op (o_move rfl rfl) ?_
                              refine r_op (o_move rfl rfl) ?_
                              refine r_op (o_move rfl rfl) ?_
                              refine r_op (o_indexo rfl (by kernel_rfl) rfl rfl rfl b19 (at_lt b19 hz18)) ?_
                              refine r_op (o_fieldo rfl (off := 0) (by kernel_rfl) rfl) ?_
                              refine r_op (o_load1o rfl (by kernel_rfl) rfl rfl rfl hz18) ?_
                              obtain ⟨z24, hz25, b26⟩ := at_get (xs := rksL (sigs5) ((ds2))) (n := z17.1) (by omega) (by omega)
                              refine r_op (o_indexo rfl (by kernel_rfl) rfl rfl rfl b26 (at_lt b26 hz25)) ?_
                              refine r_op (o_load1o rfl (by kernel_rfl) rfl rfl rfl hz25) ?_
                              refine r_op (o_assign rfl rfl) ?_
                              refine r_end ?_
                              refine t_seq ?_
                              refine t_seq ?_
                              refine t_region ?_
                              refine r_op (o_move rfl rfl) ?_
                              refine r_op (o_move rfl rfl) ?_
                              refine r_op (o_indexo rfl (by kernel_rfl) rfl rfl rfl b19 (at_lt b19 hz18)) ?_
                              refine r_op (o_fieldo rfl (off := 2) (by kernel_rfl) rfl) ?_
                              refine r_op (o_load1o rfl (by kernel_rfl) rfl rfl rfl hz18) ?_
                              refine r_end ?_
                              refine t_cond rfl (fun h27 => ?_) (fun h27 => ?_)
                              ·
                                have h27' := h27
                                refine t_region ?_
                                refine r_op (o_move rfl rfl) ?_
                                refine r_op (o_bin rfl rfl rfl rfl) ?_
                                refine r_op (o_assign rfl rfl) ?_
                                refine r_end ?_
                                refine t_seq ?_
                                refine t_draw (fun _ => true) (by kernel_rfl) ?_
                                refine d_take 0 rfl rfl (by kernel_rfl) (by kernel_rfl) (by kernel_rfl) (p_move rfl) ?_
                                refine d_take 1 rfl rfl (by kernel_rfl) (by kernel_rfl) (by kernel_rfl) (p_move rfl) ?_
                                refine d_take 2 rfl rfl (by kernel_rfl) (by kernel_rfl) (by kernel_rfl) (p_move rfl) ?_
                                refine d_take 3 rfl rfl (by kernel_rfl) (by kernel_rfl) (by kernel_rfl) (p_indexo (by kernel_rfl) rfl rfl rfl b19 (at_lt b19 hz18)) ?_
                                refine d_take 4 rfl rfl (by kernel_rfl) (by kernel_rfl) (by kernel_rfl) (p_fieldo (off := 1) (by kernel_rfl) rfl) ?_
                                refine d_take 5 rfl rfl (by kernel_rfl) (by kernel_rfl) (by kernel_rfl) (p_load1o (by kernel_rfl) rfl rfl rfl hz18) ?_
                                obtain ⟨z28, hz29, b30⟩ := at_get (xs := rksL (sigs5) ((ds2))) (n := z17.2.1) (by omega) (by omega)
                                refine d_take 6 rfl rfl (by kernel_rfl) (by kernel_rfl) (by kernel_rfl) (p_indexo (by kernel_rfl) rfl rfl rfl b30 (at_lt b30 hz29)) ?_
                                refine d_take 7 rfl rfl (by kernel_rfl) (by kernel_rfl) (by kernel_rfl) (p_load1o (by kernel_rfl) rfl rfl rfl hz29) ?_
                                refine d_take 8 rfl rfl (by kernel_rfl) (by kernel_rfl) (by kernel_rfl) (p_move rfl) ?_
                                refine d_take 9 rfl rfl (by kernel_rfl) (by kernel_rfl) (by kernel_rfl) (p_bin rfl rfl rfl) ?_
                                refine d_take 10 rfl rfl (by kernel_rfl) (by kernel_rfl) (by kernel_rfl) (p_move rfl) ?_
                                refine d_guard 11 rfl rfl (by kernel_rfl) (by kernel_rfl) (by kernel_rfl) rfl rfl (fun _ => p_move rfl) (fun g31 => ?_) (fun g31 => ?_)
                                ·
                                  have g31' := of_decide_eq_false g31
                                  refine d_guard 12 rfl rfl (by kernel_rfl) (by kernel_rfl) (by kernel_rfl) rfl rfl (fun _ => p_move rfl) (fun _ => ?_) (ncf g31)
                                  refine d_guard 13 rfl rfl (by kernel_rfl) (by kernel_rfl) (by kernel_rfl) rfl rfl (fun _ => p_move rfl) (fun _ => ?_) (ncf g31)
                                  refine d_guard 14 rfl rfl (by kernel_rfl) (by kernel_rfl) (by kernel_rfl) rfl rfl (fun _ => p_move rfl) (fun _ => ?_) (ncf g31)
                                  refine d_guard 15 rfl rfl (by kernel_rfl) (by kernel_rfl) (by kernel_rfl) rfl rfl (fun _ => p_indexo (by kernel_rfl) rfl rfl rfl b19 (at_lt b19 hz18)) (fun _ => ?_) (ncf g31)
                                  refine d_guard 16 rfl rfl (by kernel_rfl) (by kernel_rfl) (by kernel_rfl) rfl rfl (fun _ => p_fieldo (off := 1) (by kernel_rfl) rfl) (fun _ => ?_) (ncf g31)
                                  refine d_guard 17 rfl rfl (by kernel_rfl) (by kernel_rfl) (by kernel_rfl) rfl rfl (fun _ => p_load1o (by kernel_rfl) rfl rfl rfl hz18) (fun _ => ?_) (ncf g31)
                                  refine d_guard 19 rfl rfl (by kernel_rfl) (by kernel_rfl) (by kernel_rfl) rfl rfl (fun _ => p_move rfl) (fun _ => ?_) (ncf g31)
                                  refine d_guard 20 rfl rfl (by kernel_rfl) (by kernel_rfl) (by kernel_rfl) rfl rfl (fun _ => p_move rfl) (fun _ => ?_) (ncf g31)
                                  refine d_guard 21 rfl rfl (by kernel_rfl) (by kernel_rfl) (by kernel_rfl) rfl rfl (fun _ => p_move rfl) (fun _ => ?_) (ncf g31)
                                  refine d_guard 22 rfl rfl (by kernel_rfl) (by kernel_rfl) (by kernel_rfl) rfl rfl (fun _ => p_indexo (by kernel_rfl) rfl rfl rfl b19 (at_lt b19 hz18)) (fun _ => ?_) (ncf g31)
                                  refine d_guard 23 rfl rfl (by kernel_rfl) (by kernel_rfl) (by kernel_rfl) rfl rfl (fun _ => p_fieldo (off := 1) (by kernel_rfl) rfl) (fun _ => ?_) (ncf g31)
                                  refine d_guard 24 rfl rfl (by kernel_rfl) (by kernel_rfl) (by kernel_rfl) rfl rfl (fun _ => p_load1o (by kernel_rfl) rfl rfl rfl hz18) (fun _ => ?_) (ncf g31)
                                  refine d_guard 25 rfl rfl (by kernel_rfl) (by kernel_rfl) (by kernel_rfl) rfl rfl (fun _ => p_indexo (by kernel_rfl) rfl rfl rfl b30 (at_lt b30 hz29)) (fun _ => ?_) (ncf g31)
                                  refine d_guard 26 rfl rfl (by kernel_rfl) (by kernel_rfl) (by kernel_rfl) rfl rfl (fun _ => p_load1o (by kernel_rfl) rfl rfl rfl hz29) (fun _ => ?_) (ncf g31)
                                  refine d_onlyG 18 rfl rfl (by kernel_rfl) rfl rfl rfl (fun _ => (o_call 7 7 false (Go.Proofs.enters_of Tryz.func19 (by kernel_rfl) rfl) (c_impl_PositionRank (sigs5) ((ds2)) (z17.2.1) (by (rw [sigs5_len]; omega)) (by omega) (by (unfold okI; omega))) rfl (.cons rfl (.c .t0) (.cons rfl (.c .t0) (.cons rfl (.c .t0) .nil))) rfl rfl rfl)) (fun _ => ?_) (ncf g31)
                                  refine d_guard 27 rfl rfl (by kernel_rfl) (by kernel_rfl) (by kernel_rfl) rfl rfl (fun _ => p_bin rfl rfl rfl) (fun _ => ?_) (ncf g31)
                                  refine d_take 28 rfl rfl (by kernel_rfl) (by kernel_rfl) (by kernel_rfl) (p_pickF rfl g31 rfl) ?_
                                  refine d_end (by kernel_rfl) ?_
                                  refine t_cond rfl (fun h32 => ?_) (fun h32 => ?_)
                                  ·
                                    have h32' := of_decide_eq_true h32
                                    refine t_seq ?_
                                    refine t_region ?_
                                    refine r_op (o_assign rfl rfl) ?_
                                    refine r_end ?_
                                    refine t_ret Tryz.func3 (.tmp rfl .nil) rfl fun E S w u hI hd => ?_
                                    refine post_mk hI hd ?_ trivial rfl rfl rfl <;> clear hI hd <;> (try clear ih0)
                                    all_goals ((exfalso; clear KZ; grind))
                                  ·
                                    have h32' := of_decide_eq_false h32
                                    refine t_skip ?_
                                    refine t_endblock ?_
                                    refine t_region ?_
                                    refine r_op (o_move rfl rfl) ?_
                                    refine r_op (o_bin rfl rfl rfl rfl) ?_
                                    refine r_op (o_assign rfl rfl) ?_
                                    refine r_end ?_
                                    refine t_le ?_ (ih0 (m + 1) (by (try dsimp only); omega) (by (try dsimp only); omega))
                                    exact ⟨⟨rfl, ⟨rfl, ⟨rfl, ⟨rfl, ⟨rfl, ⟨rfl, ⟨rfl, ⟨(eqI (wr64 (by omega) (by omega))), trivial⟩⟩⟩⟩⟩⟩⟩⟩, ⟨rfl, ⟨rfl, ⟨rfl, ⟨rfl, ⟨rfl, trivial⟩⟩⟩⟩⟩, rfl⟩
                                ·
                                  have g31' := of_decide_eq_true g31
                                  refine d_guard 12 rfl rfl (by kernel_rfl) (by kernel_rfl) (by kernel_rfl) rfl rfl (v := .c .top) (nc g31) (nc g31) (fun _ => ?_)
                                  refine d_guard 13 rfl rfl (by kernel_rfl) (by kernel_rfl) (by kernel_rfl) rfl rfl (v := .c .top) (nc g31) (nc g31) (fun _ => ?_)
                                  refine d_guard 14 rfl rfl (by kernel_rfl) (by kernel_rfl) (by kernel_rfl) rfl rfl (v := .c .top) (nc g31) (nc g31) (fun _ => ?_)
                                  refine d_guard 15 rfl rfl (by kernel_rfl) (by kernel_rfl) (by kernel_rfl) rfl rfl (v := .c .top) (nc g31) (nc g31) (fun _ => ?_)
                                  refine d_guard 16 rfl rfl (by kernel_rfl) (by kernel_rfl) (by kernel_rfl) rfl rfl (v := .c .top) (nc g31) (nc g31) (fun _ => ?_)
                                  refine d_guard 17 rfl rfl (by kernel_rfl) (by kernel_rfl) (by kernel_rfl) rfl rfl (v := .c .top) (nc g31) (nc g31) (fun _ => ?_)
                                  refine d_guard 18 rfl rfl (by kernel_rfl) (by kernel_rfl) (by kernel_rfl) rfl rfl (v := .c .top) (nc g31) (nc g31) (fun _ => ?_)
                                  refine d_guard 19 rfl rfl (by kernel_rfl) (by kernel_rfl) (by kernel_rfl) rfl rfl (v := .c .top) (nc g31) (nc g31) (fun _ => ?_)
                                  refine d_guard 20 rfl rfl (by kernel_rfl) (by kernel_rfl) (by kernel_rfl) rfl rfl (v := .c .top) (nc g31) (nc g31) (fun _ => ?_)
                                  refine d_guard 21 rfl rfl (by kernel_rfl) (by kernel_rfl) (by kernel_rfl) rfl rfl (v := .c .top) (nc g31) (nc g31) (fun _ => ?_)
                                  refine d_guard 22 rfl rfl (by kernel_rfl) (by kernel_rfl) (by kernel_rfl) rfl rfl (v := .c .top) (nc g31) (nc g31) (fun _ => ?_)
                                  refine d_guard 23 rfl rfl (by kernel_rfl) (by kernel_rfl) (by kernel_rfl) rfl rfl (v := .c .top) (nc g31) (nc g31) (fun _ => ?_)
                                  refine d_guard 24 rfl rfl (by kernel_rfl) (by kernel_rfl) (by kernel_rfl) rfl rfl (v := .c .top) (nc g31) (nc g31) (fun _ => ?_)
                                  refine d_guard 25 rfl rfl (by kernel_rfl) (by kernel_rfl) (by kernel_rfl) rfl rfl (v := .c .top) (nc g31) (nc g31) (fun _ => ?_)
                                  refine d_guard 26 rfl rfl (by kernel_rfl) (by kernel_rfl) (by kernel_rfl) rfl rfl (v := .c .top) (nc g31) (nc g31) (fun _ => ?_)
                                  refine d_guard 27 rfl rfl (by kernel_rfl) (by kernel_rfl) (by kernel_rfl) rfl rfl (v := .c .top) (nc g31) (nc g31) (fun _ => ?_)
                                  refine d_take 28 rfl rfl (by kernel_rfl) (by kernel_rfl) (by kernel_rfl) (p_pickT rfl g31 rfl) ?_
                                  refine d_end (by kernel_rfl) ?_
                                  refine t_cond rfl (fun _ => ?_) (nc rfl)
                                  refine t_seq ?_
                                  refine t_region ?_
                                  refine r_op (o_assign rfl rfl) ?_
                                  refine r_end ?_
                                  refine t_ret Tryz.func3 (.tmp rfl .nil) rfl fun E S w u hI hd => ?_
                                  refine post_mk hI hd ?_ trivial rfl rfl rfl <;> clear hI hd <;> (try clear ih0)
                                  all_goals ((exfalso; clear KZ; grind))
                              ·
                                have h27' := h27
                                refine t_skip ?_
                                refine t_seq ?_
                                refine t_draw (fun _ => true) (by kernel_rfl) ?_
                                refine d_take 0 rfl rfl (by kernel_rfl) (by kernel_rfl) (by kernel_rfl) (p_move rfl) ?_
                                refine d_take 1 rfl rfl (by kernel_rfl) (by kernel_rfl) (by kernel_rfl) (p_move rfl) ?_
                                refine d_take 2 rfl rfl (by kernel_rfl) (by kernel_rfl) (by kernel_rfl) (p_move rfl) ?_
                                refine d_take 3 rfl rfl (by kernel_rfl) (by kernel_rfl) (by kernel_rfl) (p_indexo (by kernel_rfl) rfl rfl rfl b19 (at_lt b19 hz18)) ?_
                                refine d_take 4 rfl rfl (by kernel_rfl) (by kernel_rfl) (by kernel_rfl) (p_fieldo (off := 1) (by kernel_rfl) rfl) ?_
                                refine d_take 5 rfl rfl (by kernel_rfl) (by kernel_rfl) (by kernel_rfl) (p_load1o (by kernel_rfl) rfl rfl rfl hz18) ?_
                                obtain ⟨z33, hz34, b35⟩ := at_get (xs := rksL (sigs5) ((ds2))) (n := z17.2.1) (by omega) (by omega)
                                refine d_take 6 rfl rfl (by kernel_rfl) (by kernel_rfl) (by kernel_rfl) (p_indexo (by kernel_rfl) rfl rfl rfl b35 (at_lt b35 hz34)) ?_
                                refine d_take 7 rfl rfl (by kernel_rfl) (by kernel_rfl) (by kernel_rfl) (p_load1o (by kernel_rfl) rfl rfl rfl hz34) ?_
                                refine d_take 8 rfl rfl (by kernel_rfl) (by kernel_rfl) (by kernel_rfl) (p_move rfl) ?_
                                refine d_take 9 rfl rfl (by kernel_rfl) (by kernel_rfl) (by kernel_rfl) (p_bin rfl rfl rfl) ?_
                                refine d_take 10 rfl rfl (by kernel_rfl) (by kernel_rfl) (by kernel_rfl) (p_move rfl) ?_
                                refine d_guard 11 rfl rfl (by kernel_rfl) (by kernel_rfl) (by kernel_rfl) rfl rfl (fun _ => p_move rfl) (fun g36 => ?_) (fun g36 => ?_)
                                ·
                                  have g36' := of_decide_eq_false g36
                                  refine d_guard 12 rfl rfl (by kernel_rfl) (by kernel_rfl) (by kernel_rfl) rfl rfl (fun _ => p_move rfl) (fun _ => ?_) (ncf g36)
                                  refine d_guard 13 rfl rfl (by kernel_rfl) (by kernel_rfl) (by kernel_rfl) rfl rfl (fun _ => p_move rfl) (fun _ => ?_) (ncf g36)
                                  refine d_guard 14 rfl rfl (by kernel_rfl) (by kernel_rfl) (by kernel_rfl) rfl rfl (fun _ => p_move rfl) (fun _ => ?_) (ncf g36)
                                  refine d_guard 15 rfl rfl (by kernel_rfl) (by kernel_rfl) (by kernel_rfl) rfl rfl (fun _ => p_indexo (by kernel_rfl) rfl rfl rfl b19 (at_lt b19 hz18)) (fun _ => ?_) (ncf g36)
                                  refine d_guard 16 rfl rfl (by kernel_rfl) (by kernel_rfl) (by kernel_rfl) rfl rfl (fun _ => p_fieldo (off := 1) (by kernel_rfl) rfl) (fun _ => ?_) (ncf g36)
                                  refine d_guard 17 rfl rfl (by kernel_rfl) (by kernel_rfl) (by kernel_rfl) rfl rfl (fun _ => p_load1o (by kernel_rfl) rfl rfl rfl hz18) (fun _ => ?_) (ncf g36)
                                  refine d_guard 19 rfl rfl (by kernel_rfl) (by kernel_rfl) (by kernel_rfl) rfl rfl (fun _ => p_move rfl) (fun _ => ?_) (ncf g36)
                                  refine d_guard 20 rfl rfl (by kernel_rfl) (by kernel_rfl) (by kernel_rfl) rfl rfl (fun _ => p_move rfl) (fun _ => ?_) (ncf g36)
                                  refine d_guard 21 rfl rfl (by kernel_rfl) (by kernel_rfl) (by kernel_rfl) rfl rfl (fun _ => p_move rfl) (fun _ => ?_) (ncf g36)
                                  refine d_guard 22 rfl rfl (by kernel_rfl) (by kernel_rfl) (by kernel_rfl) rfl rfl (fun _ => p_indexo (by kernel_rfl) rfl rfl rfl b19 (at_lt b19 hz18)) (fun _ => ?_) (ncf g36)
                                  refine d_guard 23 rfl rfl (by kernel_rfl) (by kernel_rfl) (by kernel_rfl) rfl rfl (fun _ => p_fieldo (off := 1) (by kernel_rfl) rfl) (fun _ => ?_) (ncf g36)
                                  refine d_guard 24 rfl rfl (by kernel_rfl) (by kernel_rfl) (by kernel_rfl) rfl rfl (fun _ => p_load1o (by kernel_rfl) rfl rfl rfl hz18) (fun _ => ?_) (ncf g36)
                                  refine d_guard 25 rfl rfl (by kernel_rfl) (by kernel_rfl) (by kernel_rfl) rfl rfl (fun _ => p_indexo (by kernel_rfl) rfl rfl rfl b35 (at_lt b35 hz34)) (fun _ => ?_) (ncf g36)
                                  refine d_guard 26 rfl rfl (by kernel_rfl) (by kernel_rfl) (by kernel_rfl) rfl rfl (fun _ => p_load1o (by kernel_rfl) rfl rfl rfl hz34) (fun _ => ?_) (ncf g36)
                                  refine d_onlyG 18 rfl rfl (by kernel_rfl) rfl rfl rfl (fun _ => (o_call 7 7 false (Go.Proofs.enters_of Tryz.func19 (by kernel_rfl) rfl) (c_impl_PositionRank (sigs5) ((ds2)) (z17.2.1) (by (rw [sigs5_len]; omega)) (by omega) (by (unfold okI; omega))) rfl (.cons rfl (.c .t0) (.cons rfl (.c .t0) (.cons rfl (.c .t0) .nil))) rfl rfl rfl)) (fun _ => ?_) (ncf g36)
                                  refine d_guard 27 rfl rfl (by kernel_rfl) (by kernel_rfl) (by kernel_rfl) rfl rfl (fun _ => p_bin rfl rfl rfl) (fun _ => ?_) (ncf g36)
                                  refine d_take 28 rfl rfl (by kernel_rfl) (by kernel_rfl) (by kernel_rfl) (p_pickF rfl g36 rfl) ?_
                                  refine d_end (by kernel_rfl) ?_
                                  refine t_cond rfl (fun h37 => ?_) (fun h37 => ?_)
                                  ·
                                    have h37' := of_decide_eq_true h37
                                    refine t_seq ?_
                                    refine t_region ?_
                                    refine r_op (o_assign rfl rfl) ?_
                                    refine r_end ?_
                                    refine t_ret Tryz.func3 (.tmp rfl .nil) rfl fun E S w u hI hd => ?_
                                    refine post_mk hI hd ?_ trivial rfl rfl rfl <;> clear hI hd <;> (try clear ih0)
                                    all_goals ((exfalso; clear KZ; grind))
                                  ·
                                    have h37' := of_decide_eq_false h37
                                    refine t_skip ?_
                                    refine t_endblock ?_
                                    refine t_region ?_
                                    refine r_op (o_move rfl rfl) ?_
                                    refine r_op (o_bin rfl rfl rfl rfl) ?_
                                    refine r_op (o_assign rfl rfl) ?_
                                    refine r_end ?_
                                    refine t_le ?_ (ih0 (m + 1) (by (try dsimp only); omega) (by (try dsimp only); omega))
                                    exact ⟨⟨rfl, ⟨rfl, ⟨rfl, ⟨rfl, ⟨rfl, ⟨rfl, ⟨rfl, ⟨(eqI (wr64 (by omega) (by omega))), trivial⟩⟩⟩⟩⟩⟩⟩⟩, ⟨rfl, ⟨rfl, ⟨rfl, ⟨rfl, ⟨rfl, trivial⟩⟩⟩⟩⟩, rfl⟩
                                ·
                                  have g36' := of_decide_eq_true g36
                                  refine d_guard 12 rfl rfl (by kernel_rfl) (by kernel_rfl) (by kernel_rfl) rfl rfl (v := .c .top) (nc g36) (nc g36) (fun _ => ?_)
                                  refine d_guard 13 rfl rfl (by kernel_rfl) (by kernel_rfl) (by kernel_rfl) rfl rfl (v := .c .top) (nc g36) (nc g36) (fun _ => ?_)
                                  refine d_guard 14 rfl rfl (by kernel_rfl) (by kernel_rfl) (by kernel_rfl) rfl rfl (v := .c .top) (nc g36) (nc g36) (fun _ => ?_)
                                  refine d_guard 15 rfl rfl (by kernel_rfl) (by kernel_rfl) (by kernel_rfl) rfl rfl (v := .c .top) (nc g36) (nc g36) (fun _ => ?_)
                                  refine d_guard 16 rfl rfl (by kernel_rfl) (by kernel_rfl) (by kernel_rfl) rfl rfl (v := .c .top) (nc g36) (nc g36) (fun _ => ?_)
                                  refine d_guard 17 rfl rfl (by kernel_rfl) (by kernel_rfl) (by kernel_rfl) rfl rfl (v := .c .top) (nc g36) (nc g36) (fun _ => ?_)
                                  refine d_guard 18 rfl rfl (by kernel_rfl) (by kernel_rfl) (by kernel_rfl) rfl rfl (v := .c .top) (nc g36) (nc g36) (fun _ => ?_)
                                  refine d_guard 19 rfl rfl (by kernel_rfl) (by kernel_rfl) (by kernel_rfl) rfl rfl (v := .c .top) (nc g36) (nc g36) (fun _ => ?_)
                                  refine d_guard 20 rfl rfl (by kernel_rfl) (by kernel_rfl) (by kernel_rfl) rfl rfl (v := .c .top) (nc g36) (nc g36) (fun _ => ?_)
                                  refine d_guard 21 rfl rfl (by kernel_rfl) (by kernel_rfl) (by kernel_rfl) rfl rfl (v := .c .top) (nc g36) (nc g36) (fun _ => ?_)
                                  refine d_guard 22 rfl rfl (by kernel_rfl) (by kernel_rfl) (by kernel_rfl) rfl rfl (v := .c .top) (nc g36) (nc g36) (fun _ => ?_)
                                  refine d_guard 23 rfl rfl (by kernel_rfl) (by kernel_rfl) (by kernel_rfl) rfl rfl (v := .c .top) (nc g36) (nc g36) (fun _ => ?_)
                                  refine d_guard 24 rfl rfl (by kernel_rfl) (by kernel_rfl) (by kernel_rfl) rfl rfl (v := .c .top) (nc g36) (nc g36) (fun _ => ?_)
                                  refine d_guard 25 rfl rfl (by kernel_rfl) (by kernel_rfl) (by kernel_rfl) rfl rfl (v := .c .top) (nc g36) (nc g36) (fun _ => ?_)
                                  refine d_guard 26 rfl rfl (by kernel_rfl) (by kernel_rfl) (by kernel_rfl) rfl rfl (v := .c .top) (nc g36) (nc g36) (fun _ => ?_)
                                  refine d_guard 27 rfl rfl (by kernel_rfl) (by kernel_rfl) (by kernel_rfl) rfl rfl (v := .c .top) (nc g36) (nc g36) (fun _ => ?_)
                                  refine d_take 28 rfl rfl (by kernel_rfl) (by kernel_rfl) (by kernel_rfl) (p_pickT rfl g36 rfl) ?_
                                  refine d_end (by kernel_rfl) ?_
                                  refine t_cond rfl (fun _ => ?_) (nc rfl)
                                  refine t_seq ?_
                                  refine t_region ?_
                                  refine r_op (o_assign rfl rfl) ?_
                                  refine r_end ?_
                                  refine t_ret Tryz.func3 (.tmp rfl .nil) rfl fun E S w u hI hd => ?_
                                  refine post_mk hI hd ?_ trivial rfl rfl rfl <;> clear hI hd <;> (try clear ih0)
                                  all_goals ((exfalso; clear KZ; grind))
                          ·
                            have g22' := of_decide_eq_true g22
                            refine r_guard rfl rfl rfl (nc g22) (fun _ => ?_)
                            refine r_guard rfl rfl rfl (nc g22) (fun _ => ?_)
                            refine r_guard rfl rfl rfl (nc g22) (fun _ => ?_)
                            refine r_guard rfl rfl rfl (nc g22) (fun _ => ?_)
                            refine r_guard rfl rfl rfl (nc g22) (fun _ => ?_)
                            refine r_guard rfl rfl rfl (nc g22) (fun _ => ?_)
                            refine r_guard rfl rfl rfl (nc g22) (fun _ => ?_)
                            refine r_op (o_pickT rfl rfl g22 rfl) ?_
                            refine r_end ?_
                            refine t_cond rfl (fun _ => ?_) (nc rfl)
                            refine t_seq ?_
                            refine t_region ?_
                            refine r_op (o_assign rfl rfl) ?_
                            refine r_end ?_
                            refine t_ret Tryz.func3 (.tmp rfl .nil) rfl fun E S w u hI hd => ?_
                            refine post_mk hI hd ?_ trivial rfl rfl rfl <;> clear hI hd <;> (try clear ih0)
                            all_goals ((exfalso; clear KZ; grind))
                        ·
                          have g21' := of_decide_eq_true g21
                          refine r_guard rfl rfl rfl (nc g21) (fun _ => ?_)
                          refine r_guard rfl rfl rfl (nc g21) (fun _ => ?_)
                          refine r_guard rfl rfl rfl (nc g21) (fun _ => ?_)
                          refine r_guard rfl rfl rfl (nc g21) (fun _ => ?_)
                          refine r_guard rfl rfl rfl (nc g21) (fun _ => ?_)
                          refine r_op (o_pickT rfl rfl g21 rfl) ?_
                          refine r_op (o_move rfl rfl) ?_
                          refine r_guard rfl rfl rfl (nc rfl) (fun _ => ?_)
                          refine r_guard rfl rfl rfl (nc rfl) (fun _ => ?_)
                          refine r_guard rfl rfl rfl (nc rfl) (fun _ => ?_)
                          refine r_guard rfl rfl rfl (nc rfl) (fun _ => ?_)
                          refine r_guard rfl rfl rfl (nc rfl) (fun _ => ?_)
                          refine r_guard rfl rfl rfl (nc rfl) (fun _ => ?_)
                          refine r_guard rfl rfl rfl (nc rfl) (fun _ => ?_)
                          refine r_guard rfl rfl rfl (nc rfl) (fun _ => ?_)
                          refine r_op (o_pickT rfl rfl rfl rfl) ?_
                          refine r_end ?_
                          refine t_cond rfl (fun _ => ?_) (nc rfl)
                          refine t_seq ?_
                          refine t_region ?_
                          refine r_op (o_assign rfl rfl) ?_
                          refine r_end ?_
                          refine t_ret Tryz.func3 (.tmp rfl .nil) rfl fun E S w u hI hd => ?_
                          refine post_mk hI hd ?_ trivial rfl rfl rfl <;> clear hI hd <;> (try clear ih0)
                          all_goals ((exfalso; clear KZ; grind))
                      ·
                        have g20' := of_decide_eq_true g20
                        refine r_guard rfl rfl rfl (nc g20) (fun _ => ?_)
                        refine r_guard rfl rfl rfl (nc g20) (fun _ => ?_)
                        refine r_guard rfl rfl rfl (nc g20) (fun _ => ?_)
                        refine r_guard rfl rfl rfl (nc g20) (fun _ => ?_)
                        refine r_guard rfl rfl rfl (nc g20) (fun _ => ?_)
                        refine r_guard rfl rfl rfl (nc g20) (fun _ => ?_)
                        refine r_guard rfl rfl rfl (nc g20) (fun _ => ?_)
                        refine r_op (o_pickT rfl rfl g20 rfl) ?_
                        refine r_op (o_move rfl rfl) ?_
                        refine r_guard rfl rfl rfl (nc rfl) (fun _ => ?_)
                        refine r_guard rfl rfl rfl (nc rfl) (fun _ => ?_)
                        refine r_guard rfl rfl rfl (nc rfl) (fun _ => ?_)
                        refine r_guard rfl rfl rfl (nc rfl) (fun _ => ?_)
                        refine r_guard rfl rfl rfl (nc rfl) (fun _ => ?_)
                        refine r_guard rfl rfl rfl (nc rfl) (fun _ => ?_)
                        refine r_op (o_pickT rfl rfl rfl rfl) ?_
                        refine r_op (o_move rfl rfl) ?_
                        refine r_guard rfl rfl rfl (nc rfl) (fun _ => ?_)
                        refine r_guard rfl rfl rfl (nc rfl) (fun _ => ?_)
                        refine r_guard rfl rfl rfl (nc rfl) (fun _ => ?_)
                        refine r_guard rfl rfl rfl (nc rfl) (fun _ => ?_)
                        refine r_guard rfl rfl rfl (nc rfl) (fun _ => ?_)
                        refine r_guard rfl rfl rfl (nc rfl) (fun _ => ?_)
                        refine r_guard rfl rfl rfl (nc rfl) (fun _ => ?_)
                        refine r_guard rfl rfl rfl (nc rfl) (fun _ => ?_)
                        refine r_op (o_pickT rfl rfl rfl rfl) ?_
                        refine r_end ?_
                        refine t_cond rfl (fun _ => ?_) (nc rfl)
                        refine t_seq ?_
                        refine t_region ?_
                        refine r_op (o_assign rfl rfl) ?_
                        refine r_end ?_
                        refine t_ret Tryz.func3 (.tmp rfl .nil) rfl fun E S w u hI hd => ?_
                        refine post_mk hI hd ?_ trivial rfl rfl rfl <;> clear hI hd <;> (try clear ih0)
                        all_goals ((exfalso; clear KZ; grind))
                    ·
                      have h16' := h16
                      try simp only [decide_eq_true_eq, decide_eq_false_iff_not, Bool.not_eq_true', Bool.not_eq_false', Bool.not_false, Bool.not_true] at h16'
                      refine t_exit rfl ?_
                      refine t_seq ?_
                      refine t_draw (fun _ => true) (by kernel_rfl) ?_
                      refine d_take 0 rfl rfl (by kernel_rfl) (by kernel_rfl) (by kernel_rfl) (p_move rfl) ?_
                      refine d_take 1 rfl rfl (by kernel_rfl) (by kernel_rfl) (by kernel_rfl) (p_move rfl) ?_
                      refine d_take 2 rfl rfl (by kernel_rfl) (by kernel_rfl) (by kernel_rfl) (p_not rfl) ?_
                      refine d_take 3 rfl rfl (by kernel_rfl) (by kernel_rfl) (by kernel_rfl) (p_eqB Tryz.underlying4 rfl rfl) ?_
                      refine d_take 4 rfl rfl (by kernel_rfl) (by kernel_rfl) (by kernel_rfl) (p_move rfl) ?_
                      refine d_guard 5 rfl rfl (by kernel_rfl) (by kernel_rfl) (by kernel_rfl) rfl rfl (fun _ => p_move rfl) (fun g38 => ?_) (fun g38 => ?_)
                      ·
                        have g38' := g38
                        refine d_guard 6 rfl rfl (by kernel_rfl) (by kernel_rfl) (by kernel_rfl) rfl rfl (fun _ => p_not rfl) (fun _ => ?_) (nc g38)
                        refine d_guard 7 rfl rfl (by kernel_rfl) (by kernel_rfl) (by kernel_rfl) rfl rfl (fun _ => p_move rfl) (fun _ => ?_) (nc g38)
                        refine d_guard 8 rfl rfl (by kernel_rfl) (by kernel_rfl) (by kernel_rfl) rfl rfl (fun _ => p_fieldb (off := 2) (by kernel_rfl) rfl) (fun g39 => ?_) (fun g39 => ?_)
                        ·
                          have g39' := (bnf g39)
                          refine d_guard 9 rfl rfl (by kernel_rfl) (by kernel_rfl) (by kernel_rfl) rfl rfl (fun _ => p_load1b (by kernel_rfl) rfl rfl rfl) (fun _ => ?_) (ncf g39)
                          refine d_guard 10 rfl rfl (by kernel_rfl) (by kernel_rfl) (by kernel_rfl) rfl rfl (fun _ => p_move rfl) (fun _ => ?_) (ncf g39)
                          refine d_guard 11 rfl rfl (by kernel_rfl) (by kernel_rfl) (by kernel_rfl) rfl rfl (fun _ => p_move rfl) (fun g40 => ?_) (fun g40 => ?_)
                          ·
                            have g40' := g40
                            refine d_guard 13 rfl rfl (by kernel_rfl) (by kernel_rfl) (by kernel_rfl) rfl rfl (fun _ => p_move rfl) (fun _ => ?_) (nc g40)
                            refine d_guard 14 rfl rfl (by kernel_rfl) (by kernel_rfl) (by kernel_rfl) rfl rfl (fun _ => p_fieldb (off := 1) (by kernel_rfl) rfl) (fun _ => ?_) (nc g40)
                            refine d_guard 15 rfl rfl (by kernel_rfl) (by kernel_rfl) (by kernel_rfl) rfl rfl (fun _ => p_load1b (by kernel_rfl) rfl rfl rfl) (fun _ => ?_) (nc g40)
                            refine d_guard 16 rfl rfl (by kernel_rfl) (by kernel_rfl) (by kernel_rfl) rfl rfl (fun _ => p_fieldb (off := 0) (by kernel_rfl) rfl) (fun _ => ?_) (nc g40)
                            refine d_guard 17 rfl rfl (by kernel_rfl) (by kernel_rfl) (by kernel_rfl) rfl rfl (fun _ => p_load1b (by kernel_rfl) rfl rfl rfl) (fun _ => ?_) (nc g40)
                            refine d_onlyG 12 rfl rfl (by kernel_rfl) rfl rfl rfl (fun _ => (o_call 7 7 false (Go.Proofs.enters_of Tryz.func21 (by kernel_rfl) rfl) (c_impl_PositionCount (sigs5) (by (rw [sigs5_len]; omega))) rfl (.cons rfl (.c .t0) .nil) rfl rfl rfl)) (fun _ => ?_) (nc g40)
                            refine d_onlyG 18 rfl rfl (by kernel_rfl) rfl rfl rfl (fun _ => (o_call 7 7 false (Go.Proofs.enters_of Tryz.func20 (by kernel_rfl) rfl) (c_impl_IsReachable (cntP (sigs5)) (graphL (sigs5) ((ds2))) ((spcE (sigs5) ((ds2))).2.1) ((spcE (sigs5) ((ds2))).1) (by omega)) rfl (.cons rfl (.c .t0) (.cons rfl (.c (.own rfl)) (.cons rfl (.c .t0) (.cons rfl (.c .t0) .nil)))) rfl rfl rfl)) (fun _ => ?_) (nc g40)
                            refine d_guard 19 rfl rfl (by kernel_rfl) (by kernel_rfl) (by kernel_rfl) rfl rfl (fun _ => p_pickT rfl g40 rfl) (fun _ => ?_) (ncf g39)
                            refine d_guard 20 rfl rfl (by kernel_rfl) (by kernel_rfl) (by kernel_rfl) rfl rfl (fun _ => p_pickF rfl g39 rfl) (fun _ => ?_) (nc g38)
                            refine d_take 21 rfl rfl (by kernel_rfl) (by kernel_rfl) (by kernel_rfl) (p_pickT rfl g38 rfl) ?_
                            refine d_take 22 rfl rfl (by kernel_rfl) (by kernel_rfl) (by kernel_rfl) (p_assign rfl) ?_
                            refine d_end (by kernel_rfl) ?_
                            refine t_ret Tryz.func3 (.tmp rfl .nil) rfl fun E S w u hI hd => ?_
                            refine post_mk hI hd ?_ trivial rfl rfl rfl <;> clear hI hd <;> (try clear ih0)
                            all_goals ((refine scB ?_; clear KZ; grind))
                          ·
                            have g40' := g40
                            refine d_guard 12 rfl rfl (by kernel_rfl) (by kernel_rfl) (by kernel_rfl) rfl rfl (v := .c .top) (ncf g40) (ncf g40) (fun _ => ?_)
                            refine d_guard 13 rfl rfl (by kernel_rfl) (by kernel_rfl) (by kernel_rfl) rfl rfl (v := .c .top) (ncf g40) (ncf g40) (fun _ => ?_)
                            refine d_guard 14 rfl rfl (by kernel_rfl) (by kernel_rfl) (by kernel_rfl) rfl rfl (v := .c .top) (ncf g40) (ncf g40) (fun _ => ?_)
                            refine d_guard 15 rfl rfl (by kernel_rfl) (by kernel_rfl) (by kernel_rfl) rfl rfl (v := .c .top) (ncf g40) (ncf g40) (fun _ => ?_)
                            refine d_guard 16 rfl rfl (by kernel_rfl) (by kernel_rfl) (by kernel_rfl) rfl rfl (v := .c .top) (ncf g40) (ncf g40) (fun _ => ?_)
                            refine d_guard 17 rfl rfl (by kernel_rfl) (by kernel_rfl) (by kernel_rfl) rfl rfl (v := .c .top) (ncf g40) (ncf g40) (fun _ => ?_)
                            refine d_guard 18 rfl rfl (by kernel_rfl) (by kernel_rfl) (by kernel_rfl) rfl rfl (v := .c .top) (ncf g40) (ncf g40) (fun _ => ?_)
                            refine d_guard 19 rfl rfl (by kernel_rfl) (by kernel_rfl) (by kernel_rfl) rfl rfl (fun _ => p_pickF rfl g40 rfl) (fun _ => ?_) (ncf g39)
                            refine d_guard 20 rfl rfl (by kernel_rfl) (by kernel_rfl) (by kernel_rfl) rfl rfl (fun _ => p_pickF rfl g39 rfl) (fun _ => ?_) (nc g38)
                            refine d_take 21 rfl rfl (by kernel_rfl) (by kernel_rfl) (by kernel_rfl) (p_pickT rfl g38 rfl) ?_
                            refine d_take 22 rfl rfl (by kernel_rfl) (by kernel_rfl) (by kernel_rfl) (p_assign rfl) ?_
                            refine d_end (by kernel_rfl) ?_
                            refine t_ret Tryz.func3 (.tmp rfl .nil) rfl fun E S w u hI hd => ?_
                            refine post_mk hI hd ?_ trivial rfl rfl rfl <;> clear hI hd <;> (try clear ih0)
                            all_goals ((exfalso; clear KZ; grind))
                        ·
                          have g39' := (bnt g39)
                          refine d_guard 9 rfl rfl (by kernel_rfl) (by kernel_rfl) (by kernel_rfl) rfl rfl (v := .c .top) (nc g39) (nc g39) (fun _ => ?_)
                          refine d_guard 10 rfl rfl (by kernel_rfl) (by kernel_rfl) (by kernel_rfl) rfl rfl (v := .c .top) (nc g39) (nc g39) (fun _ => ?_)
                          refine d_skip 11 rfl rfl (by kernel_rfl) (by kernel_rfl) (by kernel_rfl) rfl rfl ?_
                          refine d_skip 12 rfl rfl (by kernel_rfl) (by kernel_rfl) (by kernel_rfl) rfl rfl ?_
                          refine d_skip 13 rfl rfl (by kernel_rfl) (by kernel_rfl) (by kernel_rfl) rfl rfl ?_
                          refine d_skip 14 rfl rfl (by kernel_rfl) (by kernel_rfl) (by kernel_rfl) rfl rfl ?_
                          refine d_skip 15 rfl rfl (by kernel_rfl) (by kernel_rfl) (by kernel_rfl) rfl rfl ?_
                          refine d_skip 16 rfl rfl (by kernel_rfl) (by kernel_rfl) (by kernel_rfl) rfl rfl ?_
                          refine d_skip 17 rfl rfl (by kernel_rfl) (by kernel_rfl) (by kernel_rfl) rfl rfl ?_
                          refine d_skip 18 rfl rfl (by kernel_rfl) (by kernel_rfl) (by kernel_rfl) rfl rfl ?_
                          refine d_guard 19 rfl rfl (by kernel_rfl) (by kernel_rfl) (by kernel_rfl) rfl rfl (v := .c .top) (nc g39) (nc g39) (fun _ => ?_)
                          refine d_guard 20 rfl rfl (by kernel_rfl) (by kernel_rfl) (by kernel_rfl) rfl rfl (fun _ => p_pickT rfl g39 rfl) (fun _ => ?_) (nc g38)
                          refine d_take 21 rfl rfl (by kernel_rfl) (by kernel_rfl) (by kernel_rfl) (p_pickT rfl g38 rfl) ?_
                          refine d_take 22 rfl rfl (by kernel_rfl) (by kernel_rfl) (by kernel_rfl) (p_assign rfl) ?_
                          refine d_end (by kernel_rfl) ?_
                          refine t_ret Tryz.func3 (.tmp rfl .nil) rfl fun E S w u hI hd => ?_
                          refine post_mk hI hd ?_ trivial rfl rfl rfl <;> clear hI hd <;> (try clear ih0)
                          all_goals (rfl)
                      ·
                        have g38' := g38
                        refine d_guard 6 rfl rfl (by kernel_rfl) (by kernel_rfl) (by kernel_rfl) rfl rfl (v := .c .top) (ncf g38) (ncf g38) (fun _ => ?_)
                        refine d_guard 7 rfl rfl (by kernel_rfl) (by kernel_rfl) (by kernel_rfl) rfl rfl (v := .c .top) (ncf g38) (ncf g38) (fun _ => ?_)
                        refine d_skip 8 rfl rfl (by kernel_rfl) (by kernel_rfl) (by kernel_rfl) rfl rfl ?_
                        refine d_skip 9 rfl rfl (by kernel_rfl) (by kernel_rfl) (by kernel_rfl) rfl rfl ?_
                        refine d_skip 10 rfl rfl (by kernel_rfl) (by kernel_rfl) (by kernel_rfl) rfl rfl ?_
                        refine d_skip 11 rfl rfl (by kernel_rfl) (by kernel_rfl) (by kernel_rfl) rfl rfl ?_
                        refine d_skip 12 rfl rfl (by kernel_rfl) (by kernel_rfl) (by kernel_rfl) rfl rfl ?_
                        refine d_skip 13 rfl rfl (by kernel_rfl) (by kernel_rfl) (by kernel_rfl) rfl rfl ?_
                        refine d_skip 14 rfl rfl (by kernel_rfl) (by kernel_rfl) (by kernel_rfl) rfl rfl ?_
                        refine d_skip 15 rfl rfl (by kernel_rfl) (by kernel_rfl) (by kernel_rfl) rfl rfl ?_
                        refine d_skip 16 rfl rfl (by kernel_rfl) (by kernel_rfl) (by kernel_rfl) rfl rfl ?_
                        refine d_skip 17 rfl rfl (by kernel_rfl) (by kernel_rfl) (by kernel_rfl) rfl rfl ?_
                        refine d_skip 18 rfl rfl (by kernel_rfl) (by kernel_rfl) (by kernel_rfl) rfl rfl ?_
                        refine d_skip 19 rfl rfl (by kernel_rfl) (by kernel_rfl) (by kernel_rfl) rfl rfl ?_
                        refine d_guard 20 rfl rfl (by kernel_rfl) (by kernel_rfl) (by kernel_rfl) rfl rfl (v := .c .top) (ncf g38) (ncf g38) (fun _ => ?_)
                        refine d_take 21 rfl rfl (by kernel_rfl) (by kernel_rfl) (by kernel_rfl) (p_pickF rfl g38 rfl) ?_
                        refine d_take 22 rfl rfl (by kernel_rfl) (by kernel_rfl) (by kernel_rfl) (p_assign rfl) ?_
                        refine d_end (by kernel_rfl) ?_
                        refine t_ret Tryz.func3 (.tmp rfl .nil) rfl fun E S w u hI hd => ?_
                        refine post_mk hI hd ?_ trivial rfl rfl rfl <;> clear hI hd <;> (try clear ih0)
                        all_goals ((exfalso; clear KZ; grind))
                  ·
                    have g15' := of_decide_eq_false g15
                    refine r_op (o_pickF rfl rfl g15 rfl) ?_
                    refine r_end ?_
                    refine t_cond rfl (ncf rfl) (fun _ => ?_)
                    refine t_exit rfl ?_
                    refine t_seq ?_
                    refine t_draw (fun _ => true) (by kernel_rfl) ?_
                    refine d_take 0 rfl rfl (by kernel_rfl) (by kernel_rfl) (by kernel_rfl) (p_move rfl) ?_
                    refine d_take 1 rfl rfl (by kernel_rfl) (by kernel_rfl) (by kernel_rfl) (p_move rfl) ?_
                    refine d_take 2 rfl rfl (by kernel_rfl) (by kernel_rfl) (by kernel_rfl) (p_not rfl) ?_
                    refine d_take 3 rfl rfl (by kernel_rfl) (by kernel_rfl) (by kernel_rfl) (p_eqB Tryz.underlying4 rfl rfl) ?_
                    refine d_take 4 rfl rfl (by kernel_rfl) (by kernel_rfl) (by kernel_rfl) (p_move rfl) ?_
                    refine d_guard 5 rfl rfl (by kernel_rfl) (by kernel_rfl) (by kernel_rfl) rfl rfl (fun _ => p_move rfl) (fun g41 => ?_) (fun g41 => ?_)
                    ·
                      have g41' := g41
                      refine d_guard 6 rfl rfl (by kernel_rfl) (by kernel_rfl) (by kernel_rfl) rfl rfl (fun _ => p_not rfl) (fun _ => ?_) (nc g41)
                      refine d_guard 7 rfl rfl (by kernel_rfl) (by kernel_rfl) (by kernel_rfl) rfl rfl (fun _ => p_move rfl) (fun _ => ?_) (nc g41)
                      refine d_guard 8 rfl rfl (by kernel_rfl) (by kernel_rfl) (by kernel_rfl) rfl rfl (fun _ => p_fieldb (off := 2) (by kernel_rfl) rfl) (fun g42 => ?_) (fun g42 => ?_)
                      ·
                        have g42' := (bnf g42)
                        refine d_guard 9 rfl rfl (by kernel_rfl) (by kernel_rfl) (by kernel_rfl) rfl rfl (fun _ => p_load1b (by kernel_rfl) rfl rfl rfl) (fun _ => ?_) (ncf g42)
                        refine d_guard 10 rfl rfl (by kernel_rfl) (by kernel_rfl) (by kernel_rfl) rfl rfl (fun _ => p_move rfl) (fun _ => ?_) (ncf g42)
                        refine d_guard 11 rfl rfl (by kernel_rfl) (by kernel_rfl) (by kernel_rfl) rfl rfl (fun _ => p_move rfl) (fun g43 => ?_) (fun g43 => ?_)
                        ·
                          have g43' := g43
                          refine d_guard 13 rfl rfl (by kernel_rfl) (by kernel_rfl) (by kernel_rfl) rfl rfl (fun _ => p_move rfl) (fun _ => ?_) (nc g43)
                          refine d_guard 14 rfl rfl (by kernel_rfl) (by kernel_rfl) (by kernel_rfl) rfl rfl (fun _ => p_fieldb (off := 1) (by kernel_rfl) rfl) (fun _ => ?_) (nc g43)
                          refine d_guard 15 rfl rfl (by kernel_rfl) (by kernel_rfl) (by kernel_rfl) rfl rfl (fun _ => p_load1b (by kernel_rfl) rfl rfl rfl) (fun _ => ?_) (nc g43)
                          refine d_guard 16 rfl rfl (by kernel_rfl) (by kernel_rfl) (by kernel_rfl) rfl rfl (fun _ => p_fieldb (off := 0) (by kernel_rfl) rfl) (fun _ => ?_) (nc g43)
                          refine d_guard 17 rfl rfl (by kernel_rfl) (by kernel_rfl) (by kernel_rfl) rfl rfl (fun _ => p_load1b (by kernel_rfl) rfl rfl rfl) (fun _ => ?_) (nc g43)
                          refine d_onlyG 12 rfl rfl (by kernel_rfl) rfl rfl rfl (fun _ => (o_call 7 7 false (Go.Proofs.enters_of Tryz.func21 (by kernel_rfl) rfl) (c_impl_PositionCount (sigs5) (by (rw [sigs5_len]; omega))) rfl (.cons rfl (.c .t0) .nil) rfl rfl rfl)) (fun _ => ?_) (nc g43)
                          refine d_onlyG 18 rfl rfl (by kernel_rfl) rfl rfl rfl (fun _ => (o_call 7 7 false (Go.Proofs.enters_of Tryz.func20 (by kernel_rfl) rfl) (c_impl_IsReachable (cntP (sigs5)) (graphL (sigs5) ((ds2))) ((spcE (sigs5) ((ds2))).2.1) ((spcE (sigs5) ((ds2))).1) (by omega)) rfl (.cons rfl (.c .t0) (.cons rfl (.c (.own rfl)) (.cons rfl (.c .t0) (.cons rfl (.c .t0) .nil)))) rfl rfl rfl)) (fun _ => ?_) (nc g43)
                          refine d_guard 19 rfl rfl (by kernel_rfl) (by kernel_rfl) (by kernel_rfl) rfl rfl (fun _ => p_pickT rfl g43 rfl) (fun _ => ?_) (ncf g42)
                          refine d_guard 20 rfl rfl (by kernel_rfl) (by kernel_rfl) (by kernel_rfl) rfl rfl (fun _ => p_pickF rfl g42 rfl) (fun _ => ?_) (nc g41)
                          refine d_take 21 rfl rfl (by kernel_rfl) (by kernel_rfl) (by kernel_rfl) (p_pickT rfl g41 rfl) ?_
                          refine d_take 22 rfl rfl (by kernel_rfl) (by kernel_rfl) (by kernel_rfl) (p_assign rfl) ?_
                          refine d_end (by kernel_rfl) ?_
                          refine t_ret Tryz.func3 (.tmp rfl .nil) rfl fun E S w u hI hd => ?_
                          refine post_mk hI hd ?_ trivial rfl rfl rfl <;> clear hI hd <;> (try clear ih0)
                          all_goals ((refine scB ?_; clear KZ; grind))
                        ·
                          have g43' := g43
                          refine d_guard 12 rfl rfl (by kernel_rfl) (by kernel_rfl) (by kernel_rfl) rfl rfl (v := .c .top) (ncf g43) (ncf g43) (fun _ => ?_)
                          refine d_guard 13 rfl rfl (by kernel_rfl) (by kernel_rfl) (by kernel_rfl) rfl rfl (v := .c .top) (ncf g43) (ncf g43) (fun _ => ?_)
                          refine d_guard 14 rfl rfl (by kernel_rfl) (by kernel_rfl) (by kernel_rfl) rfl rfl (v := .c .top) (ncf g43) (ncf g43) (fun _ => ?_)
                          refine d_guard 15 rfl rfl (by kernel_rfl) (by kernel_rfl) (by kernel_rfl) rfl rfl (v := .c .top) (ncf g43) (ncf g43) (fun _ => ?_)
                          refine d_guard 16 rfl rfl (by kernel_rfl) (by kernel_rfl) (by kernel_rfl) rfl rfl (v := .c .top) (ncf g43) (ncf g43) (fun _ => ?_)
                          refine d_guard 17 rfl rfl (by kernel_rfl) (by kernel_rfl) (by kernel_rfl) rfl rfl (v := .c .top) (ncf g43) (ncf g43) (fun _ => ?_)
                          refine d_guard 18 rfl rfl (by kernel_rfl) (by kernel_rfl) (by kernel_rfl) rfl rfl (v := .c .top) (ncf g43) (ncf g43) (fun _ => ?_)
                          refine d_guard 19 rfl rfl (by kernel_rfl) (by kernel_rfl) (by kernel_rfl) rfl rfl (fun _ => p_pickF rfl g43 rfl) (fun _ => ?_) (ncf g42)
                          refine d_guard 20 rfl rfl (by kernel_rfl) (by kernel_rfl) (by kernel_rfl) rfl rfl (fun _ => p_pickF rfl g42 rfl) (fun _ => ?_) (nc g41)
                          refine d_take 21 rfl rfl (by kernel_rfl) (by kernel_rfl) (by kernel_rfl) (p_pickT rfl g41 rfl) ?_
                          refine d_take 22 rfl rfl (by kernel_rfl) (by kernel_rfl) (by kernel_rfl) (p_assign rfl) ?_
                          refine d_end (by kernel_rfl) ?_
                          refine t_ret Tryz.func3 (.tmp rfl .nil) rfl fun E S w u hI hd => ?_
                          refine post_mk hI hd ?_ trivial rfl rfl rfl <;> clear hI hd <;> (try clear ih0)
                          all_goals ((exfalso; clear KZ; grind))
                      ·
                        have g42' := (bnt g42)
                        refine d_guard 9 rfl rfl (by kernel_rfl) (by kernel_rfl) (by kernel_rfl) rfl rfl (v := .c .top) (nc g42) (nc g42) (fun _ => ?_)
                        refine d_guard 10 rfl rfl (by kernel_rfl) (by kernel_rfl) (by kernel_rfl) rfl rfl (v := .c .top) (nc g42) (nc g42) (fun _ => ?_)
                        refine d_skip 11 rfl rfl (by kernel_rfl) (by kernel_rfl) (by kernel_rfl) rfl rfl ?_
                        refine d_skip 12 rfl rfl (by kernel_rfl) (by kernel_rfl) (by kernel_rfl) rfl rfl ?_
                        refine d_skip 13 rfl rfl (by kernel_rfl) (by kernel_rfl) (by kernel_rfl) rfl rfl ?_
                        refine d_skip 14 rfl rfl (by kernel_rfl) (by kernel_rfl) (by kernel_rfl) rfl rfl ?_
                        refine d_skip 15 rfl rfl (by kernel_rfl) (by kernel_rfl) (by kernel_rfl) rfl rfl ?_
                        refine d_skip 16 rfl rfl (by kernel_rfl) (by kernel_rfl) (by kernel_rfl) rfl rfl ?_
                        refine d_skip 17 rfl rfl (by kernel_rfl) (by kernel_rfl) (by kernel_rfl) rfl rfl ?_
                        refine d_skip 18 rfl rfl (by kernel_rfl) (by kernel_rfl) (by kernel_rfl) rfl rfl ?_
                        refine d_guard 19 rfl rfl (by kernel_rfl) (by kernel_rfl) (by kernel_rfl) rfl rfl (v := .c .top) (nc g42) (nc g42) (fun _ => ?_)
                        refine d_guard 20 rfl rfl (by kernel_rfl) (by kernel_rfl) (by kernel_rfl) rfl rfl (fun _ => p_pickT rfl g42 rfl) (fun _ => ?_) (nc g41)
                        refine d_take 21 rfl rfl (by kernel_rfl) (by kernel_rfl) (by kernel_rfl) (p_pickT rfl g41 rfl) ?_
                        refine d_take 22 rfl rfl (by kernel_rfl) (by kernel_rfl) (by kernel_rfl) (p_assign rfl) ?_
                        refine d_end (by kernel_rfl) ?_
                        refine t_ret Tryz.func3 (.tmp rfl .nil) rfl fun E S w u hI hd => ?_
                        refine post_mk hI hd ?_ trivial rfl rfl rfl <;> clear hI hd <;> (try clear ih0)
                        all_goals (rfl)
                    ·
                      have g41' := g41
                      refine d_guard 6 rfl rfl (by kernel_rfl) (by kernel_rfl) (by kernel_rfl) rfl rfl (v := .c .top) (ncf g41) (ncf g41) (fun _ => ?_)
                      refine d_guard 7 rfl rfl (by kernel_rfl) (by kernel_rfl) (by kernel_rfl) rfl rfl (v := .c .top) (ncf g41) (ncf g41) (fun _ => ?_)
                      refine d_skip 8 rfl rfl (by kernel_rfl) (by kernel_rfl) (by kernel_rfl) rfl rfl ?_
                      refine d_skip 9 rfl rfl (by kernel_rfl) (by kernel_rfl) (by kernel_rfl) rfl rfl ?_
                      refine d_skip 10 rfl rfl (by kernel_rfl) (by kernel_rfl) (by kernel_rfl) rfl rfl ?_
                      refine d_skip 11 rfl rfl (by kernel_rfl) (by kernel_rfl) (by kernel_rfl) rfl rfl ?_
                      refine d_skip 12 rfl rfl (by kernel_rfl) (by kernel_rfl) (by kernel_rfl) rfl rfl ?_
                      refine d_skip 13 rfl rfl (by kernel_rfl) (by kernel_rfl) (by kernel_rfl) rfl rfl ?_
                      refine d_skip 14 rfl rfl (by kernel_rfl) (by kernel_rfl) (by kernel_rfl) rfl rfl ?_
                      refine d_skip 15 rfl rfl (by kernel_rfl) (by kernel_rfl) (by kernel_rfl) rfl rfl ?_
                      refine d_skip 16 rfl rfl (by kernel_rfl) (by kernel_rfl) (by kernel_rfl) rfl rfl ?_
                      refine d_skip 17 rfl rfl (by kernel_rfl) (by kernel_rfl) (by kernel_rfl) rfl rfl ?_
                      refine d_skip 18 rfl rfl (by kernel_rfl) (by kernel_rfl) (by kernel_rfl) rfl rfl ?_
                      refine d_skip 19 rfl rfl (by kernel_rfl) (by kernel_rfl) (by kernel_rfl) rfl rfl ?_
                      refine d_guard 20 rfl rfl (by kernel_rfl) (by kernel_rfl) (by kernel_rfl) rfl rfl (v := .c .top) (ncf g41) (ncf g41) (fun _ => ?_)
                      refine d_take 21 rfl rfl (by kernel_rfl) (by kernel_rfl) (by kernel_rfl) (p_pickF rfl g41 rfl) ?_
                      refine d_take 22 rfl rfl (by kernel_rfl) (by kernel_rfl) (by kernel_rfl) (p_assign rfl) ?_
                      refine d_end (by kernel_rfl) ?_
                      refine t_ret Tryz.func3 (.tmp rfl .nil) rfl fun E S w u hI hd => ?_
                      refine post_mk hI hd ?_ trivial rfl rfl rfl <;> clear hI hd <;> (try clear ih0)
                      all_goals ((exfalso; clear KZ; grind))
            ·
              have g10' := of_decide_eq_false (bnt g10)
              refine r_guard rfl rfl rfl (nc g10) (fun _ => ?_)
              refine r_guard rfl rfl rfl (nc g10) (fun _ => ?_)
              refine r_guard rfl rfl rfl (nc g10) (fun _ => ?_)
              refine r_guard rfl rfl rfl (nc g10) (fun _ => ?_)
              refine r_guard rfl rfl rfl (nc g10) (fun _ => ?_)
              refine r_guard rfl rfl rfl (nc g10) (fun _ => ?_)
              refine r_op (o_pickT rfl rfl g10 rfl) ?_
              refine r_end ?_
              refine t_cond rfl (fun _ => ?_) (nc rfl)
              refine t_seq ?_
              refine t_region ?_
              refine r_op (o_assign rfl rfl) ?_
              refine r_end ?_
              refine t_ret Tryz.func3 (.tmp rfl .nil) rfl fun E S w u hI hd => ?_
              refine post_mk hI hd ?_ trivial rfl rfl rfl <;> clear hI hd <;> (try clear ih0)
              all_goals ((exfalso; clear KZ; grind))
          ·
            have g9' := g9
            refine r_guard rfl rfl rfl (nc g9) (fun _ => ?_)
            refine r_guard rfl rfl rfl (nc g9) (fun _ => ?_)
            refine r_guard rfl rfl rfl (nc g9) (fun _ => ?_)
            refine r_op (o_pickT rfl rfl g9 rfl) ?_
            refine r_op (o_move rfl rfl) ?_
            refine r_guard rfl rfl rfl (nc rfl) (fun _ => ?_)
            refine r_guard rfl rfl rfl (nc rfl) (fun _ => ?_)
            refine r_guard rfl rfl rfl (nc rfl) (fun _ => ?_)
            refine r_guard rfl rfl rfl (nc rfl) (fun _ => ?_)
            refine r_guard rfl rfl rfl (nc rfl) (fun _ => ?_)
            refine r_guard rfl rfl rfl (nc rfl) (fun _ => ?_)
            refine r_guard rfl rfl rfl (nc rfl) (fun _ => ?_)
            refine r_op (o_pickT rfl rfl rfl rfl) ?_
            refine r_end ?_
            refine t_cond rfl (fun _ => ?_) (nc rfl)
            refine t_seq ?_
            refine t_region ?_
            refine r_op (o_assign rfl rfl) ?_
            refine r_end ?_
            refine t_ret Tryz.func3 (.tmp rfl .nil) rfl fun E S w u hI hd => ?_
            refine post_mk hI hd ?_ trivial rfl rfl rfl <;> clear hI hd <;> (try clear ih0)
            all_goals ((exfalso; clear KZ; grind))
        ·
          have g8' := of_decide_eq_false (bnt g8)
          refine r_guard rfl rfl rfl (nc g8) (fun _ => ?_)
          refine r_guard rfl rfl rfl (nc g8) (fun _ => ?_)
          refine r_op (o_pickT rfl rfl g8 rfl) ?_
          refine r_op (o_move rfl rfl) ?_
          refine r_guard rfl rfl rfl (nc rfl) (fun _ => ?_)
          refine r_guard rfl rfl rfl (nc rfl) (fun _ => ?_)
          refine r_guard rfl rfl rfl (nc rfl) (fun _ => ?_)
          refine r_guard rfl rfl rfl (nc rfl) (fun _ => ?_)
          refine r_op (o_pickT rfl rfl rfl rfl) ?_
          refine r_op (o_move rfl rfl) ?_
          refine r_guard rfl rfl rfl (nc rfl) (fun _ => ?_)
          refine r_guard rfl rfl rfl (nc rfl) (fun _ => ?_)
          refine r_guard rfl rfl rfl (nc rfl) (fun _ => ?_)
          refine r_guard rfl rfl rfl (nc rfl) (fun _ => ?_)
          refine r_guard rfl rfl rfl (nc rfl) (fun _ => ?_)
          refine r_guard rfl rfl rfl (nc rfl) (fun _ => ?_)
          refine r_guard rfl rfl rfl (nc rfl) (fun _ => ?_)
          refine r_op (o_pickT rfl rfl rfl rfl) ?_
          refine r_end ?_
          refine t_cond rfl (fun _ => ?_) (nc rfl)
          refine t_seq ?_
          refine t_region ?_
          refine r_op (o_assign rfl rfl) ?_
          refine r_end ?_
          refine t_ret Tryz.func3 (.tmp rfl .nil) rfl fun E S w u hI hd => ?_
          refine post_mk hI hd ?_ trivial rfl rfl rfl <;> clear hI hd <;> (try clear ih0)
          all_goals ((exfalso; clear KZ; grind))
      ·
        have g7' := g7
        refine r_guard rfl rfl rfl (nc g7) (fun _ => ?_)
        refine r_guard rfl rfl rfl (nc g7) (fun _ => ?_)
        refine r_op (o_pickT rfl rfl g7 rfl) ?_
        refine r_op (o_move rfl rfl) ?_
        refine r_guard rfl rfl rfl (nc rfl) (fun _ => ?_)
        refine r_guard rfl rfl rfl (nc rfl) (fun _ => ?_)
        refine r_guard rfl rfl rfl (nc rfl) (fun _ => ?_)
        refine r_op (o_pickT rfl rfl rfl rfl) ?_
        refine r_op (o_move rfl rfl) ?_
        refine r_guard rfl rfl rfl (nc rfl) (fun _ => ?_)
        refine r_guard rfl rfl rfl (nc rfl) (fun _ => ?_)
        refine r_guard rfl rfl rfl (nc rfl) (fun _ => ?_)
        refine r_guard rfl rfl rfl (nc rfl) (fun _ => ?_)
        refine r_op (o_pickT rfl rfl rfl rfl) ?_
        refine r_op (o_move rfl rfl) ?_
        refine r_guard rfl rfl rfl (nc rfl) (fun _ => ?_)
        refine r_guard rfl rfl rfl (nc rfl) (fun _ => ?_)
        refine r_guard rfl rfl rfl (nc rfl) (fun _ => ?_)
        refine r_guard rfl rfl rfl (nc rfl) (fun _ => ?_)
        refine r_guard rfl rfl rfl (nc rfl) (fun _ => ?_)
        refine r_guard rfl rfl rfl (nc rfl) (fun _ => ?_)
        refine r_guard rfl rfl rfl (nc rfl) (fun _ => ?_)
        refine r_op (o_pickT rfl rfl rfl rfl) ?_
        refine r_end ?_
        refine t_cond rfl (fun _ => ?_) (nc rfl)
        refine t_seq ?_
        refine t_region ?_
        refine r_op (o_assign rfl rfl) ?_
        refine r_end ?_
        refine t_ret Tryz.func3 (.tmp rfl .nil) rfl fun E S w u hI hd => ?_
        refine post_mk hI hd ?_ trivial rfl rfl rfl <;> clear hI hd <;> (try clear ih0)
        all_goals ((exfalso; clear KZ; grind))
    ·
      have g6' := g6
      refine r_guard rfl rfl rfl (nc g6) (fun _ => ?_)
      refine r_guard rfl rfl rfl (nc g6) (fun _ => ?_)
      refine r_op (o_pickT rfl rfl g6 rfl) ?_
      refine r_op (o_move rfl rfl) ?_
      refine r_guard rfl rfl rfl (nc rfl) (fun _ => ?_)
      refine r_guard rfl rfl rfl (nc rfl) (fun _ => ?_)
      refine r_guard rfl rfl rfl (nc rfl) (fun _ => ?_)
      refine r_op (o_pickT rfl rfl rfl rfl) ?_
      refine r_op (o_move rfl rfl) ?_
      refine r_guard rfl rfl rfl (nc rfl) (fun _ => ?_)
      refine r_guard rfl rfl rfl (nc rfl) (fun _ => ?_)
      refine r_guard rfl rfl rfl (nc rfl) (fun _ => ?_)
      refine r_op (o_pickT rfl rfl rfl rfl) ?_
      refine r_op (o_move rfl rfl) ?_
      refine r_guard rfl rfl rfl (nc rfl) (fun _ => ?_)
      refine r_guard rfl rfl rfl (nc rfl) (fun _ => ?_)
      refine r_guard rfl rfl rfl (nc rfl) (fun _ => ?_)
      refine r_guard rfl rfl rfl (nc rfl) (fun _ => ?_)
      refine r_op (o_pickT rfl rfl rfl rfl) ?_
      refine r_op (o_move rfl rfl) ?_
      refine r_guard rfl rfl rfl (nc rfl) (fun _ => ?_)
      refine r_guard rfl rfl rfl (nc rfl) (fun _ => ?_)
      refine r_guard rfl rfl rfl (nc rfl) (fun _ => ?_)
      refine r_guard rfl rfl rfl (nc rfl) (fun _ => ?_)
      refine r_guard rfl rfl rfl (nc rfl) (fun _ => ?_)
      refine r_guard rfl rfl rfl (nc rfl) (fun _ => ?_)
      refine r_guard rfl rfl rfl (nc rfl) (fun _ => ?_)
      refine r_op (o_pickT rfl rfl rfl rfl) ?_
      refine r_end ?_
      refine t_cond rfl (fun _ => ?_) (nc rfl)
      refine t_seq ?_
      refine t_region ?_
      refine r_op (o_assign rfl rfl) ?_
      refine r_end ?_
      refine t_ret Tryz.func3 (.tmp rfl .nil) rfl fun E S w u hI hd => ?_
      refine post_mk hI hd ?_ trivial rfl rfl rfl <;> clear hI hd <;> (try clear ih0)
      all_goals ((exfalso; clear KZ; grind))
end Go.Eng
