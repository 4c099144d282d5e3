/- What the functions that FnMatches reaches answer. -/
import Derived.Test.YtjjoopbebildfaaGreatFnsFnMatchesp2
import Derived.Test.YtjjoopbebildfaaGreatEngZA
import Derived.Test.YtjjoopbebildfaaGreatChecked
set_option linter.unusedVariables false
set_option linter.unusedSimpArgs false
namespace Go.Eng
open Go Go.RowKit Go.Proofs
set_option maxHeartbeats 1000000 in
set_option maxRecDepth 10000 in
theorem c_spec_IsValidInstance (rs : Rels) (l : Atoms) (hrs : rs.length ≤ 4611686018427387904) (hl : szS (fun (x : Int × (List (Int))) => (x.2).length) l ≤ 1048576) (ho : ∀ z ∈ l, ∀ x ∈ z.2, okI x) : Pu Tryz.prog 34 [.agg [.t none (.sl 3 (enS3 encS encI encB) (rs)), .t none (.sl 2 (enS2 encI (enSl 1 encI)) (l))]] [] 0 (.c (.t none (.v (.bool (instOk rs l))))) := by
  refine pu_enter Tryz.func34 rfl (Nat.le_of_ble_eq_true rfl) fun w S => ?_
  have gl := sz_len (f := (fun (x : Int × (List (Int))) => (x.2).length)) (l := l)
  refine t_seq ?_
  refine t_region ?_
  refine r_op (o_box 0 rfl rfl rfl rfl) ?_
  refine r_op (o_assign rfl rfl) ?_
  refine r_end ?_
  refine t_seq ?_
  refine t_seq ?_
  refine t_region ?_
  refine r_op (o_assign rfl rfl) ?_
  refine r_end ?_
  refine t_block ?_
  refine t_loopL (fun m => ⟨[(1, some (.c (.ptr 0 0))), (3, some (.c (.t none (.v (.int .i64 ((m : Int)))))))], [(0, some (.box [.t none (.sl 3 (enS3 encS encI encB) (rs)), .t none (.sl 2 (enS2 encI (enSl 1 encI)) (l))]))], 1⟩ : Nat → St) (fun m => m ≤ l.length ∧ ∀ j, j < m → instStep rs l j = true) (fun m => l.length - m) 0 ⟨⟨rfl, ⟨rfl, trivial⟩⟩, ⟨rfl, trivial⟩, rfl⟩ (by exact ⟨Nat.zero_le _, fun j h => by omega⟩) ?_
  rintro m hI ih0
  try dsimp only at hI ih0
  obtain ⟨i1, i2⟩ := hI
  refine t_seq ?_
  refine t_seq ?_
  refine t_region ?_
  refine r_op (o_move rfl rfl) ?_
  refine r_op (o_fieldb rfl (off := 1) (by kernel_rfl) rfl) ?_
  refine r_op (o_load1b rfl (by kernel_rfl) rfl rfl rfl) ?_
  refine r_op (o_len rfl rfl rfl) ?_
  refine r_op (o_bin rfl rfl rfl rfl) ?_
  refine r_end ?_
  refine t_cond rfl (fun h1 => ?_) (fun h1 => ?_)
  ·
    have h1' := of_decide_eq_true h1
    refine t_skip ?_
    refine t_seq ?_
    refine t_block ?_
    refine t_seq ?_
    refine t_region ?_
    refine r_op (o_fieldb rfl (off := 1) (by kernel_rfl) rfl) ?_
    refine r_op (o_load1b rfl (by kernel_rfl) rfl rfl rfl) ?_
    refine r_op (o_move rfl rfl) ?_
    obtain ⟨z2, hz3, b4⟩ := at_get (xs := l) (n := (m : Int)) (by omega) (by omega)
    refine r_op (o_index rfl (by kernel_rfl) rfl rfl b4 hz3) ?_
    refine r_op (o_loadA rfl (n := 2) (by kernel_rfl) (by kernel_rfl) rfl rfl) ?_
    refine r_op (o_alloc 1 (zs := [.int .i64 (0), .slice none 0 0]) rfl rfl (by kernel_rfl) rfl) ?_
    refine r_op (o_storeb (n := 2) (by kernel_rfl) rfl rfl rfl rfl rfl rfl) ?_
    refine r_end ?_
    refine t_seq ?_
    refine t_draw (fun _ => true) (by kernel_rfl) ?_
    refine d_take 0 rfl rfl (by kernel_rfl) (by kernel_rfl) (by kernel_rfl) (p_fieldb (off := 0) (by kernel_rfl) rfl) ?_
    refine d_take 1 rfl rfl (by kernel_rfl) (by kernel_rfl) (by kernel_rfl) (p_load1b (by kernel_rfl) rfl rfl rfl) ?_
    refine d_take 2 rfl rfl (by kernel_rfl) (by kernel_rfl) (by kernel_rfl) (p_loadAb (n := 2) (by kernel_rfl) (by kernel_rfl) rfl rfl rfl) ?_
    refine d_only 3 rfl (by kernel_rfl) rfl (o_call 2 2 false (Go.Proofs.enters_of Tryz.func74 (by kernel_rfl) rfl) (c_spec_IsValidFact (rs) (z2.1) (z2.2) (by omega) (by (have e1 := sz_at (f := (fun (x : Int × (List (Int))) => (x.2).length)) (l := l) (m := m) (by assumption); (try dsimp only at e1); omega)) (by exact ho _ (List.mem_of_getElem? (by assumption)))) rfl (.cons rfl (.c .t0) (.cons rfl (.agg (.cons .t0 (.cons .t0 .nil))) .nil)) rfl rfl rfl) ?_
    refine d_take 4 rfl rfl (by kernel_rfl) (by kernel_rfl) (by kernel_rfl) (p_not rfl) ?_
    refine d_take 5 rfl rfl (by kernel_rfl) (by kernel_rfl) (by kernel_rfl) (p_move rfl) ?_
    refine d_guard 6 rfl rfl (by kernel_rfl) (by kernel_rfl) (by kernel_rfl) rfl rfl (fun _ => p_move rfl) (fun g5 => ?_) (fun g5 => ?_)
    ·
      have g5' := (bnf g5)
      refine d_guard 7 rfl rfl (by kernel_rfl) (by kernel_rfl) (by kernel_rfl) rfl rfl (fun _ => p_bin rfl rfl rfl) (fun _ => ?_) (ncf g5)
      refine d_guard 8 rfl rfl (by kernel_rfl) (by kernel_rfl) (by kernel_rfl) rfl rfl (fun _ => p_move rfl) (fun _ => ?_) (ncf g5)
      refine d_guard 9 rfl rfl (by kernel_rfl) (by kernel_rfl) (by kernel_rfl) rfl rfl (fun _ => p_fieldb (off := 1) (by kernel_rfl) rfl) (fun g6 => ?_) (fun g6 => ?_)
      ·
        have g6' := of_decide_eq_true g6
        refine d_guard 10 rfl rfl (by kernel_rfl) (by kernel_rfl) (by kernel_rfl) rfl rfl (fun _ => p_load1b (by kernel_rfl) rfl rfl rfl) (fun _ => ?_) (nc g6)
        refine d_guard 11 rfl rfl (by kernel_rfl) (by kernel_rfl) (by kernel_rfl) rfl rfl (fun _ => p_move rfl) (fun _ => ?_) (nc g6)
        refine d_guard 12 rfl rfl (by kernel_rfl) (by kernel_rfl) (by kernel_rfl) rfl rfl (fun _ => p_bin rfl rfl rfl) (fun _ => ?_) (nc g6)
        obtain ⟨z7, hz8, b9⟩ := at_get (xs := l) (n := IntKind.i64.wrap ((m : Int) - 1)) (by (simp only [IntKind.wrap_i64] at *; omega)) (by (simp only [IntKind.wrap_i64] at *; omega))
        refine d_guard 13 rfl rfl (by kernel_rfl) (by kernel_rfl) (by kernel_rfl) rfl rfl (fun _ => p_index (by kernel_rfl) rfl rfl b9 hz8) (fun _ => ?_) (nc g6)
        refine d_guard 14 rfl rfl (by kernel_rfl) (by kernel_rfl) (by kernel_rfl) rfl rfl (fun _ => p_loadA (n := 2) (by kernel_rfl) (by kernel_rfl) rfl rfl) (fun _ => ?_) (nc g6)
        refine d_guard 15 rfl rfl (by kernel_rfl) (by kernel_rfl) (by kernel_rfl) rfl rfl (fun _ => p_loadAb (n := 2) (by kernel_rfl) (by kernel_rfl) rfl rfl rfl) (fun _ => ?_) (nc g6)
        refine d_onlyG 16 rfl rfl (by kernel_rfl) rfl rfl rfl (fun _ => (o_call 2 2 false (Go.Proofs.enters_of Tryz.func20 (by kernel_rfl) rfl) (c_spec_CompareFacts (z7.1) (z7.2) (z2.1) (z2.2) (by (have e1 := sz_at (f := (fun (x : Int × (List (Int))) => (x.2).length)) (l := l) (m := (IntKind.i64.wrap ((m : Int) - 1)).toNat) (by assumption); (try dsimp only at e1); omega)) (by (have e1 := sz_at (f := (fun (x : Int × (List (Int))) => (x.2).length)) (l := l) (m := m) (by assumption); (try dsimp only at e1); omega))) rfl (.cons rfl (.agg (.cons .t0 (.cons .t0 .nil))) (.cons rfl (.agg (.cons .t0 (.cons .t0 .nil))) .nil)) rfl rfl rfl)) (fun _ => ?_) (nc g6)
        refine d_guard 17 rfl rfl (by kernel_rfl) (by kernel_rfl) (by kernel_rfl) rfl rfl (fun _ => p_bin rfl rfl rfl) (fun _ => ?_) (nc g6)
        refine d_guard 18 rfl rfl (by kernel_rfl) (by kernel_rfl) (by kernel_rfl) rfl rfl (fun _ => p_pickT rfl g6 rfl) (fun _ => ?_) (ncf g5)
        refine d_take 19 rfl rfl (by kernel_rfl) (by kernel_rfl) (by kernel_rfl) (p_pickF rfl g5 rfl) ?_
        refine d_take 20 rfl rfl (by kernel_rfl) (by kernel_rfl) (by kernel_rfl) (p_move rfl) ?_
        refine d_guard 21 rfl rfl (by kernel_rfl) (by kernel_rfl) (by kernel_rfl) rfl rfl (fun _ => p_fieldb (off := 0) (by kernel_rfl) rfl) (fun g10 => ?_) (fun g10 => ?_)
        ·
          have g10' := of_decide_eq_false g10
          refine d_guard 22 rfl rfl (by kernel_rfl) (by kernel_rfl) (by kernel_rfl) rfl rfl (fun _ => p_load1b (by kernel_rfl) rfl rfl rfl) (fun _ => ?_) (ncf g10)
          refine d_guard 23 rfl rfl (by kernel_rfl) (by kernel_rfl) (by kernel_rfl) rfl rfl (fun _ => p_fieldb (off := 0) (by kernel_rfl) rfl) (fun _ => ?_) (ncf g10)
          refine d_guard 24 rfl rfl (by kernel_rfl) (by kernel_rfl) (by kernel_rfl) rfl rfl (fun _ => p_load1b (by kernel_rfl) rfl rfl rfl) (fun _ => ?_) (ncf g10)
          obtain ⟨z11, hz12, b13⟩ := at_get (xs := rs) (n := z2.1) (by exact (fact_idx (by assumption)).1) (by exact (fact_idx (by assumption)).2)
          refine d_guard 25 rfl rfl (by kernel_rfl) (by kernel_rfl) (by kernel_rfl) rfl rfl (fun _ => p_index (by kernel_rfl) rfl rfl b13 hz12) (fun _ => ?_) (ncf g10)
          refine d_guard 26 rfl rfl (by kernel_rfl) (by kernel_rfl) (by kernel_rfl) rfl rfl (fun _ => p_field (off := 2) (by kernel_rfl) rfl) (fun _ => ?_) (ncf g10)
          refine d_guard 27 rfl rfl (by kernel_rfl) (by kernel_rfl) (by kernel_rfl) rfl rfl (fun _ => p_load1 (by kernel_rfl) rfl rfl) (fun _ => ?_) (ncf g10)
          refine d_guard 28 rfl rfl (by kernel_rfl) (by kernel_rfl) (by kernel_rfl) rfl rfl (fun _ => p_move rfl) (fun _ => ?_) (ncf g10)
          refine d_guard 29 rfl rfl (by kernel_rfl) (by kernel_rfl) (by kernel_rfl) rfl rfl (fun _ => p_loadAb (n := 2) (by kernel_rfl) (by kernel_rfl) rfl rfl rfl) (fun g14 => ?_) (fun g14 => ?_)
          ·
            have g14' := g14
            refine d_onlyG 30 rfl rfl (by kernel_rfl) rfl rfl rfl (fun _ => (o_call 2 4 false (Go.Proofs.enters_of Tryz.func75 (by kernel_rfl) rfl) (c_spec_NullsOfFact (z2.1) (z2.2) (by (have e1 := sz_at (f := (fun (x : Int × (List (Int))) => (x.2).length)) (l := l) (m := m) (by assumption); (try dsimp only at e1); omega)) (by exact ho _ (List.mem_of_getElem? (by assumption)))) rfl (.cons rfl (.agg (.cons .t0 (.cons .t0 .nil))) .nil) rfl rfl rfl)) (fun _ => ?_) (nc g14)
            refine d_guard 31 rfl rfl (by kernel_rfl) (by kernel_rfl) (by kernel_rfl) rfl rfl (fun _ => p_leno rfl rfl rfl) (fun _ => ?_) (nc g14)
            refine d_guard 32 rfl rfl (by kernel_rfl) (by kernel_rfl) (by kernel_rfl) rfl rfl (fun _ => p_bin rfl rfl rfl) (fun _ => ?_) (nc g14)
            refine d_guard 33 rfl rfl (by kernel_rfl) (by kernel_rfl) (by kernel_rfl) rfl rfl (fun _ => p_pickT rfl g14 rfl) (fun _ => ?_) (ncf g10)
            refine d_take 34 rfl rfl (by kernel_rfl) (by kernel_rfl) (by kernel_rfl) (p_pickF rfl g10 rfl) ?_
            refine d_end (by kernel_rfl) ?_
            refine t_cond rfl (fun h15 => ?_) (fun h15 => ?_)
            ·
              have h15' := of_decide_eq_true h15
              refine t_seq ?_
              refine t_region ?_
              refine r_op (o_assign rfl rfl) ?_
              refine r_end ?_
              refine t_ret Tryz.func34 (.tmp rfl .nil) rfl fun E S w u hI hd => ?_
              refine post_mk hI hd ?_ trivial rfl rfl rfl <;> clear hI hd <;> (try clear ih0)
              all_goals (refine scB ?_; (rw [instOk_not (rs := rs) (l := l) (m := m) (by omega) (by (try (have qb := instStep_bad (rs := rs) (l := l) (m := m) hz3 (by assumption))); (try (have qz := instStep_zero (rs := rs) (l := l) (m := m) hz3 (by omega))); (try (have qp := instStep_pos (rs := rs) (l := l) (m := m) hz3 (by omega) hz8 (by simp only [IntKind.wrap_i64]; omega))); (try (have qS := srcA_at (rs := rs) (r := z2.1) (ts := z2.2) hz8)); (try (have qT := srcA_at (rs := rs) (r := z2.1) (ts := z2.2) hz12)); clear hl gl ho hrs; grind)]; done))
            ·
              have h15' := of_decide_eq_false h15
              refine t_skip ?_
              refine t_endblock ?_
              refine t_region ?_
              refine r_op (o_move rfl rfl) ?_
              refine r_op (o_bin rfl rfl rfl rfl) ?_
              refine r_op (o_assign rfl rfl) ?_
              refine r_end ?_
              refine t_le ?_ (ih0 (m + 1) (by (try dsimp only); omega) (by (try dsimp only); exact ⟨by omega, step_all i2 (by (try (have qb := instStep_bad (rs := rs) (l := l) (m := m) hz3 (by assumption))); (try (have qz := instStep_zero (rs := rs) (l := l) (m := m) hz3 (by omega))); (try (have qp := instStep_pos (rs := rs) (l := l) (m := m) hz3 (by omega) hz8 (by simp only [IntKind.wrap_i64]; omega))); (try (have qS := srcA_at (rs := rs) (r := z2.1) (ts := z2.2) hz8)); (try (have qT := srcA_at (rs := rs) (r := z2.1) (ts := z2.2) hz12)); clear hl gl ho hrs; grind)⟩))
              exact ⟨⟨rfl, ⟨(eqI (wr64 (by omega) (by omega))), trivial⟩⟩, ⟨rfl, trivial⟩, rfl⟩
          ·
            have g14' := g14
            refine d_guard 30 rfl rfl (by kernel_rfl) (by kernel_rfl) (by kernel_rfl) rfl rfl (v := .c .top) (ncf g14) (ncf g14) (fun _ => ?_)
            refine d_guard 31 rfl rfl (by kernel_rfl) (by kernel_rfl) (by kernel_rfl) rfl rfl (v := .c .top) (ncf g14) (ncf g14) (fun _ => ?_)
            refine d_guard 32 rfl rfl (by kernel_rfl) (by kernel_rfl) (by kernel_rfl) rfl rfl (v := .c .top) (ncf g14) (ncf g14) (fun _ => ?_)
            refine d_guard 33 rfl rfl (by kernel_rfl) (by kernel_rfl) (by kernel_rfl) rfl rfl (fun _ => p_pickF rfl g14 rfl) (fun _ => ?_) (ncf g10)
            refine d_take 34 rfl rfl (by kernel_rfl) (by kernel_rfl) (by kernel_rfl) (p_pickF rfl g10 rfl) ?_
            refine d_end (by kernel_rfl) ?_
            refine t_cond rfl (ncf rfl) (fun _ => ?_)
            refine t_skip ?_
            refine t_endblock ?_
            refine t_region ?_
            refine r_op (o_move rfl rfl) ?_
            refine r_op (o_bin rfl rfl rfl rfl) ?_
            refine r_op (o_assign rfl rfl) ?_
            refine r_end ?_
            refine t_le ?_ (ih0 (m + 1) (by (try dsimp only); omega) (by (try dsimp only); exact ⟨by omega, step_all i2 (by (try (have qb := instStep_bad (rs := rs) (l := l) (m := m) hz3 (by assumption))); (try (have qz := instStep_zero (rs := rs) (l := l) (m := m) hz3 (by omega))); (try (have qp := instStep_pos (rs := rs) (l := l) (m := m) hz3 (by omega) hz8 (by simp only [IntKind.wrap_i64]; omega))); (try (have qS := srcA_at (rs := rs) (r := z2.1) (ts := z2.2) hz8)); (try (have qT := srcA_at (rs := rs) (r := z2.1) (ts := z2.2) hz12)); clear hl gl ho hrs; grind)⟩))
            exact ⟨⟨rfl, ⟨(eqI (wr64 (by omega) (by omega))), trivial⟩⟩, ⟨rfl, trivial⟩, rfl⟩
        ·
          have g10' := of_decide_eq_true g10
          refine d_guard 22 rfl rfl (by kernel_rfl) (by kernel_rfl) (by kernel_rfl) rfl rfl (v := .c .top) (nc g10) (nc g10) (fun _ => ?_)
          refine d_guard 23 rfl rfl (by kernel_rfl) (by kernel_rfl) (by kernel_rfl) rfl rfl (v := .c .top) (nc g10) (nc g10) (fun _ => ?_)
          refine d_guard 24 rfl rfl (by kernel_rfl) (by kernel_rfl) (by kernel_rfl) rfl rfl (v := .c .top) (nc g10) (nc g10) (fun _ => ?_)
          refine d_guard 25 rfl rfl (by kernel_rfl) (by kernel_rfl) (by kernel_rfl) rfl rfl (v := .c .top) (nc g10) (nc g10) (fun _ => ?_)
          refine d_guard 26 rfl rfl (by kernel_rfl) (by kernel_rfl) (by kernel_rfl) rfl rfl (v := .c .top) (nc g10) (nc g10) (fun _ => ?_)
          refine d_guard 27 rfl rfl (by kernel_rfl) (by kernel_rfl) (by kernel_rfl) rfl rfl (v := .c .top) (nc g10) (nc g10) (fun _ => ?_)
          refine d_guard 28 rfl rfl (by kernel_rfl) (by kernel_rfl) (by kernel_rfl) rfl rfl (v := .c .top) (nc g10) (nc g10) (fun _ => ?_)
          refine d_skip 29 rfl rfl (by kernel_rfl) (by kernel_rfl) (by kernel_rfl) rfl rfl ?_
          refine d_skip 30 rfl rfl (by kernel_rfl) (by kernel_rfl) (by kernel_rfl) rfl rfl ?_
          refine d_skip 31 rfl rfl (by kernel_rfl) (by kernel_rfl) (by kernel_rfl) rfl rfl ?_
          refine d_skip 32 rfl rfl (by kernel_rfl) (by kernel_rfl) (by kernel_rfl) rfl rfl ?_
          refine d_guard 33 rfl rfl (by kernel_rfl) (by kernel_rfl) (by kernel_rfl) rfl rfl (v := .c .top) (nc g10) (nc g10) (fun _ => ?_)
          refine d_take 34 rfl rfl (by kernel_rfl) (by kernel_rfl) (by kernel_rfl) (p_pickT rfl g10 rfl) ?_
          refine d_end (by kernel_rfl) ?_
          refine t_cond rfl (fun _ => ?_) (nc rfl)
          refine t_seq ?_
          refine t_region ?_
          refine r_op (o_assign rfl rfl) ?_
          refine r_end ?_
          refine t_ret Tryz.func34 (.tmp rfl .nil) rfl fun E S w u hI hd => ?_
          refine post_mk hI hd ?_ trivial rfl rfl rfl <;> clear hI hd <;> (try clear ih0)
          all_goals (refine scB ?_; (rw [instOk_not (rs := rs) (l := l) (m := m) (by omega) (by (try (have qb := instStep_bad (rs := rs) (l := l) (m := m) hz3 (by assumption))); (try (have qz := instStep_zero (rs := rs) (l := l) (m := m) hz3 (by omega))); (try (have qp := instStep_pos (rs := rs) (l := l) (m := m) hz3 (by omega) hz8 (by simp only [IntKind.wrap_i64]; omega))); (try (have qS := srcA_at (rs := rs) (r := z2.1) (ts := z2.2) hz8)); (try (have qT := srcA_at (rs := rs) (r := z2.1) (ts := z2.2) (by assumption))); clear hl gl ho hrs; grind)]; done))
      ·
        have g6' := of_decide_eq_false g6
        refine d_guard 10 rfl rfl (by kernel_rfl) (by kernel_rfl) (by kernel_rfl) rfl rfl (v := .c .top) (ncf g6) (ncf g6) (fun _ => ?_)
        refine d_guard 11 rfl rfl (by kernel_rfl) (by kernel_rfl) (by kernel_rfl) rfl rfl (v := .c .top) (ncf g6) (ncf g6) (fun _ => ?_)
        refine d_guard 12 rfl rfl (by kernel_rfl) (by kernel_rfl) (by kernel_rfl) rfl rfl (v := .c .top) (ncf g6) (ncf g6) (fun _ => ?_)
        refine d_guard 13 rfl rfl (by kernel_rfl) (by kernel_rfl) (by kernel_rfl) rfl rfl (v := .c .top) (ncf g6) (ncf g6) (fun _ => ?_)
        refine d_guard 14 rfl rfl (by kernel_rfl) (by kernel_rfl) (by kernel_rfl) rfl rfl (v := .c .top) (ncf g6) (ncf g6) (fun _ => ?_)
        refine d_guard 15 rfl rfl (by kernel_rfl) (by kernel_rfl) (by kernel_rfl) rfl rfl (v := .c .top) (ncf g6) (ncf g6) (fun _ => ?_)
        refine d_guard 16 rfl rfl (by kernel_rfl) (by kernel_rfl) (by kernel_rfl) rfl rfl (v := .c .top) (ncf g6) (ncf g6) (fun _ => ?_)
        refine d_guard 17 rfl rfl (by kernel_rfl) (by kernel_rfl) (by kernel_rfl) rfl rfl (v := .c .top) (ncf g6) (ncf g6) (fun _ => ?_)
        refine d_guard 18 rfl rfl (by kernel_rfl) (by kernel_rfl) (by kernel_rfl) rfl rfl (fun _ => p_pickF rfl g6 rfl) (fun _ => ?_) (ncf g5)
        refine d_take 19 rfl rfl (by kernel_rfl) (by kernel_rfl) (by kernel_rfl) (p_pickF rfl g5 rfl) ?_
        refine d_take 20 rfl rfl (by kernel_rfl) (by kernel_rfl) (by kernel_rfl) (p_move rfl) ?_
        refine d_guard 21 rfl rfl (by kernel_rfl) (by kernel_rfl) (by kernel_rfl) rfl rfl (fun _ => p_fieldb (off := 0) (by kernel_rfl) rfl) (fun _ => ?_) (ncf rfl)
        refine d_guard 22 rfl rfl (by kernel_rfl) (by kernel_rfl) (by kernel_rfl) rfl rfl (fun _ => p_load1b (by kernel_rfl) rfl rfl rfl) (fun _ => ?_) (ncf rfl)
        refine d_guard 23 rfl rfl (by kernel_rfl) (by kernel_rfl) (by kernel_rfl) rfl rfl (fun _ => p_fieldb (off := 0) (by kernel_rfl) rfl) (fun _ => ?_) (ncf rfl)
        refine d_guard 24 rfl rfl (by kernel_rfl) (by kernel_rfl) (by kernel_rfl) rfl rfl (fun _ => p_load1b (by kernel_rfl) rfl rfl rfl) (fun _ => ?_) (ncf rfl)
        obtain ⟨z16, hz17, b18⟩ := at_get (xs := rs) (n := z2.1) (by exact (fact_idx (by assumption)).1) (by exact (fact_idx (by assumption)).2)
        refine d_guard 25 rfl rfl (by kernel_rfl) (by kernel_rfl) (by kernel_rfl) rfl rfl (fun _ => p_index (by kernel_rfl) rfl rfl b18 hz17) (fun _ => ?_) (ncf rfl)
        refine d_guard 26 rfl rfl (by kernel_rfl) (by kernel_rfl) (by kernel_rfl) rfl rfl (fun _ => p_field (off := 2) (by kernel_rfl) rfl) (fun _ => ?_) (ncf rfl)
        refine d_guard 27 rfl rfl (by kernel_rfl) (by kernel_rfl) (by kernel_rfl) rfl rfl (fun _ => p_load1 (by kernel_rfl) rfl rfl) (fun _ => ?_) (ncf rfl)
        refine d_guard 28 rfl rfl (by kernel_rfl) (by kernel_rfl) (by kernel_rfl) rfl rfl (fun _ => p_move rfl) (fun _ => ?_) (ncf rfl)
        refine d_guard 29 rfl rfl (by kernel_rfl) (by kernel_rfl) (by kernel_rfl) rfl rfl (fun _ => p_loadAb (n := 2) (by kernel_rfl) (by kernel_rfl) rfl rfl rfl) (fun g19 => ?_) (fun g19 => ?_)
        ·
          have g19' := g19
          refine d_onlyG 30 rfl rfl (by kernel_rfl) rfl rfl rfl (fun _ => (o_call 2 4 false (Go.Proofs.enters_of Tryz.func75 (by kernel_rfl) rfl) (c_spec_NullsOfFact (z2.1) (z2.2) (by (have e1 := sz_at (f := (fun (x : Int × (List (Int))) => (x.2).length)) (l := l) (m := m) (by assumption); (try dsimp only at e1); omega)) (by exact ho _ (List.mem_of_getElem? (by assumption)))) rfl (.cons rfl (.agg (.cons .t0 (.cons .t0 .nil))) .nil) rfl rfl rfl)) (fun _ => ?_) (nc g19)
          refine d_guard 31 rfl rfl (by kernel_rfl) (by kernel_rfl) (by kernel_rfl) rfl rfl (fun _ => p_leno rfl rfl rfl) (fun _ => ?_) (nc g19)
          refine d_guard 32 rfl rfl (by kernel_rfl) (by kernel_rfl) (by kernel_rfl) rfl rfl (fun _ => p_bin rfl rfl rfl) (fun _ => ?_) (nc g19)
          refine d_guard 33 rfl rfl (by kernel_rfl) (by kernel_rfl) (by kernel_rfl) rfl rfl (fun _ => p_pickT rfl g19 rfl) (fun _ => ?_) (ncf rfl)
          refine d_take 34 rfl rfl (by kernel_rfl) (by kernel_rfl) (by kernel_rfl) (p_pickF rfl rfl rfl) ?_
          refine d_end (by kernel_rfl) ?_
          refine t_cond rfl (fun h20 => ?_) (fun h20 => ?_)
          ·
            have h20' := of_decide_eq_true h20
            refine t_seq ?_
            refine t_region ?_
            refine r_op (o_assign rfl rfl) ?_
            refine r_end ?_
            refine t_ret Tryz.func34 (.tmp rfl .nil) rfl fun E S w u hI hd => ?_
            refine post_mk hI hd ?_ trivial rfl rfl rfl <;> clear hI hd <;> (try clear ih0)
            all_goals (refine scB ?_; (rw [instOk_not (rs := rs) (l := l) (m := m) (by omega) (by (try (have qb := instStep_bad (rs := rs) (l := l) (m := m) hz3 (by assumption))); (try (have qz := instStep_zero (rs := rs) (l := l) (m := m) hz3 (by omega))); (try (have qp := instStep_pos (rs := rs) (l := l) (m := m) hz3 (by omega) hz17 (by simp only [IntKind.wrap_i64]; omega))); (try (have qS := srcA_at (rs := rs) (r := z2.1) (ts := z2.2) hz17)); (try (have qT := srcA_at (rs := rs) (r := z2.1) (ts := z2.2) (by assumption))); clear hl gl ho hrs; grind)]; done))
          ·
            have h20' := of_decide_eq_false h20
            refine t_skip ?_
            refine t_endblock ?_
            refine t_region ?_
            refine r_op (o_move rfl rfl) ?_
            refine r_op (o_bin rfl rfl rfl rfl) ?_
            refine r_op (o_assign rfl rfl) ?_
            refine r_end ?_
            refine t_le ?_ (ih0 (m + 1) (by (try dsimp only); omega) (by (try dsimp only); exact ⟨by omega, step_all i2 (by (try (have qb := instStep_bad (rs := rs) (l := l) (m := m) hz3 (by assumption))); (try (have qz := instStep_zero (rs := rs) (l := l) (m := m) hz3 (by omega))); (try (have qp := instStep_pos (rs := rs) (l := l) (m := m) hz3 (by omega) hz17 (by simp only [IntKind.wrap_i64]; omega))); (try (have qS := srcA_at (rs := rs) (r := z2.1) (ts := z2.2) hz17)); (try (have qT := srcA_at (rs := rs) (r := z2.1) (ts := z2.2) (by assumption))); clear hl gl ho hrs; grind)⟩))
            exact ⟨⟨rfl, ⟨(eqI (wr64 (by omega) (by omega))), trivial⟩⟩, ⟨rfl, trivial⟩, rfl⟩
        ·
          have g19' := g19
          refine d_guard 30 rfl rfl (by kernel_rfl) (by kernel_rfl) (by kernel_rfl) rfl rfl (v := .c .top) (ncf g19) (ncf g19) (fun _ => ?_)
          refine d_guard 31 rfl rfl (by kernel_rfl) (by kernel_rfl) (by kernel_rfl) rfl rfl (v := .c .top) (ncf g19) (ncf g19) (fun _ => ?_)
          refine d_guard 32 rfl rfl (by kernel_rfl) (by kernel_rfl) (by kernel_rfl) rfl rfl (v := .c .top) (ncf g19) (ncf g19) (fun _ => ?_)
          refine d_guard 33 rfl rfl (by kernel_rfl) (by kernel_rfl) (by kernel_rfl) rfl rfl (fun _ => p_pickF rfl g19 rfl) (fun _ => ?_) (ncf rfl)
          refine d_take 34 rfl rfl (by kernel_rfl) (by kernel_rfl) (by kernel_rfl) (p_pickF rfl rfl rfl) ?_
          refine d_end (by kernel_rfl) ?_
          refine t_cond rfl (ncf rfl) (fun _ => ?_)
          refine t_skip ?_
          refine t_endblock ?_
          refine t_region ?_
          refine r_op (o_move rfl rfl) ?_
          refine r_op (o_bin rfl rfl rfl rfl) ?_
          refine r_op (o_assign rfl rfl) ?_
          refine r_end ?_
          refine t_le ?_ (ih0 (m + 1) (by (try dsimp only); omega) (by (try dsimp only); exact ⟨by omega, step_all i2 (by (try (have qb := instStep_bad (rs := rs) (l := l) (m := m) hz3 (by assumption))); (try (have qz := instStep_zero (rs := rs) (l := l) (m := m) hz3 (by omega))); (try (have qp := instStep_pos (rs := rs) (l := l) (m := m) hz3 (by omega) hz17 (by simp only [IntKind.wrap_i64]; omega))); (try (have qS := srcA_at (rs := rs) (r := z2.1) (ts := z2.2) hz17)); (try (have qT := srcA_at (rs := rs) (r := z2.1) (ts := z2.2) (by assumption))); clear hl gl ho hrs; grind)⟩))
          exact ⟨⟨rfl, ⟨(eqI (wr64 (by omega) (by omega))), trivial⟩⟩, ⟨rfl, trivial⟩, rfl⟩
    ·
      have g5' := (bnt g5)
      refine d_guard 7 rfl rfl (by kernel_rfl) (by kernel_rfl) (by kernel_rfl) rfl rfl (v := .c .top) (nc g5) (nc g5) (fun _ => ?_)
      refine d_guard 8 rfl rfl (by kernel_rfl) (by kernel_rfl) (by kernel_rfl) rfl rfl (v := .c .top) (nc g5) (nc g5) (fun _ => ?_)
      refine d_skip 9 rfl rfl (by kernel_rfl) (by kernel_rfl) (by kernel_rfl) rfl rfl ?_
      refine d_skip 10 rfl rfl (by kernel_rfl) (by kernel_rfl) (by kernel_rfl) rfl rfl ?_
      refine d_skip 11 rfl rfl (by kernel_rfl) (by kernel_rfl) (by kernel_rfl) rfl rfl ?_
      refine d_skip 12 rfl rfl (by kernel_rfl) (by kernel_rfl) (by kernel_rfl) rfl rfl ?_
      refine d_skip 13 rfl rfl (by kernel_rfl) (by kernel_rfl) (by kernel_rfl) rfl rfl ?_
      refine d_skip 14 rfl rfl (by kernel_rfl) (by kernel_rfl) (by kernel_rfl) rfl rfl ?_
      refine d_skip 15 rfl rfl (by kernel_rfl) (by kernel_rfl) (by kernel_rfl) rfl rfl ?_
      refine d_skip 16 rfl rfl (by kernel_rfl) (by kernel_rfl) (by kernel_rfl) rfl rfl ?_
      refine d_skip 17 rfl rfl (by kernel_rfl) (by kernel_rfl) (by kernel_rfl) rfl rfl ?_
      refine d_guard 18 rfl rfl (by kernel_rfl) (by kernel_rfl) (by kernel_rfl) rfl rfl (v := .c .top) (nc g5) (nc g5) (fun _ => ?_)
      refine d_take 19 rfl rfl (by kernel_rfl) (by kernel_rfl) (by kernel_rfl) (p_pickT rfl g5 rfl) ?_
      refine d_take 20 rfl rfl (by kernel_rfl) (by kernel_rfl) (by kernel_rfl) (p_move rfl) ?_
      refine d_guard 21 rfl rfl (by kernel_rfl) (by kernel_rfl) (by kernel_rfl) rfl rfl (v := .c .top) (nc rfl) (nc rfl) (fun _ => ?_)
      refine d_guard 22 rfl rfl (by kernel_rfl) (by kernel_rfl) (by kernel_rfl) rfl rfl (v := .c .top) (nc rfl) (nc rfl) (fun _ => ?_)
      refine d_guard 23 rfl rfl (by kernel_rfl) (by kernel_rfl) (by kernel_rfl) rfl rfl (v := .c .top) (nc rfl) (nc rfl) (fun _ => ?_)
      refine d_guard 24 rfl rfl (by kernel_rfl) (by kernel_rfl) (by kernel_rfl) rfl rfl (v := .c .top) (nc rfl) (nc rfl) (fun _ => ?_)
      refine d_guard 25 rfl rfl (by kernel_rfl) (by kernel_rfl) (by kernel_rfl) rfl rfl (v := .c .top) (nc rfl) (nc rfl) (fun _ => ?_)
      refine d_guard 26 rfl rfl (by kernel_rfl) (by kernel_rfl) (by kernel_rfl) rfl rfl (v := .c .top) (nc rfl) (nc rfl) (fun _ => ?_)
      refine d_guard 27 rfl rfl (by kernel_rfl) (by kernel_rfl) (by kernel_rfl) rfl rfl (v := .c .top) (nc rfl) (nc rfl) (fun _ => ?_)
      refine d_guard 28 rfl rfl (by kernel_rfl) (by kernel_rfl) (by kernel_rfl) rfl rfl (v := .c .top) (nc rfl) (nc rfl) (fun _ => ?_)
      refine d_skip 29 rfl rfl (by kernel_rfl) (by kernel_rfl) (by kernel_rfl) rfl rfl ?_
      refine d_skip 30 rfl rfl (by kernel_rfl) (by kernel_rfl) (by kernel_rfl) rfl rfl ?_
      refine d_skip 31 rfl rfl (by kernel_rfl) (by kernel_rfl) (by kernel_rfl) rfl rfl ?_
      refine d_skip 32 rfl rfl (by kernel_rfl) (by kernel_rfl) (by kernel_rfl) rfl rfl ?_
      refine d_guard 33 rfl rfl (by kernel_rfl) (by kernel_rfl) (by kernel_rfl) rfl rfl (v := .c .top) (nc rfl) (nc rfl) (fun _ => ?_)
      refine d_take 34 rfl rfl (by kernel_rfl) (by kernel_rfl) (by kernel_rfl) (p_pickT rfl rfl rfl) ?_
      refine d_end (by kernel_rfl) ?_
      refine t_cond rfl (fun _ => ?_) (nc rfl)
      refine t_seq ?_
      refine t_region ?_
      refine r_op (o_assign rfl rfl) ?_
      refine r_end ?_
      refine t_ret Tryz.func34 (.tmp rfl .nil) rfl fun E S w u hI hd => ?_
      refine post_mk hI hd ?_ trivial rfl rfl rfl <;> clear hI hd <;> (try clear ih0)
      all_goals (refine scB ?_; (rw [instOk_not (rs := rs) (l := l) (m := m) (by omega) (by (try (have qb := instStep_bad (rs := rs) (l := l) (m := m) hz3 (by assumption))); (try (have qz := instStep_zero (rs := rs) (l := l) (m := m) hz3 (by omega))); (try (have qp := instStep_pos (rs := rs) (l := l) (m := m) hz3 (by omega) (by assumption) (by simp only [IntKind.wrap_i64]; omega))); (try (have qS := srcA_at (rs := rs) (r := z2.1) (ts := z2.2) (by assumption))); (try (have qT := srcA_at (rs := rs) (r := z2.1) (ts := z2.2) (by assumption))); clear hl gl ho hrs; grind)]; done))
  ·
    have h1' := of_decide_eq_false h1
    refine t_exit rfl ?_
    refine t_seq ?_
    refine t_region ?_
    refine r_op (o_fieldb rfl (off := 0) (by kernel_rfl) rfl) ?_
    refine r_op (o_load1b rfl (by kernel_rfl) rfl rfl rfl) ?_
    refine r_op (o_call 1 1 false (Go.Proofs.enters_of Tryz.func76 (by kernel_rfl) rfl) (c_spec_AreValidRelations (rs) (by omega)) rfl (.cons rfl (.c .t0) .nil) rfl rfl rfl) ?_
    refine r_op (o_move rfl rfl) ?_
    refine r_guard rfl rfl rfl (fun g21 => ?_) (fun g21 => ?_)
    ·
      have g21' := g21
      refine r_op (o_fieldb rfl (off := 1) (by kernel_rfl) rfl) ?_
      refine r_guard rfl rfl rfl (fun _ => ?_) (nc g21)
      refine r_op (o_load1b rfl (by kernel_rfl) rfl rfl rfl) ?_
      refine r_guard rfl rfl rfl (fun _ => ?_) (nc g21)
      refine r_op (o_len rfl rfl rfl) ?_
      refine r_guard rfl rfl rfl (fun _ => ?_) (nc g21)
      refine r_op (o_bin rfl rfl rfl rfl) ?_
      refine r_op (o_pickT rfl rfl g21 rfl) ?_
      refine r_op (o_assign rfl rfl) ?_
      refine r_end ?_
      refine t_ret Tryz.func34 (.tmp rfl .nil) rfl fun E S w u hI hd => ?_
      refine post_mk hI hd ?_ trivial rfl rfl rfl <;> clear hI hd <;> (try clear ih0)
      all_goals (refine scB ?_; (rw [instOk_end (m := m) i2 (by omega)]; clear hl gl ho hrs; grind))
    ·
      have g21' := g21
      refine r_guard rfl rfl rfl (ncf g21) (fun _ => ?_)
      refine r_guard rfl rfl rfl (ncf g21) (fun _ => ?_)
      refine r_guard rfl rfl rfl (ncf g21) (fun _ => ?_)
      refine r_op (o_pickF rfl rfl g21 rfl) ?_
      refine r_op (o_assign rfl rfl) ?_
      refine r_end ?_
      refine t_ret Tryz.func34 (.tmp rfl .nil) rfl fun E S w u hI hd => ?_
      refine post_mk hI hd ?_ trivial rfl rfl rfl <;> clear hI hd <;> (try clear ih0)
      all_goals (refine scB ?_; (rw [instOk_end (m := m) i2 (by omega)]; clear hl gl ho hrs; grind))
set_option maxHeartbeats 1000000 in
set_option maxRecDepth 10000 in
theorem c_spec_l11Ok (rs : Rels) (fs l : Atoms) (hrs : rs.length ≤ 4611686018427387904) (hfs : szS (fun (x : Int × (List (Int))) => (x.2).length) fs ≤ 1048576) (hll : szS (fun (x : Int × (List (Int))) => (x.2).length) l ≤ 1048576) (ho : ∀ z ∈ fs, ∀ x ∈ z.2, okI x) : Pu Tryz.prog 53 [.agg [.t none (.sl 3 (enS3 encS encI encB) (rs)), .t none (.sl 2 (enS2 encI (enSl 1 encI)) (fs))], .c (.t none (.sl 2 (enS2 encI (enSl 1 encI)) (l)))] [] 0 (.c (.t none (.v (.bool (mtOk rs fs l))))) := by
  refine pu_enter Tryz.func53 rfl (Nat.le_of_ble_eq_true rfl) fun w S => ?_
  have gl := sz_len (f := (fun (x : Int × (List (Int))) => (x.2).length)) (l := l)
  refine t_seq ?_
  refine t_region ?_
  refine r_op (o_box 0 rfl rfl rfl rfl) ?_
  refine r_op (o_assign rfl rfl) ?_
  refine r_end ?_
  refine t_seq ?_
  refine t_seq ?_
  refine t_region ?_
  refine r_op (o_assign rfl rfl) ?_
  refine r_end ?_
  refine t_block ?_
  refine t_loopL (fun m => ⟨[(1, some (.c (.t none (.sl 2 (enS2 encI (enSl 1 encI)) (l))))), (2, some (.c (.ptr 0 0))), (5, some (.c (.t none (.v (.int .i64 ((m : Int)))))))], [(0, some (.box [.t none (.sl 3 (enS3 encS encI encB) (rs)), .t none (.sl 2 (enS2 encI (enSl 1 encI)) (fs))]))], 1⟩ : Nat → St) (fun m => m ≤ l.length ∧ ∀ j z, j < m → l[j]? = some z → badA rs z = false) (fun m => l.length - m) 0 ⟨⟨rfl, ⟨rfl, ⟨rfl, trivial⟩⟩⟩, ⟨rfl, trivial⟩, rfl⟩ (by exact ⟨Nat.zero_le _, fun j z h => by omega⟩) ?_
  rintro m hI ih0
  try dsimp only at hI ih0
  obtain ⟨i1, i2⟩ := hI; have iA : l.length ≤ m → l.any (badA rs) = false := fun e => any_false i2 e
  refine t_seq ?_
  refine t_seq ?_
  refine t_region ?_
  refine r_op (o_move rfl rfl) ?_
  refine r_op (o_move rfl rfl) ?_
  refine r_op (o_len rfl rfl rfl) ?_
  refine r_op (o_bin rfl rfl rfl rfl) ?_
  refine r_end ?_
  refine t_cond rfl (fun h1 => ?_) (fun h1 => ?_)
  ·
    have h1' := of_decide_eq_true h1
    refine t_skip ?_
    refine t_seq ?_
    refine t_block ?_
    refine t_seq ?_
    refine t_draw (fun _ => true) (by kernel_rfl) ?_
    refine d_take 0 rfl rfl (by kernel_rfl) (by kernel_rfl) (by kernel_rfl) (p_fieldb (off := 0) (by kernel_rfl) rfl) ?_
    refine d_take 1 rfl rfl (by kernel_rfl) (by kernel_rfl) (by kernel_rfl) (p_load1b (by kernel_rfl) rfl rfl rfl) ?_
    refine d_take 2 rfl rfl (by kernel_rfl) (by kernel_rfl) (by kernel_rfl) (p_move rfl) ?_
    refine d_take 3 rfl rfl (by kernel_rfl) (by kernel_rfl) (by kernel_rfl) (p_move rfl) ?_
    obtain ⟨z2, hz3, b4⟩ := at_get (xs := l) (n := (m : Int)) (by omega) (by omega)
    refine d_take 4 rfl rfl (by kernel_rfl) (by kernel_rfl) (by kernel_rfl) (p_index (by kernel_rfl) rfl rfl b4 hz3) ?_
    refine d_take 5 rfl rfl (by kernel_rfl) (by kernel_rfl) (by kernel_rfl) (p_loadA (n := 2) (by kernel_rfl) (by kernel_rfl) rfl rfl) ?_
    refine d_only 6 rfl (by kernel_rfl) rfl (o_call 1 1 false (Go.Proofs.enters_of Tryz.func115 (by kernel_rfl) rfl) (c_spec_IsValidAtom (rs) (z2.1) (z2.2) (by omega) (by (have e1 := sz_at (f := (fun (x : Int × (List (Int))) => (x.2).length)) (l := l) (m := m) (by assumption); (try dsimp only at e1); omega))) rfl (.cons rfl (.c .t0) (.cons rfl (.agg (.cons .t0 (.cons .t0 .nil))) .nil)) rfl rfl rfl) ?_
    refine d_take 7 rfl rfl (by kernel_rfl) (by kernel_rfl) (by kernel_rfl) (p_not rfl) ?_
    refine d_end (by kernel_rfl) ?_
    refine t_cond rfl (fun h5 => ?_) (fun h5 => ?_)
    ·
      have h5' := (bnt h5)
      refine t_seq ?_
      refine t_region ?_
      refine r_op (o_assign rfl rfl) ?_
      refine r_end ?_
      refine t_ret Tryz.func53 (.tmp rfl .nil) rfl fun E S w u hI hd => ?_
      refine post_mk hI hd ?_ trivial rfl rfl rfl <;> clear hI hd <;> (try clear ih0)
      all_goals (refine scB ?_; (try (have qA := iA (by omega))); (try (have qB := any_true (p := badA rs) (l := l) (m := m) hz3 (by unfold badA; grind))); clear hrs hfs hll ho gl; unfold mtOk; grind)
    ·
      have h5' := (bnf h5)
      refine t_skip ?_
      refine t_endblock ?_
      refine t_region ?_
      refine r_op (o_move rfl rfl) ?_
      refine r_op (o_bin rfl rfl rfl rfl) ?_
      refine r_op (o_assign rfl rfl) ?_
      refine r_end ?_
      refine t_le ?_ (ih0 (m + 1) (by (try dsimp only); omega) (by (try dsimp only); exact ⟨by omega, no_step i2 (by assumption) rfl (by unfold badA; grind)⟩))
      exact ⟨⟨rfl, ⟨rfl, ⟨(eqI (wr64 (by omega) (by omega))), trivial⟩⟩⟩, ⟨rfl, trivial⟩, rfl⟩
  ·
    have h1' := of_decide_eq_false h1
    refine t_exit rfl ?_
    refine t_seq ?_
    refine t_region ?_
    refine r_op (o_loadAb rfl (n := 2) (by kernel_rfl) (by kernel_rfl) rfl rfl rfl) ?_
    refine r_op (o_call 1 1 false (Go.Proofs.enters_of Tryz.func34 (by kernel_rfl) rfl) (c_spec_IsValidInstance (rs) (fs) (by omega) (by omega) (by omega)) rfl (.cons rfl (.agg (.cons .t0 (.cons .t0 .nil))) .nil) rfl rfl rfl) ?_
    refine r_op (o_move rfl rfl) ?_
    refine r_guard rfl rfl rfl (fun g6 => ?_) (fun g6 => ?_)
    ·
      have g6' := g6
      refine r_op (o_move rfl rfl) ?_
      refine r_guard rfl rfl rfl (fun _ => ?_) (nc g6)
      refine r_op (o_len rfl rfl rfl) ?_
      refine r_guard rfl rfl rfl (fun _ => ?_) (nc g6)
      refine r_op (o_bin rfl rfl rfl rfl) ?_
      refine r_op (o_pickT rfl rfl g6 rfl) ?_
      refine r_op (o_assign rfl rfl) ?_
      refine r_end ?_
      refine t_ret Tryz.func53 (.tmp rfl .nil) rfl fun E S w u hI hd => ?_
      refine post_mk hI hd ?_ trivial rfl rfl rfl <;> clear hI hd <;> (try clear ih0)
      all_goals (refine scB ?_; (try (have qA := iA (by omega))); (try (have qB := any_true (p := badA rs) (l := l) (m := m) (by assumption) (by unfold badA; grind))); clear hrs hfs hll ho gl; unfold mtOk; grind)
    ·
      have g6' := g6
      refine r_guard rfl rfl rfl (ncf g6) (fun _ => ?_)
      refine r_guard rfl rfl rfl (ncf g6) (fun _ => ?_)
      refine r_op (o_pickF rfl rfl g6 rfl) ?_
      refine r_op (o_assign rfl rfl) ?_
      refine r_end ?_
      refine t_ret Tryz.func53 (.tmp rfl .nil) rfl fun E S w u hI hd => ?_
      refine post_mk hI hd ?_ trivial rfl rfl rfl <;> clear hI hd <;> (try clear ih0)
      all_goals (refine scB ?_; (try (have qA := iA (by omega))); (try (have qB := any_true (p := badA rs) (l := l) (m := m) (by assumption) (by unfold badA; grind))); clear hrs hfs hll ho gl; unfold mtOk; grind)
set_option maxHeartbeats 1000000 in
set_option maxRecDepth 10000 in
theorem c_spec_l11None  : Pu Tryz.prog 70 [] [] 0 (.c (.t none (.v (.int .i64 (10))))) := by
  refine pu_enter Tryz.func70 rfl (Nat.le_of_ble_eq_true rfl) fun w S => ?_
  refine t_seq ?_
  refine t_region ?_
  refine r_op (o_assign rfl rfl) ?_
  refine r_end ?_
  refine t_seq ?_
  refine t_region ?_
  refine r_op (o_assign rfl rfl) ?_
  refine r_end ?_
  refine t_ret Tryz.func70 (.tmp rfl .nil) rfl fun E S w u hI hd => ?_
  refine post_mk hI hd ?_ trivial rfl rfl rfl <;> clear hI hd
  all_goals (rfl)
set_option maxHeartbeats 1000000 in
set_option maxRecDepth 10000 in
theorem c_spec_l11Blank  : Pu Tryz.prog 55 [] [(0, some (.row none 3 true 1 encI (freeB)))] 1 (.c (.own 0)) := by
  refine pu_enter Tryz.func55 rfl (Nat.le_of_ble_eq_true rfl) fun w S => ?_
  refine t_seq ?_
  refine t_region ?_
  refine r_op (o_assign rfl rfl) ?_
  refine r_end ?_
  refine t_seq ?_
  refine t_region ?_
  refine r_op (o_lit0 0 (e := 3) (sz := 1) (zs := [.int .i64 (0)]) encI rfl rfl (by kernel_rfl) rfl) ?_
  refine r_op (o_assign rfl rfl) ?_
  refine r_end ?_
  refine t_seq ?_
  refine t_block ?_
  refine t_loopL (fun m => ⟨[(0, some (.c (.t none (.v (.slice none 0 0))))), (1, some (.c (.own 0)))], [(0, some (.row none 3 true 1 encI (List.replicate m 10)))], 1⟩ : Nat → St) (fun m => m ≤ 5) (fun m => 5 - m) 0 ⟨⟨rfl, ⟨rfl, trivial⟩⟩, ⟨rfl, trivial⟩, rfl⟩ (by omega) ?_
  rintro m hI ih0
  try dsimp only at hI ih0
  have i1 := hI; have rl : (List.replicate m (10 : Int)).length = m := List.length_replicate
  refine t_seq ?_
  refine t_seq ?_
  refine t_region ?_
  refine r_op (o_move rfl rfl) ?_
  refine r_op (o_leno rfl rfl rfl rfl) ?_
  refine r_op (o_bin rfl rfl rfl rfl) ?_
  refine r_end ?_
  refine t_cond rfl (fun h1 => ?_) (fun h1 => ?_)
  ·
    have h1' := of_decide_eq_true h1
    refine t_skip ?_
    refine t_block ?_
    refine t_region ?_
    refine r_op (o_move rfl rfl) ?_
    refine r_op (o_call 1 1 false (Go.Proofs.enters_of Tryz.func70 (by kernel_rfl) rfl) (c_spec_l11None ) rfl .nil rfl rfl rfl) ?_
    refine r_op (o_litS 1 (e := 3) (sz := 1) (zs := [.int .i64 (0)]) rfl rfl (by kernel_rfl) rfl rfl rfl rfl rfl) ?_
    refine r_op (o_append 0 (e := 3) (sz := 1) (by' := 8) (10) rfl (by kernel_rfl) rfl rfl rfl rfl rfl rfl (.cons .sc .nil) rfl (by omega) (by omega)) ?_
    refine r_op (o_assign rfl rfl) ?_
    refine r_end ?_
    refine t_endblock ?_
    refine t_le ?_ (ih0 (m + 1) (by (try dsimp only); omega) (by (try dsimp only); omega))
    exact ⟨⟨rfl, ⟨rfl, trivial⟩⟩, ⟨(eqR (List.replicate_succ').symm), trivial⟩, rfl⟩
  ·
    have h1' := of_decide_eq_false h1
    refine t_exit rfl ?_
    refine t_seq ?_
    refine t_region ?_
    refine r_op (o_move rfl rfl) ?_
    refine r_op (o_assign rfl rfl) ?_
    refine r_end ?_
    refine t_ret Tryz.func55 (.tmp rfl .nil) rfl fun E S w u hI hd => ?_
    refine post_mk hI hd ?_ ⟨eqR ?_, trivial⟩ rfl rfl rfl <;> clear hI hd <;> (try clear ih0)
    all_goals first | rfl | ((obtain rfl : m = 5 := by omega); rfl)
set_option maxHeartbeats 1000000 in
set_option maxRecDepth 10000 in
theorem c_spec_l11Fit (b : List Int) (r : Int) (ts : List Int) (r2 : Int) (vs : List Int) (hb : b.length = 5) (ha : ts.length ≤ 4611686018427387904) (ht : ∀ t ∈ ts, -10 ≤ t ∧ t ≤ 4) (hv : r = r2 → ts.length = vs.length) : Pu Tryz.prog 116 [.agg [.t none (.v (.int .i64 (r))), .t none (.sl 1 encI (ts))], .agg [.t none (.v (.int .i64 (r2))), .t none (.sl 1 encI (vs))], .c (.t none (.sl 1 encI (b)))] [(0, some (.row none 3 true 1 encI ((fitF (r, ts) (r2, vs) b).1)))] 1 (.tup [(false, [.own 0]), (false, [.t none (.v (.bool ((fitF (r, ts) (r2, vs) b).2)))])]) := by
  refine pu_enter Tryz.func116 rfl (Nat.le_of_ble_eq_true rfl) fun w S => ?_
  refine t_seq ?_
  refine t_region ?_
  refine r_op (o_box 0 rfl rfl rfl rfl) ?_
  refine r_op (o_box 1 rfl rfl rfl rfl) ?_
  refine r_op (o_assign rfl rfl) ?_
  refine r_op (o_assign rfl rfl) ?_
  refine r_end ?_
  refine t_seq ?_
  refine t_region ?_
  refine r_op (o_lit0 2 (e := 3) (sz := 1) (zs := [.int .i64 (0)]) encI rfl rfl (by kernel_rfl) rfl) ?_
  refine r_op (o_move rfl rfl) ?_
  refine r_op (o_appendS 2 (e := 3) (sz := 1) (by' := 8) rfl (by kernel_rfl) rfl rfl rfl rfl (fun _ _ => ⟨_, rfl⟩) (by (simp; omega)) (by (simp; omega))) ?_
  refine r_op (o_assign rfl rfl) ?_
  refine r_end ?_
  refine t_seq ?_
  refine t_seq ?_
  refine t_region ?_
  refine r_op (o_fieldb rfl (off := 0) (by kernel_rfl) rfl) ?_
  refine r_op (o_load1b rfl (by kernel_rfl) rfl rfl rfl) ?_
  refine r_op (o_fieldb rfl (off := 0) (by kernel_rfl) rfl) ?_
  refine r_op (o_load1b rfl (by kernel_rfl) rfl rfl rfl) ?_
  refine r_op (o_bin rfl rfl rfl rfl) ?_
  refine r_op (o_move rfl rfl) ?_
  refine r_guard rfl rfl rfl (fun g1 => ?_) (fun g1 => ?_)
  ·
    have g1' := of_decide_eq_false g1
    refine r_op (o_fieldb rfl (off := 1) (by kernel_rfl) rfl) ?_
    refine r_guard rfl rfl rfl (fun _ => ?_) (ncf g1)
    refine r_op (o_load1b rfl (by kernel_rfl) rfl rfl rfl) ?_
    refine r_guard rfl rfl rfl (fun _ => ?_) (ncf g1)
    refine r_op (o_len rfl rfl rfl) ?_
    refine r_guard rfl rfl rfl (fun _ => ?_) (ncf g1)
    refine r_op (o_fieldb rfl (off := 1) (by kernel_rfl) rfl) ?_
    refine r_guard rfl rfl rfl (fun _ => ?_) (ncf g1)
    refine r_op (o_load1b rfl (by kernel_rfl) rfl rfl rfl) ?_
    refine r_guard rfl rfl rfl (fun _ => ?_) (ncf g1)
    refine r_op (o_len rfl rfl rfl) ?_
    refine r_guard rfl rfl rfl (fun _ => ?_) (ncf g1)
    refine r_op (o_bin rfl rfl rfl rfl) ?_
    refine r_op (o_pickF rfl rfl g1 rfl) ?_
    refine r_end ?_
    refine t_cond rfl (fun h2 => ?_) (fun h2 => ?_)
    ·
      have h2' := of_decide_eq_true h2
      refine t_seq ?_
      refine t_region ?_
      refine r_op (o_move rfl rfl) ?_
      refine r_op (o_assign rfl rfl) ?_
      refine r_op (o_assign rfl rfl) ?_
      refine r_end ?_
      refine gt_as0b 6 2 7 rfl rfl rfl rfl ?_
      refine t_ret Tryz.func116 (.tmp rfl (.tmp rfl .nil)) rfl fun E S w u hI hd => ?_
      refine post_mk hI hd ?_ ⟨eqR ?_, trivial⟩ rfl rfl rfl <;> clear hI hd <;> (try clear ih0)
      all_goals ((exfalso; have e9 := hv (by omega); omega))
    ·
      have h2' := of_decide_eq_false h2
      refine t_skip ?_
      refine t_seq ?_
      refine t_seq ?_
      refine t_region ?_
      refine r_op (o_assign rfl rfl) ?_
      refine r_end ?_
      refine t_block ?_
      refine t_loopL (fun (m, q) => ⟨[(3, some (.c (.ptr 0 0))), (4, some (.c (.ptr 1 0))), (8, some (.c (.own 2))), (9, some (.c (.t none (.v (.int .i64 ((m : Int)))))))], [(0, some (.box [.t none (.v (.int .i64 (r))), .t none (.sl 1 encI (ts))])), (1, some (.box [.t none (.v (.int .i64 (r2))), .t none (.sl 1 encI (vs))])), (2, some (.row none 3 true 1 encI (q)))], 3⟩ : Nat × List Int → St) (fun (m, q) => m ≤ ts.length ∧ q.length = 5 ∧ fitP b ((ts.zip vs).take m) = (q, true)) (fun (m, q) => ts.length - m) (0, b) ⟨⟨rfl, ⟨rfl, ⟨rfl, ⟨rfl, trivial⟩⟩⟩⟩, ⟨rfl, ⟨rfl, ⟨(eqR rfl), trivial⟩⟩⟩, rfl⟩ (by exact ⟨Nat.zero_le _, hb, rfl⟩) ?_
      rintro ⟨m, q⟩ hI ih0
      try dsimp only at hI ih0
      obtain ⟨i1, i2, i3⟩ := hI
      refine t_seq ?_
      refine t_seq ?_
      refine t_region ?_
      refine r_op (o_move rfl rfl) ?_
      refine r_op (o_fieldb rfl (off := 1) (by kernel_rfl) rfl) ?_
      refine r_op (o_load1b rfl (by kernel_rfl) rfl rfl rfl) ?_
      refine r_op (o_len rfl rfl rfl) ?_
      refine r_op (o_bin rfl rfl rfl rfl) ?_
      refine r_end ?_
      refine t_cond rfl (fun h3 => ?_) (fun h3 => ?_)
      ·
        have h3' := of_decide_eq_true h3
        refine t_skip ?_
        refine t_seq ?_
        refine t_block ?_
        refine t_seq ?_
        refine t_region ?_
        refine r_op (o_fieldb rfl (off := 1) (by kernel_rfl) rfl) ?_
        refine r_op (o_load1b rfl (by kernel_rfl) rfl rfl rfl) ?_
        refine r_op (o_move rfl rfl) ?_
        obtain ⟨z4, hz5, b6⟩ := at_get (xs := ts) (n := (m : Int)) (by omega) (by omega)
        refine r_op (o_index rfl (by kernel_rfl) rfl rfl b6 hz5) ?_
        refine r_op (o_load1 rfl (by kernel_rfl) rfl rfl) ?_
        refine r_op (o_assign rfl rfl) ?_
        refine r_end ?_
        refine t_seq ?_
        refine t_seq ?_
        refine t_region ?_
        refine r_op (o_move rfl rfl) ?_
        refine r_op (o_bin rfl rfl rfl rfl) ?_
        refine r_end ?_
        refine t_cond rfl (fun h7 => ?_) (fun h7 => ?_)
        ·
          have h7' := of_decide_eq_true h7
          refine t_seq ?_
          refine t_seq ?_
          refine t_region ?_
          refine r_op (o_move rfl rfl) ?_
          refine r_op (o_bin rfl rfl rfl rfl) ?_
          refine r_op (o_fieldb rfl (off := 1) (by kernel_rfl) rfl) ?_
          refine r_op (o_load1b rfl (by kernel_rfl) rfl rfl rfl) ?_
          refine r_op (o_move rfl rfl) ?_
          obtain ⟨z8, hz9, b10⟩ := at_get (xs := vs) (n := (m : Int)) (by omega) (by omega)
          refine r_op (o_index rfl (by kernel_rfl) rfl rfl b10 hz9) ?_
          refine r_op (o_load1 rfl (by kernel_rfl) rfl rfl) ?_
          refine r_op (o_bin rfl rfl rfl rfl) ?_
          refine r_end ?_
          refine t_cond rfl (fun h11 => ?_) (fun h11 => ?_)
          ·
            have h11' := of_decide_eq_true h11
            refine t_seq ?_
            refine t_region ?_
            refine r_op (o_move rfl rfl) ?_
            refine r_op (o_assign rfl rfl) ?_
            refine r_op (o_assign rfl rfl) ?_
            refine r_end ?_
            refine gt_as0b 6 2 7 rfl rfl rfl rfl ?_
            refine t_ret Tryz.func116 (.tmp rfl (.tmp rfl .nil)) rfl fun E S w u hI hd => ?_
            refine post_mk hI hd ?_ ⟨eqR ?_, trivial⟩ rfl rfl rfl <;> clear hI hd <;> (try clear ih0)
            all_goals (first | (exfalso; have e9 := hv (by omega); omega) | (have e : fitF (r, ts) (r2, vs) b = _ := (by exact fitF_yes (by omega) (fit_bad i3 (zip_at hz5 hz9 rfl rfl) (fs_neg_bad (by omega) (by (have o1 := ht _ (List.mem_of_getElem? hz5); have o2 : IntKind.i64.wrap (-1 - z4) = -1 - z4 := wr64 (by omega) (by omega); omega)))))); (rw [e]; done))
          ·
            have h11' := of_decide_eq_false h11
            refine t_skip ?_
            refine t_exit rfl ?_
            refine t_region ?_
            refine r_op (o_move rfl rfl) ?_
            refine r_op (o_bin rfl rfl rfl rfl) ?_
            refine r_op (o_assign rfl rfl) ?_
            refine r_end ?_
            refine t_le ?_ (ih0 (m + 1, q) (by (try dsimp only); omega) (by (try dsimp only); exact ⟨by omega, (by exact i2), by (exact fit_more i3 (zip_at hz5 hz9 rfl rfl) (fs_neg (by omega) (by (have o1 := ht _ (List.mem_of_getElem? hz5); have o2 : IntKind.i64.wrap (-1 - z4) = -1 - z4 := wr64 (by omega) (by omega); omega))))⟩))
            exact ⟨⟨rfl, ⟨rfl, ⟨rfl, ⟨(eqI (wr64 (by omega) (by omega))), trivial⟩⟩⟩⟩, ⟨rfl, ⟨rfl, ⟨rfl, trivial⟩⟩⟩, rfl⟩
        ·
          have h7' := of_decide_eq_false h7
          refine t_skip ?_
          refine t_seq ?_
          refine t_seq ?_
          refine t_draw (fun _ => true) (by kernel_rfl) ?_
          refine d_take 0 rfl rfl (by kernel_rfl) (by kernel_rfl) (by kernel_rfl) (p_move rfl) ?_
          refine d_take 1 rfl rfl (by kernel_rfl) (by kernel_rfl) (by kernel_rfl) (p_move rfl) ?_
          obtain ⟨z12, hz13, b14⟩ := at_get (xs := q) (n := z4) (by omega) (by (have o1 := ht _ (List.mem_of_getElem? (by assumption)); omega))
          refine d_take 2 rfl rfl (by kernel_rfl) (by kernel_rfl) (by kernel_rfl) (p_indexo (by kernel_rfl) rfl rfl rfl b14 (at_lt b14 hz13)) ?_
          refine d_take 3 rfl rfl (by kernel_rfl) (by kernel_rfl) (by kernel_rfl) (p_load1o (by kernel_rfl) rfl rfl rfl hz13) ?_
          refine d_only 4 rfl (by kernel_rfl) rfl (o_call 3 3 false (Go.Proofs.enters_of Tryz.func70 (by kernel_rfl) rfl) (c_spec_l11None ) rfl .nil rfl rfl rfl) ?_
          refine d_take 5 rfl rfl (by kernel_rfl) (by kernel_rfl) (by kernel_rfl) (p_bin rfl rfl rfl) ?_
          refine d_take 6 rfl rfl (by kernel_rfl) (by kernel_rfl) (by kernel_rfl) (p_move rfl) ?_
          refine d_guard 7 rfl rfl (by kernel_rfl) (by kernel_rfl) (by kernel_rfl) rfl rfl (fun _ => p_move rfl) (fun g15 => ?_) (fun g15 => ?_)
          ·
            have g15' := of_decide_eq_true g15
            refine d_guard 8 rfl rfl (by kernel_rfl) (by kernel_rfl) (by kernel_rfl) rfl rfl (fun _ => p_move rfl) (fun _ => ?_) (nc g15)
            refine d_guard 9 rfl rfl (by kernel_rfl) (by kernel_rfl) (by kernel_rfl) rfl rfl (fun _ => p_indexo (by kernel_rfl) rfl rfl rfl b14 (at_lt b14 hz13)) (fun _ => ?_) (nc g15)
            refine d_guard 10 rfl rfl (by kernel_rfl) (by kernel_rfl) (by kernel_rfl) rfl rfl (fun _ => p_load1o (by kernel_rfl) rfl rfl rfl hz13) (fun _ => ?_) (nc g15)
            refine d_guard 11 rfl rfl (by kernel_rfl) (by kernel_rfl) (by kernel_rfl) rfl rfl (fun _ => p_fieldb (off := 1) (by kernel_rfl) rfl) (fun _ => ?_) (nc g15)
            refine d_guard 12 rfl rfl (by kernel_rfl) (by kernel_rfl) (by kernel_rfl) rfl rfl (fun _ => p_load1b (by kernel_rfl) rfl rfl rfl) (fun _ => ?_) (nc g15)
            refine d_guard 13 rfl rfl (by kernel_rfl) (by kernel_rfl) (by kernel_rfl) rfl rfl (fun _ => p_move rfl) (fun _ => ?_) (nc g15)
            obtain ⟨z16, hz17, b18⟩ := at_get (xs := vs) (n := (m : Int)) (by omega) (by omega)
            refine d_guard 14 rfl rfl (by kernel_rfl) (by kernel_rfl) (by kernel_rfl) rfl rfl (fun _ => p_index (by kernel_rfl) rfl rfl b18 hz17) (fun _ => ?_) (nc g15)
            refine d_guard 15 rfl rfl (by kernel_rfl) (by kernel_rfl) (by kernel_rfl) rfl rfl (fun _ => p_load1 (by kernel_rfl) rfl rfl) (fun _ => ?_) (nc g15)
            refine d_guard 16 rfl rfl (by kernel_rfl) (by kernel_rfl) (by kernel_rfl) rfl rfl (fun _ => p_bin rfl rfl rfl) (fun _ => ?_) (nc g15)
            refine d_take 17 rfl rfl (by kernel_rfl) (by kernel_rfl) (by kernel_rfl) (p_pickT rfl g15 rfl) ?_
            refine d_end (by kernel_rfl) ?_
            refine t_cond rfl (fun h19 => ?_) (fun h19 => ?_)
            ·
              have h19' := of_decide_eq_true h19
              refine t_seq ?_
              refine t_region ?_
              refine r_op (o_move rfl rfl) ?_
              refine r_op (o_assign rfl rfl) ?_
              refine r_op (o_assign rfl rfl) ?_
              refine r_end ?_
              refine gt_as0b 6 2 7 rfl rfl rfl rfl ?_
              refine t_ret Tryz.func116 (.tmp rfl (.tmp rfl .nil)) rfl fun E S w u hI hd => ?_
              refine post_mk hI hd ?_ ⟨eqR ?_, trivial⟩ rfl rfl rfl <;> clear hI hd <;> (try clear ih0)
              all_goals (first | (exfalso; have e9 := hv (by omega); omega) | (have e : fitF (r, ts) (r2, vs) b = _ := (by exact fitF_yes (by omega) (fit_bad i3 (zip_at hz5 hz17 rfl rfl) (fs_bad (by omega) hz13 (by omega) (by omega))))); (rw [e]; done))
            ·
              have h19' := of_decide_eq_false h19
              refine t_skip ?_
              refine t_region ?_
              refine r_op (o_move rfl rfl) ?_
              refine r_op (o_move rfl rfl) ?_
              refine r_op (o_fieldb rfl (off := 1) (by kernel_rfl) rfl) ?_
              refine r_op (o_load1b rfl (by kernel_rfl) rfl rfl rfl) ?_
              refine r_op (o_move rfl rfl) ?_
              refine r_op (o_index rfl (by kernel_rfl) rfl rfl b18 hz17) ?_
              refine r_op (o_load1 rfl (by kernel_rfl) rfl rfl) ?_
              refine r_op (o_indexo rfl (by kernel_rfl) rfl rfl rfl b14 (at_lt b14 hz13)) ?_
              refine r_op (o_storeo (z16) (n := 1) (by kernel_rfl) rfl rfl hz13 rfl rfl rfl rfl (.cons .sc .nil) rfl (fun j h1 h2 => by simp at h1 h2; omega)) ?_
              refine r_end ?_
              refine t_endblock ?_
              refine t_region ?_
              refine r_op (o_move rfl rfl) ?_
              refine r_op (o_bin rfl rfl rfl rfl) ?_
              refine r_op (o_assign rfl rfl) ?_
              refine r_end ?_
              refine t_le ?_ (ih0 (m + 1, (q).set (z4).toNat (z16)) (by (try dsimp only); omega) (by (try dsimp only); exact ⟨by omega, (by (rw [List.length_set]; exact i2)), by (exact fit_more i3 (zip_at hz5 hz17 rfl rfl) (fs_set (by omega) hz13 (by omega)))⟩))
              exact ⟨⟨rfl, ⟨rfl, ⟨rfl, ⟨(eqI (wr64 (by omega) (by omega))), trivial⟩⟩⟩⟩, ⟨rfl, ⟨rfl, ⟨rfl, trivial⟩⟩⟩, rfl⟩
          ·
            have g15' := of_decide_eq_false g15
            refine d_guard 8 rfl rfl (by kernel_rfl) (by kernel_rfl) (by kernel_rfl) rfl rfl (v := .c .top) (ncf g15) (ncf g15) (fun _ => ?_)
            refine d_guard 9 rfl rfl (by kernel_rfl) (by kernel_rfl) (by kernel_rfl) rfl rfl (v := .c .top) (ncf g15) (ncf g15) (fun _ => ?_)
            refine d_guard 10 rfl rfl (by kernel_rfl) (by kernel_rfl) (by kernel_rfl) rfl rfl (v := .c .top) (ncf g15) (ncf g15) (fun _ => ?_)
            refine d_guard 11 rfl rfl (by kernel_rfl) (by kernel_rfl) (by kernel_rfl) rfl rfl (v := .c .top) (ncf g15) (ncf g15) (fun _ => ?_)
            refine d_guard 12 rfl rfl (by kernel_rfl) (by kernel_rfl) (by kernel_rfl) rfl rfl (v := .c .top) (ncf g15) (ncf g15) (fun _ => ?_)
            refine d_guard 13 rfl rfl (by kernel_rfl) (by kernel_rfl) (by kernel_rfl) rfl rfl (v := .c .top) (ncf g15) (ncf g15) (fun _ => ?_)
            refine d_guard 14 rfl rfl (by kernel_rfl) (by kernel_rfl) (by kernel_rfl) rfl rfl (v := .c .top) (ncf g15) (ncf g15) (fun _ => ?_)
            refine d_guard 15 rfl rfl (by kernel_rfl) (by kernel_rfl) (by kernel_rfl) rfl rfl (v := .c .top) (ncf g15) (ncf g15) (fun _ => ?_)
            refine d_guard 16 rfl rfl (by kernel_rfl) (by kernel_rfl) (by kernel_rfl) rfl rfl (v := .c .top) (ncf g15) (ncf g15) (fun _ => ?_)
            refine d_take 17 rfl rfl (by kernel_rfl) (by kernel_rfl) (by kernel_rfl) (p_pickF rfl g15 rfl) ?_
            refine d_end (by kernel_rfl) ?_
            refine t_cond rfl (ncf rfl) (fun _ => ?_)
            refine t_skip ?_
            refine t_region ?_
            refine r_op (o_move rfl rfl) ?_
            refine r_op (o_move rfl rfl) ?_
            refine r_op (o_fieldb rfl (off := 1) (by kernel_rfl) rfl) ?_
            refine r_op (o_load1b rfl (by kernel_rfl) rfl rfl rfl) ?_
            refine r_op (o_move rfl rfl) ?_
            obtain ⟨z20, hz21, b22⟩ := at_get (xs := vs) (n := (m : Int)) (by omega) (by omega)
            refine r_op (o_index rfl (by kernel_rfl) rfl rfl b22 hz21) ?_
            refine r_op (o_load1 rfl (by kernel_rfl) rfl rfl) ?_
            refine r_op (o_indexo rfl (by kernel_rfl) rfl rfl rfl b14 (at_lt b14 hz13)) ?_
            refine r_op (o_storeo (z20) (n := 1) (by kernel_rfl) rfl rfl hz13 rfl rfl rfl rfl (.cons .sc .nil) rfl (fun j h1 h2 => by simp at h1 h2; omega)) ?_
            refine r_end ?_
            refine t_endblock ?_
            refine t_region ?_
            refine r_op (o_move rfl rfl) ?_
            refine r_op (o_bin rfl rfl rfl rfl) ?_
            refine r_op (o_assign rfl rfl) ?_
            refine r_end ?_
            refine t_le ?_ (ih0 (m + 1, (q).set (z4).toNat (z20)) (by (try dsimp only); omega) (by (try dsimp only); exact ⟨by omega, (by (rw [List.length_set]; exact i2)), by (exact fit_more i3 (zip_at hz5 hz21 rfl rfl) (fs_set (by omega) hz13 (by omega)))⟩))
            exact ⟨⟨rfl, ⟨rfl, ⟨rfl, ⟨(eqI (wr64 (by omega) (by omega))), trivial⟩⟩⟩⟩, ⟨rfl, ⟨rfl, ⟨rfl, trivial⟩⟩⟩, rfl⟩
      ·
        have h3' := of_decide_eq_false h3
        refine t_exit rfl ?_
        refine t_seq ?_
        refine t_region ?_
        refine r_op (o_move rfl rfl) ?_
        refine r_op (o_assign rfl rfl) ?_
        refine r_op (o_assign rfl rfl) ?_
        refine r_end ?_
        refine gt_as0b 6 2 7 rfl rfl rfl rfl ?_
        refine t_ret Tryz.func116 (.tmp rfl (.tmp rfl .nil)) rfl fun E S w u hI hd => ?_
        refine post_mk hI hd ?_ ⟨eqR ?_, trivial⟩ rfl rfl rfl <;> clear hI hd <;> (try clear ih0)
        all_goals (first | (exfalso; have e9 := hv (by omega); omega) | (have e : fitF (r, ts) (r2, vs) b = _ := (by exact fitF_yes (by omega) (fit_end i3 (by omega)))); (rw [e]; done))
  ·
    have g1' := of_decide_eq_true g1
    refine r_guard rfl rfl rfl (nc g1) (fun _ => ?_)
    refine r_guard rfl rfl rfl (nc g1) (fun _ => ?_)
    refine r_guard rfl rfl rfl (nc g1) (fun _ => ?_)
    refine r_guard rfl rfl rfl (nc g1) (fun _ => ?_)
    refine r_guard rfl rfl rfl (nc g1) (fun _ => ?_)
    refine r_guard rfl rfl rfl (nc g1) (fun _ => ?_)
    refine r_op (o_pickT rfl rfl g1 rfl) ?_
    refine r_end ?_
    refine t_cond rfl (fun _ => ?_) (nc rfl)
    refine t_seq ?_
    refine t_region ?_
    refine r_op (o_move rfl rfl) ?_
    refine r_op (o_assign rfl rfl) ?_
    refine r_op (o_assign rfl rfl) ?_
    refine r_end ?_
    refine gt_as0b 6 2 7 rfl rfl rfl rfl ?_
    refine t_ret Tryz.func116 (.tmp rfl (.tmp rfl .nil)) rfl fun E S w u hI hd => ?_
    refine post_mk hI hd ?_ ⟨eqR ?_, trivial⟩ rfl rfl rfl <;> clear hI hd <;> (try clear ih0)
    all_goals (first | (exfalso; have e9 := hv (by omega); omega) | (have e : fitF (r, ts) (r2, vs) b = _ := (by exact fitF_no (by omega))); first | (rw [e]; done) | (rw [e]; rfl))
set_option maxHeartbeats 1000000 in
set_option maxRecDepth 10000 in
theorem c_spec_l11Walk_n : ∀ (n : Nat) (rs : Rels) (fs l : Atoms) (k : Int) (b : List Int) (hf : fs.length ≤ 30) (hl : l.length ≤ 3) (hb : b.length = 5) (hv : ∀ a ∈ l, ∀ f ∈ fs, a.1 = f.1 → a.2.length = f.2.length) (ht : ∀ a ∈ l, (∀ t ∈ a.2, -10 ≤ t ∧ t ≤ 4) ∧ a.2.length ≤ 4611686018427387904) (hk : 0 ≤ k ∧ k ≤ l.length) (hn : l.length - k.toNat = n), Pu Tryz.prog 54 [.agg [.t none (.sl 3 (enS3 encS encI encB) (rs)), .t none (.sl 2 (enS2 encI (enSl 1 encI)) (fs))], .c (.t none (.sl 2 (enS2 encI (enSl 1 encI)) (l))), .c (.t none (.v (.int .i64 (k)))), .c (.t none (.sl 1 encI (b)))] [(0, some (.row none 34 true 1 (enSl 1 encI) (matchL fs (l.drop k.toNat) b)))] 1 (.c (.own 0)) := by
  refine rec_on fun n ih => ?_
  intro rs fs l k b hf hl hb hv ht hk hn
  have rec_ : ∀ (rs : Rels) (fs l : Atoms) (k : Int) (b : List Int) (hdec : l.length - k.toNat < n) (hf : fs.length ≤ 30) (hl : l.length ≤ 3) (hb : b.length = 5) (hv : ∀ a ∈ l, ∀ f ∈ fs, a.1 = f.1 → a.2.length = f.2.length) (ht : ∀ a ∈ l, (∀ t ∈ a.2, -10 ≤ t ∧ t ≤ 4) ∧ a.2.length ≤ 4611686018427387904) (hk : 0 ≤ k ∧ k ≤ l.length), Pu Tryz.prog 54 [.agg [.t none (.sl 3 (enS3 encS encI encB) (rs)), .t none (.sl 2 (enS2 encI (enSl 1 encI)) (fs))], .c (.t none (.sl 2 (enS2 encI (enSl 1 encI)) (l))), .c (.t none (.v (.int .i64 (k)))), .c (.t none (.sl 1 encI (b)))] [(0, some (.row none 34 true 1 (enSl 1 encI) (matchL fs (l.drop k.toNat) b)))] 1 (.c (.own 0)) := fun rs fs l k b hdec hf hl hb hv ht hk => ih _ hdec rs fs l k b hf hl hb hv ht hk rfl
  refine pu_enter Tryz.func54 rfl (Nat.le_of_ble_eq_true rfl) fun w S => ?_
  refine t_seq ?_
  refine t_region ?_
  refine r_op (o_box 0 rfl rfl rfl rfl) ?_
  refine r_op (o_assign rfl rfl) ?_
  refine r_end ?_
  refine t_seq ?_
  refine t_seq ?_
  refine t_region ?_
  refine r_op (o_move rfl rfl) ?_
  refine r_op (o_move rfl rfl) ?_
  refine r_op (o_len rfl rfl rfl) ?_
  refine r_op (o_bin rfl rfl rfl rfl) ?_
  refine r_end ?_
  refine t_cond rfl (fun h1 => ?_) (fun h1 => ?_)
  ·
    have h1' := of_decide_eq_true h1
    refine t_seq ?_
    refine t_region ?_
    refine r_op (o_lit0 1 (e := 3) (sz := 1) (zs := [.int .i64 (0)]) encI rfl rfl (by kernel_rfl) rfl) ?_
    refine r_op (o_move rfl rfl) ?_
    refine r_op (o_appendS 1 (e := 3) (sz := 1) (by' := 8) rfl (by kernel_rfl) rfl rfl rfl rfl (fun _ _ => ⟨_, rfl⟩) (by (simp; omega)) (by (simp; omega))) ?_
    refine r_op (o_lit2 2 (e := 34) (sz := 1) (zs := [.slice none 0 0]) (enc := (enSl 1 encI)) (([]) ++ b) rfl rfl (by kernel_rfl) rfl rfl rfl rfl rfl rfl (.take (.own rfl) rfl .nil) rfl) ?_
    refine r_op (o_assign rfl rfl) ?_
    refine r_end ?_
    refine gt_as0 8 2 rfl rfl ?_
    refine t_ret Tryz.func54 (.tmp rfl .nil) rfl fun E S w u hI hd => ?_
    refine post_mk hI hd ?_ ⟨eqR ?_, trivial⟩ rfl rfl rfl <;> clear hI hd <;> (try clear ih0)
    all_goals first | rfl | ((exact (walk_nil (by assumption)).symm))
  ·
    have h1' := of_decide_eq_false h1
    refine t_skip ?_
    refine t_seq ?_
    refine t_region ?_
    refine r_op (o_lit0 1 (e := 34) (sz := 1) (zs := [.slice none 0 0]) (enSl 1 encI) rfl rfl (by kernel_rfl) rfl) ?_
    refine r_op (o_assign rfl rfl) ?_
    refine r_end ?_
    refine t_seq ?_
    refine t_seq ?_
    refine t_region ?_
    refine r_op (o_assign rfl rfl) ?_
    refine r_end ?_
    refine t_block ?_
    refine t_loopL (fun m => ⟨[(1, some (.c (.t none (.sl 2 (enS2 encI (enSl 1 encI)) (l))))), (2, some (.c (.t none (.v (.int .i64 (k)))))), (3, some (.c (.t none (.sl 1 encI (b))))), (4, some (.c (.ptr 0 0))), (8, some (.c (.t none (.v (.slice none 0 0))))), (9, some (.c (.own 1))), (10, some (.c (.t none (.v (.int .i64 ((m : Int)))))))], [(0, some (.box [.t none (.sl 3 (enS3 encS encI encB) (rs)), .t none (.sl 2 (enS2 encI (enSl 1 encI)) (fs))])), (1, some (.row none 34 true 1 (enSl 1 encI) (matchM fs (l.drop k.toNat) b m)))], 2⟩ : Nat → St) (fun m => m ≤ fs.length) (fun m => fs.length - m) 0 ⟨⟨rfl, ⟨rfl, ⟨rfl, ⟨rfl, ⟨rfl, ⟨rfl, ⟨rfl, trivial⟩⟩⟩⟩⟩⟩⟩, ⟨rfl, ⟨(eqR (walk_z (by assumption) hk).symm), trivial⟩⟩, rfl⟩ (by exact Nat.zero_le _) ?_
    rintro m hI ih0
    try dsimp only at hI ih0
    have i1 := hI
    refine t_seq ?_
    refine t_seq ?_
    refine t_region ?_
    refine r_op (o_move rfl rfl) ?_
    refine r_op (o_fieldb rfl (off := 1) (by kernel_rfl) rfl) ?_
    refine r_op (o_load1b rfl (by kernel_rfl) rfl rfl rfl) ?_
    refine r_op (o_len rfl rfl rfl) ?_
    refine r_op (o_bin rfl rfl rfl rfl) ?_
    refine r_end ?_
    refine t_cond rfl (fun h2 => ?_) (fun h2 => ?_)
    ·
      have h2' := of_decide_eq_true h2
      refine t_skip ?_
      refine t_seq ?_
      refine t_block ?_
      refine t_seq ?_
      refine t_draw (fun _ => true) (by kernel_rfl) ?_
      refine d_take 0 rfl rfl (by kernel_rfl) (by kernel_rfl) (by kernel_rfl) (p_move rfl) ?_
      refine d_take 1 rfl rfl (by kernel_rfl) (by kernel_rfl) (by kernel_rfl) (p_move rfl) ?_
      obtain ⟨z3, hz4, b5⟩ := at_get (xs := l) (n := k) (by omega) (by omega)
      refine d_take 2 rfl rfl (by kernel_rfl) (by kernel_rfl) (by kernel_rfl) (p_index (by kernel_rfl) rfl rfl b5 hz4) ?_
      refine d_take 3 rfl rfl (by kernel_rfl) (by kernel_rfl) (by kernel_rfl) (p_loadA (n := 2) (by kernel_rfl) (by kernel_rfl) rfl rfl) ?_
      refine d_take 4 rfl rfl (by kernel_rfl) (by kernel_rfl) (by kernel_rfl) (p_fieldb (off := 1) (by kernel_rfl) rfl) ?_
      refine d_take 5 rfl rfl (by kernel_rfl) (by kernel_rfl) (by kernel_rfl) (p_load1b (by kernel_rfl) rfl rfl rfl) ?_
      refine d_take 6 rfl rfl (by kernel_rfl) (by kernel_rfl) (by kernel_rfl) (p_move rfl) ?_
      obtain ⟨z6, hz7, b8⟩ := at_get (xs := fs) (n := (m : Int)) (by omega) (by omega)
      refine d_take 7 rfl rfl (by kernel_rfl) (by kernel_rfl) (by kernel_rfl) (p_index (by kernel_rfl) rfl rfl b8 hz7) ?_
      refine d_take 8 rfl rfl (by kernel_rfl) (by kernel_rfl) (by kernel_rfl) (p_loadA (n := 2) (by kernel_rfl) (by kernel_rfl) rfl rfl) ?_
      refine d_take 9 rfl rfl (by kernel_rfl) (by kernel_rfl) (by kernel_rfl) (p_move rfl) ?_
      refine d_only 10 rfl (by kernel_rfl) rfl (o_call 2 3 false (Go.Proofs.enters_of Tryz.func116 (by kernel_rfl) rfl) (c_spec_l11Fit (b) (z3.1) (z3.2) (z6.1) (z6.2) (by omega) (by exact (ht _ (List.mem_of_getElem? (by assumption))).2) (by exact (ht _ (List.mem_of_getElem? (by assumption))).1) (by exact hv _ (List.mem_of_getElem? (by assumption)) _ (List.mem_of_getElem? (by assumption)))) rfl (.cons rfl (.agg (.cons .t0 (.cons .t0 .nil))) (.cons rfl (.agg (.cons .t0 (.cons .t0 .nil))) (.cons rfl (.c .t0) .nil))) rfl rfl rfl) ?_
      refine d_take 11 rfl rfl (by kernel_rfl) (by kernel_rfl) (by kernel_rfl) (p_move rfl) ?_
      refine d_take 12 rfl rfl (by kernel_rfl) (by kernel_rfl) (by kernel_rfl) (p_extract rfl rfl rfl) ?_
      refine d_take 13 rfl rfl (by kernel_rfl) (by kernel_rfl) (by kernel_rfl) (p_extract rfl rfl rfl) ?_
      refine d_take 14 rfl rfl (by kernel_rfl) (by kernel_rfl) (by kernel_rfl) (p_assign rfl) ?_
      refine d_take 15 rfl rfl (by kernel_rfl) (by kernel_rfl) (by kernel_rfl) (p_assign rfl) ?_
      refine d_end (by kernel_rfl) ?_
      refine t_seq ?_
      refine t_region ?_
      refine r_op (o_move rfl rfl) ?_
      refine r_end ?_
      refine t_cond rfl (fun h9 => ?_) (fun h9 => ?_)
      ·
        have h9' := h9
        refine t_region ?_
        refine r_op (o_move rfl rfl) ?_
        refine r_op (o_loadAb rfl (n := 2) (by kernel_rfl) (by kernel_rfl) rfl rfl rfl) ?_
        refine r_op (o_move rfl rfl) ?_
        refine r_op (o_move rfl rfl) ?_
        refine r_op (o_bin rfl rfl rfl rfl) ?_
        refine r_op (o_move rfl rfl) ?_
        refine r_op (o_call 3 4 false (Go.Proofs.enters_of Tryz.func54 (by kernel_rfl) rfl) (rec_ (rs) (fs) (l) (IntKind.i64.wrap (k + 1)) ((fitF ((z3.1), (z3.2)) ((z6.1), (z6.2)) (b)).1) (by (rw [wr64 (by omega) (by omega)]; omega)) (by omega) (by omega) (by exact (fitF_len _ _ _).trans hb) (by omega) (by omega) (by (rw [wr64 (by omega) (by omega)]; omega))) rfl (.cons rfl (.agg (.cons .t0 (.cons .t0 .nil))) (.cons rfl (.c .t0) (.cons rfl (.c .t0) (.cons rfl (.c (.own rfl)) .nil)))) rfl rfl rfl) ?_
        refine r_op (o_appendD 1 (e := 34) (sz := 1) (by' := 24) rfl (by kernel_rfl) rfl rfl rfl rfl rfl rfl (by (refine Nat.le_trans (Nat.mul_le_mul_right _ (room_w hf hl (by assumption) hk (by simp only [List.length_drop]; omega))) (by decide))) (by exact Nat.le_trans (room_w hf hl (by assumption) hk (by simp only [List.length_drop]; omega)) (by decide))) ?_
        refine r_op (o_assign rfl rfl) ?_
        refine r_end ?_
        refine t_endblock ?_
        refine t_region ?_
        refine r_op (o_move rfl rfl) ?_
        refine r_op (o_bin rfl rfl rfl rfl) ?_
        refine r_op (o_assign rfl rfl) ?_
        refine r_end ?_
        refine t_le ?_ (ih0 (m + 1) (by (try dsimp only); omega) (by (try dsimp only); omega))
        exact ⟨⟨rfl, ⟨rfl, ⟨rfl, ⟨rfl, ⟨rfl, ⟨rfl, ⟨(eqI (wr64 (by omega) (by omega))), trivial⟩⟩⟩⟩⟩⟩⟩, ⟨rfl, ⟨(eqR (by exact walk_yes hz4 hz7 rfl (by assumption) (by rw [wr64 (by omega) (by omega)]; omega) rfl)), trivial⟩⟩, rfl⟩
      ·
        have h9' := h9
        refine t_skip ?_
        refine t_endblock ?_
        refine t_region ?_
        refine r_op (o_move rfl rfl) ?_
        refine r_op (o_bin rfl rfl rfl rfl) ?_
        refine r_op (o_assign rfl rfl) ?_
        refine r_end ?_
        refine t_le ?_ (ih0 (m + 1) (by (try dsimp only); omega) (by (try dsimp only); omega))
        exact ⟨⟨rfl, ⟨rfl, ⟨rfl, ⟨rfl, ⟨rfl, ⟨rfl, ⟨(eqI (wr64 (by omega) (by omega))), trivial⟩⟩⟩⟩⟩⟩⟩, ⟨rfl, ⟨(eqR (by exact walk_no hz4 hz7 rfl (by assumption))), trivial⟩⟩, rfl⟩
    ·
      have h2' := of_decide_eq_false h2
      refine t_exit rfl ?_
      refine t_seq ?_
      refine t_region ?_
      refine r_op (o_move rfl rfl) ?_
      refine r_op (o_assign rfl rfl) ?_
      refine r_end ?_
      refine gt_as0 8 1 rfl rfl ?_
      refine t_ret Tryz.func54 (.tmp rfl .nil) rfl fun E S w u hI hd => ?_
      refine post_mk hI hd ?_ ⟨eqR ?_, trivial⟩ rfl rfl rfl <;> clear hI hd <;> (try clear ih0)
      all_goals first | rfl | ((exact matchM_end (drop_ne (by assumption) hk) (by omega)))
theorem c_spec_l11Walk (rs : Rels) (fs l : Atoms) (k : Int) (b : List Int) (hf : fs.length ≤ 30) (hl : l.length ≤ 3) (hb : b.length = 5) (hv : ∀ a ∈ l, ∀ f ∈ fs, a.1 = f.1 → a.2.length = f.2.length) (ht : ∀ a ∈ l, (∀ t ∈ a.2, -10 ≤ t ∧ t ≤ 4) ∧ a.2.length ≤ 4611686018427387904) (hk : 0 ≤ k ∧ k ≤ l.length) : Pu Tryz.prog 54 [.agg [.t none (.sl 3 (enS3 encS encI encB) (rs)), .t none (.sl 2 (enS2 encI (enSl 1 encI)) (fs))], .c (.t none (.sl 2 (enS2 encI (enSl 1 encI)) (l))), .c (.t none (.v (.int .i64 (k)))), .c (.t none (.sl 1 encI (b)))] [(0, some (.row none 34 true 1 (enSl 1 encI) (matchL fs (l.drop k.toNat) b)))] 1 (.c (.own 0)) := c_spec_l11Walk_n _ rs fs l k b hf hl hb hv ht hk rfl
set_option maxHeartbeats 1000000 in
set_option maxRecDepth 10000 in
theorem c_spec_FindMatches (rs : Rels) (fs l : Atoms) (hrs : rs.length ≤ 4611686018427387904) (hfs : szS (fun (x : Int × (List (Int))) => (x.2).length) fs ≤ 1048576) (hll : szS (fun (x : Int × (List (Int))) => (x.2).length) l ≤ 1048576) (ho : ∀ z ∈ fs, ∀ x ∈ z.2, okI x) : Pu Tryz.prog 11 [.agg [.t none (.sl 3 (enS3 encS encI encB) (rs)), .t none (.sl 2 (enS2 encI (enSl 1 encI)) (fs))], .c (.t none (.sl 2 (enS2 encI (enSl 1 encI)) (l)))] [(1, some (.row none 34 true 1 (enSl 1 encI) (findL rs fs l)))] 2 (.c (.own 1)) := by
  refine pu_enter Tryz.func11 rfl (Nat.le_of_ble_eq_true rfl) fun w S => ?_
  refine t_seq ?_
  refine t_region ?_
  refine r_op (o_box 0 rfl rfl rfl rfl) ?_
  refine r_op (o_assign rfl rfl) ?_
  refine r_end ?_
  refine t_seq ?_
  refine t_region ?_
  refine r_op (o_lit0 1 (e := 34) (sz := 1) (zs := [.slice none 0 0]) (enSl 1 encI) rfl rfl (by kernel_rfl) rfl) ?_
  refine r_op (o_assign rfl rfl) ?_
  refine r_end ?_
  refine t_seq ?_
  refine t_seq ?_
  refine t_region ?_
  refine r_op (o_loadAb rfl (n := 2) (by kernel_rfl) (by kernel_rfl) rfl rfl rfl) ?_
  refine r_op (o_move rfl rfl) ?_
  refine r_op (o_call 2 2 false (Go.Proofs.enters_of Tryz.func53 (by kernel_rfl) rfl) (c_spec_l11Ok (rs) (fs) (l) (by omega) (by omega) (by omega) (by omega)) rfl (.cons rfl (.agg (.cons .t0 (.cons .t0 .nil))) (.cons rfl (.c .t0) .nil)) rfl rfl rfl) ?_
  refine r_op (o_not rfl rfl) ?_
  refine r_end ?_
  refine t_cond rfl (fun h1 => ?_) (fun h1 => ?_)
  ·
    have h1' := (bnt h1)
    refine t_seq ?_
    refine t_region ?_
    refine r_op (o_move rfl rfl) ?_
    refine r_op (o_assign rfl rfl) ?_
    refine r_end ?_
    refine t_ret Tryz.func11 (.tmp rfl .nil) rfl fun E S w u hI hd => ?_
    refine post_mk hI hd ?_ ⟨eqR ?_, trivial⟩ rfl rfl rfl <;> clear hI hd <;> (try clear ih0) <;> (try clear ih1)
    all_goals first | rfl | ((exact findL_no (by simp_all; done)))
  ·
    have h1' := (bnf h1)
    refine t_skip ?_
    refine t_seq ?_
    refine t_draw (fun _ => true) (by kernel_rfl) ?_
    refine d_take 0 rfl rfl (by kernel_rfl) (by kernel_rfl) (by kernel_rfl) (p_loadAb (n := 2) (by kernel_rfl) (by kernel_rfl) rfl rfl rfl) ?_
    refine d_take 1 rfl rfl (by kernel_rfl) (by kernel_rfl) (by kernel_rfl) (p_move rfl) ?_
    refine d_only 2 rfl (by kernel_rfl) rfl (o_call 2 3 false (Go.Proofs.enters_of Tryz.func55 (by kernel_rfl) rfl) (c_spec_l11Blank ) rfl .nil rfl rfl rfl) ?_
    refine d_only 3 rfl (by kernel_rfl) rfl (o_call 3 4 false (Go.Proofs.enters_of Tryz.func54 (by kernel_rfl) rfl) (c_spec_l11Walk (rs) (fs) (l) (0) (freeB) (by exact (mt_pre (by assumption)).1) (by exact (mt_pre (by assumption)).2.1) (by rfl) (by exact (mt_pre (by assumption)).2.2.1) (by exact (mt_pre (by assumption)).2.2.2) (by omega)) rfl (.cons rfl (.agg (.cons .t0 (.cons .t0 .nil))) (.cons rfl (.c .t0) (.cons rfl (.c .t0) (.cons rfl (.c (.own rfl)) .nil)))) rfl rfl rfl) ?_
    refine d_take 4 rfl rfl (by kernel_rfl) (by kernel_rfl) (by kernel_rfl) (p_assign rfl) ?_
    refine d_end (by kernel_rfl) ?_
    refine t_seq ?_
    refine t_seq ?_
    refine t_region ?_
    refine r_op (o_assign rfl rfl) ?_
    refine r_end ?_
    refine t_block ?_
    refine gt_sum 3 rfl ?_
    refine t_loopL (fun (vs, m) => ⟨[(4, some (.c (.t none (.v (.slice none 0 0))))), (5, some (.c (.own 1))), (6, some (.c (.own 3))), (7, some (.c (.t none (.v (.int .i64 ((m : Int)))))))], [(0, some (.box [.t none (.sl 3 (enS3 encS encI encB) (rs)), .t none (.sl 2 (enS2 encI (enSl 1 encI)) (fs))])), (1, some (.row none 34 true 1 (enSl 1 encI) (dedL ((matchL fs l freeB).take m)))), (2, some (.row none 3 true 1 encI (freeB))), (3, some (.row none 34 true 1 (encK (enSl 1 encI)) (tkL vs (matchL fs l freeB))))], 4⟩ : List Value × Nat → St) (fun (vs, m) => vs.length = m ∧ m ≤ (matchL fs l freeB).length) (fun (vs, m) => (matchL fs l freeB).length - m) ([], 0) ⟨⟨rfl, ⟨rfl, ⟨rfl, ⟨rfl, trivial⟩⟩⟩⟩, ⟨rfl, ⟨rfl, ⟨rfl, ⟨rfl, trivial⟩⟩⟩⟩, rfl⟩ (by exact ⟨rfl, Nat.zero_le _⟩) ?_
    rintro ⟨vs, m⟩ hI ih0
    try dsimp only at hI ih0
    obtain ⟨i0, i1⟩ := hI; have mp := mt_pre (rs := rs) (fs := fs) (l := l) (by assumption); have dr := ded_room (m := m) mp.1 mp.2.1; have tl := tkL_len (vs := vs) (L := matchL fs l freeB) (by omega); have mm := matchL_most mp.1 mp.2.1 freeB
    refine t_seq ?_
    refine t_seq ?_
    refine t_region ?_
    refine r_op (o_move rfl rfl) ?_
    refine r_op (o_move rfl rfl) ?_
    refine r_op (o_leno rfl rfl rfl rfl) ?_
    refine r_op (o_bin rfl rfl rfl rfl) ?_
    refine r_end ?_
    refine t_cond rfl (fun h2 => ?_) (fun h2 => ?_)
    ·
      have h2' := of_decide_eq_true h2
      refine t_skip ?_
      refine t_seq ?_
      refine t_block ?_
      refine t_seq ?_
      obtain ⟨z3, hz4, b5⟩ := at_get (xs := matchL fs l freeB) (n := (m : Int)) (by omega) (by omega)
      refine gt_take0 4 3 rfl rfl (tkL_at (by omega) hz4) fun e6 v7 => ?_
      refine t_region ?_
      refine r_op (o_assign rfl rfl) ?_
      refine r_end ?_
      refine t_seq ?_
      refine t_seq ?_
      refine t_region ?_
      refine r_op (o_assign rfl rfl) ?_
      refine r_end ?_
      refine t_block ?_
      refine t_loopL (fun n => ⟨[(4, some (.c (.t none (.v (.slice none 0 0))))), (5, some (.c (.own 1))), (6, some (.c (.own 3))), (7, some (.c (.t none (.v (.int .i64 ((m : Int))))))), (8, some (.c (.t none (.v (.bool (hasR ((dedL ((matchL fs l freeB).take m)).take n) z3)))))), (9, some (.c (.t none (.v (.int .i64 ((n : Int)))))))], [(0, some (.box [.t none (.sl 3 (enS3 encS encI encB) (rs)), .t none (.sl 2 (enS2 encI (enSl 1 encI)) (fs))])), (1, some (.row none 34 true 1 (enSl 1 encI) (dedL ((matchL fs l freeB).take m)))), (2, some (.row none 3 true 1 encI (freeB))), (3, some (.row none 34 true 1 (encK (enSl 1 encI)) ((tkL vs (matchL fs l freeB)).set (m : Int).toNat (.inl v7)))), (4, some (.row (some v7) e6 true 1 encI (z3)))], 5⟩ : Nat → St) (fun n => n ≤ (dedL ((matchL fs l freeB).take m)).length) (fun n => (dedL ((matchL fs l freeB).take m)).length - n) 0 ⟨⟨rfl, ⟨rfl, ⟨rfl, ⟨rfl, ⟨(eqBo hasR_zero.symm), ⟨rfl, trivial⟩⟩⟩⟩⟩⟩, ⟨rfl, ⟨rfl, ⟨rfl, ⟨rfl, ⟨rfl, trivial⟩⟩⟩⟩⟩, rfl⟩ (by exact Nat.zero_le _) ?_
      rintro n hI ih1
      try dsimp only at hI ih1
      have j1 := hI
      refine t_seq ?_
      refine t_seq ?_
      refine t_region ?_
      refine r_op (o_move rfl rfl) ?_
      refine r_op (o_move rfl rfl) ?_
      refine r_op (o_leno rfl rfl rfl rfl) ?_
      refine r_op (o_bin rfl rfl rfl rfl) ?_
      refine r_end ?_
      refine t_cond rfl (fun h8 => ?_) (fun h8 => ?_)
      ·
        have h8' := of_decide_eq_true h8
        refine t_skip ?_
        refine t_seq ?_
        refine t_block ?_
        refine t_draw (fun _ => true) (by kernel_rfl) ?_
        refine d_take 0 rfl rfl (by kernel_rfl) (by kernel_rfl) (by kernel_rfl) (p_move rfl) ?_
        refine d_take 1 rfl rfl (by kernel_rfl) (by kernel_rfl) (by kernel_rfl) (p_move rfl) ?_
        refine d_guard 2 rfl rfl (by kernel_rfl) (by kernel_rfl) (by kernel_rfl) rfl rfl (fun _ => p_move rfl) (fun g9 => ?_) (fun g9 => ?_)
        ·
          have g9' := g9
          refine d_guard 3 rfl rfl (by kernel_rfl) (by kernel_rfl) (by kernel_rfl) rfl rfl (fun _ => p_move rfl) (fun _ => ?_) (ncf g9)
          obtain ⟨z10, hz11, b12⟩ := at_get (xs := dedL ((matchL fs l freeB).take m)) (n := (n : Int)) (by omega) (by omega)
          refine d_guard 4 rfl rfl (by kernel_rfl) (by kernel_rfl) (by kernel_rfl) rfl rfl (fun _ => p_indexo (by kernel_rfl) rfl rfl rfl b12 (at_lt b12 hz11)) (fun _ => ?_) (ncf g9)
          refine d_guard 5 rfl rfl (by kernel_rfl) (by kernel_rfl) (by kernel_rfl) rfl rfl (fun _ => p_load1o (by kernel_rfl) rfl rfl rfl hz11) (fun _ => ?_) (ncf g9)
          refine d_guard 6 rfl rfl (by kernel_rfl) (by kernel_rfl) (by kernel_rfl) rfl rfl (fun _ => p_move rfl) (fun _ => ?_) (ncf g9)
          refine d_guard 7 rfl rfl (by kernel_rfl) (by kernel_rfl) (by kernel_rfl) rfl rfl (fun _ => p_move rfl) (fun _ => ?_) (ncf g9)
          obtain ⟨z13, hz14, b15⟩ := at_get (xs := (tkL vs (matchL fs l freeB)).set (m : Int).toNat (.inl v7)) (n := (m : Int)) (by omega) (by (rw [List.length_set]; omega))
          refine d_guard 8 rfl rfl (by kernel_rfl) (by kernel_rfl) (by kernel_rfl) rfl rfl (fun _ => p_indexo (by kernel_rfl) rfl rfl rfl b15 (at_lt b15 hz14)) (fun _ => ?_) (ncf g9)
          refine d_guard 9 rfl rfl (by kernel_rfl) (by kernel_rfl) (by kernel_rfl) rfl rfl (fun _ => p_loadpin (k := 4) (o := 0) (by kernel_rfl) rfl rfl (tk_got (by omega) (by omega)) rfl) (fun _ => ?_) (ncf g9)
          refine d_onlyG 10 rfl rfl (by kernel_rfl) rfl rfl rfl (fun _ => (o_call 5 5 false (Go.Proofs.enters_of Tryz.func56 (by kernel_rfl) rfl) (c_spec_l4Ints (z10) (z3) (by (have e5 := ded_five (List.mem_of_getElem? (by assumption)); omega)) (by (have e5 := matchL_five fs l freeB _ (List.mem_of_getElem? (by assumption)); have e6 : freeB.length = 5 := rfl; omega))) rfl (.cons rfl (.c .t1) (.cons rfl (.c (.own rfl)) .nil)) rfl rfl rfl)) (fun _ => ?_) (ncf g9)
          refine d_guard 11 rfl rfl (by kernel_rfl) (by kernel_rfl) (by kernel_rfl) rfl rfl (fun _ => p_bin rfl rfl rfl) (fun _ => ?_) (ncf g9)
          refine d_take 12 rfl rfl (by kernel_rfl) (by kernel_rfl) (by kernel_rfl) (p_pickF rfl g9 rfl) ?_
          refine d_take 13 rfl rfl (by kernel_rfl) (by kernel_rfl) (by kernel_rfl) (p_assign rfl) ?_
          refine d_end (by kernel_rfl) ?_
          refine t_endblock ?_
          refine t_region ?_
          refine r_op (o_move rfl rfl) ?_
          refine r_op (o_bin rfl rfl rfl rfl) ?_
          refine r_op (o_assign rfl rfl) ?_
          refine r_end ?_
          refine t_le ?_ (ih1 (n + 1) (by (try dsimp only); omega) (by (try dsimp only); omega))
          exact ⟨⟨rfl, ⟨rfl, ⟨rfl, ⟨rfl, ⟨(eqBo (by exact hasR_new (by assumption) hz11 rfl)), ⟨(eqI (wr64 (by omega) (by omega))), trivial⟩⟩⟩⟩⟩⟩, ⟨rfl, ⟨rfl, ⟨rfl, ⟨rfl, ⟨rfl, trivial⟩⟩⟩⟩⟩, rfl⟩
        ·
          have g9' := g9
          refine d_guard 3 rfl rfl (by kernel_rfl) (by kernel_rfl) (by kernel_rfl) rfl rfl (v := .c .top) (nc g9) (nc g9) (fun _ => ?_)
          refine d_guard 4 rfl rfl (by kernel_rfl) (by kernel_rfl) (by kernel_rfl) rfl rfl (v := .c .top) (nc g9) (nc g9) (fun _ => ?_)
          refine d_guard 5 rfl rfl (by kernel_rfl) (by kernel_rfl) (by kernel_rfl) rfl rfl (v := .c .top) (nc g9) (nc g9) (fun _ => ?_)
          refine d_guard 6 rfl rfl (by kernel_rfl) (by kernel_rfl) (by kernel_rfl) rfl rfl (v := .c .top) (nc g9) (nc g9) (fun _ => ?_)
          refine d_guard 7 rfl rfl (by kernel_rfl) (by kernel_rfl) (by kernel_rfl) rfl rfl (v := .c .top) (nc g9) (nc g9) (fun _ => ?_)
          refine d_guard 8 rfl rfl (by kernel_rfl) (by kernel_rfl) (by kernel_rfl) rfl rfl (v := .c .top) (nc g9) (nc g9) (fun _ => ?_)
          refine d_guard 9 rfl rfl (by kernel_rfl) (by kernel_rfl) (by kernel_rfl) rfl rfl (v := .c .top) (nc g9) (nc g9) (fun _ => ?_)
          refine d_guard 10 rfl rfl (by kernel_rfl) (by kernel_rfl) (by kernel_rfl) rfl rfl (v := .c .top) (nc g9) (nc g9) (fun _ => ?_)
          refine d_guard 11 rfl rfl (by kernel_rfl) (by kernel_rfl) (by kernel_rfl) rfl rfl (v := .c .top) (nc g9) (nc g9) (fun _ => ?_)
          refine d_take 12 rfl rfl (by kernel_rfl) (by kernel_rfl) (by kernel_rfl) (p_pickT rfl g9 rfl) ?_
          refine d_take 13 rfl rfl (by kernel_rfl) (by kernel_rfl) (by kernel_rfl) (p_assign rfl) ?_
          refine d_end (by kernel_rfl) ?_
          refine t_endblock ?_
          refine t_region ?_
          refine r_op (o_move rfl rfl) ?_
          refine r_op (o_bin rfl rfl rfl rfl) ?_
          refine r_op (o_assign rfl rfl) ?_
          refine r_end ?_
          refine t_le ?_ (ih1 (n + 1) (by (try dsimp only); omega) (by (try dsimp only); omega))
          exact ⟨⟨rfl, ⟨rfl, ⟨rfl, ⟨rfl, ⟨(eqBo (by exact hasR_more (by assumption))), ⟨(eqI (wr64 (by omega) (by omega))), trivial⟩⟩⟩⟩⟩⟩, ⟨rfl, ⟨rfl, ⟨rfl, ⟨rfl, ⟨rfl, trivial⟩⟩⟩⟩⟩, rfl⟩
      ·
        have h8' := of_decide_eq_false h8
        refine t_exit rfl ?_
        refine t_seq ?_
        refine t_region ?_
        refine r_op (o_move rfl rfl) ?_
        refine r_op (o_not rfl rfl) ?_
        refine r_end ?_
        refine t_cond rfl (fun h16 => ?_) (fun h16 => ?_)
        ·
          have h16' := (bnt h16)
          refine t_region ?_
          refine r_op (o_move rfl rfl) ?_
          refine r_op (o_move rfl rfl) ?_
          refine r_op (o_move rfl rfl) ?_
          obtain ⟨z17, hz18, b19⟩ := at_get (xs := (tkL vs (matchL fs l freeB)).set (m : Int).toNat (.inl v7)) (n := (m : Int)) (by omega) (by (rw [List.length_set]; omega))
          refine r_op (o_indexo rfl (by kernel_rfl) rfl rfl rfl b19 (at_lt b19 hz18)) ?_
          refine r_op (o_loadpin rfl (k := 4) (o := 0) (by kernel_rfl) rfl rfl (tk_got (by omega) (by omega)) rfl) ?_
          refine r_op (o_litS 5 (e := 34) (sz := 1) (zs := [.slice none 0 0]) rfl rfl (by kernel_rfl) rfl rfl rfl rfl rfl) ?_
          refine r_op (o_append 1 (e := 34) (sz := 1) (by' := 24) (z3) rfl (by kernel_rfl) rfl rfl rfl rfl rfl rfl (.take (.own rfl) rfl .nil) rfl (by omega) (by omega)) ?_
          refine r_op (o_assign rfl rfl) ?_
          refine r_end ?_
          refine t_endblock ?_
          refine t_region ?_
          refine r_op (o_move rfl rfl) ?_
          refine r_op (o_bin rfl rfl rfl rfl) ?_
          refine r_op (o_assign rfl rfl) ?_
          refine r_end ?_
          have he := hasR_end (q := dedL ((matchL fs l freeB).take m)) (x := z3) (k := n) (by omega)
          refine t_le ?_ (ih0 (vs ++ [v7], m + 1) (by (try dsimp only); omega) (by (try dsimp only); exact ⟨by simp; omega, by omega⟩))
          exact ⟨⟨rfl, ⟨rfl, ⟨rfl, ⟨(eqI (wr64 (by omega) (by omega))), trivial⟩⟩⟩⟩, ⟨rfl, ⟨(eqR (by exact (ded_more hz4 rfl (he.symm.trans (by assumption))).symm)), ⟨rfl, ⟨(eqR (tkL_set i0 (by omega))), trivial⟩⟩⟩⟩, rfl⟩
        ·
          have h16' := (bnf h16)
          refine t_skip ?_
          refine t_endblock ?_
          refine t_region ?_
          refine r_op (o_move rfl rfl) ?_
          refine r_op (o_bin rfl rfl rfl rfl) ?_
          refine r_op (o_assign rfl rfl) ?_
          refine r_end ?_
          have he := hasR_end (q := dedL ((matchL fs l freeB).take m)) (x := z3) (k := n) (by omega)
          refine t_le ?_ (ih0 (vs ++ [v7], m + 1) (by (try dsimp only); omega) (by (try dsimp only); exact ⟨by simp; omega, by omega⟩))
          exact ⟨⟨rfl, ⟨rfl, ⟨rfl, ⟨(eqI (wr64 (by omega) (by omega))), trivial⟩⟩⟩⟩, ⟨rfl, ⟨(eqR (by exact (ded_same hz4 rfl (he.symm.trans (by assumption))).symm)), ⟨rfl, ⟨(eqR (tkL_set i0 (by omega))), trivial⟩⟩⟩⟩, rfl⟩
    ·
      have h2' := of_decide_eq_false h2
      refine t_exit rfl ?_
      refine t_seq ?_
      refine t_region ?_
      refine r_op (o_move rfl rfl) ?_
      refine r_op (o_assign rfl rfl) ?_
      refine r_end ?_
      refine t_ret Tryz.func11 (.tmp rfl .nil) rfl fun E S w u hI hd => ?_
      refine post_mk hI hd ?_ ⟨eqR ?_, trivial⟩ rfl rfl rfl <;> clear hI hd <;> (try clear ih0) <;> (try clear ih1)
      all_goals first | rfl | ((exact findL_yes (by assumption) (by omega)))
set_option maxHeartbeats 1000000 in
set_option maxRecDepth 10000 in
theorem c_laws_sameInts (a b : List Int) (ha : a.length ≤ 4611686018427387904) : Pu Tryz.prog 32 [.c (.t none (.sl 1 encI (a))), .c (.t none (.sl 1 encI (b)))] [] 0 (.c (.t none (.v (.bool (decide (a = b)))))) := by
  refine pu_enter Tryz.func32 rfl (Nat.le_of_ble_eq_true rfl) fun w S => ?_
  refine t_seq ?_
  refine t_region ?_
  refine r_op (o_assign rfl rfl) ?_
  refine r_end ?_
  refine t_seq ?_
  refine t_seq ?_
  refine t_region ?_
  refine r_op (o_move rfl rfl) ?_
  refine r_op (o_len rfl rfl rfl) ?_
  refine r_op (o_move rfl rfl) ?_
  refine r_op (o_len rfl rfl rfl) ?_
  refine r_op (o_bin rfl rfl rfl rfl) ?_
  refine r_end ?_
  refine t_cond rfl (fun h1 => ?_) (fun h1 => ?_)
  ·
    have h1' := of_decide_eq_true h1
    refine t_seq ?_
    refine t_region ?_
    refine r_op (o_assign rfl rfl) ?_
    refine r_end ?_
    refine t_ret Tryz.func32 (.tmp rfl .nil) rfl fun E S w u hI hd => ?_
    refine post_mk hI hd ?_ trivial rfl rfl rfl <;> clear hI hd <;> (try clear ih0)
    all_goals ((have : a ≠ b := by rintro rfl; simp at *); simp [this])
  ·
    have h1' := of_decide_eq_false h1
    refine t_skip ?_
    refine t_seq ?_
    refine t_seq ?_
    refine t_region ?_
    refine r_op (o_assign rfl rfl) ?_
    refine r_end ?_
    refine t_block ?_
    refine t_loopL (fun m => ⟨[(0, some (.c (.t none (.sl 1 encI (a))))), (1, some (.c (.t none (.sl 1 encI (b))))), (5, some (.c (.t none (.v (.int .i64 ((m : Int)))))))], [], 0⟩ : Nat → St) (fun m => m ≤ a.length ∧ a.length = b.length ∧ a.take m = b.take m) (fun m => a.length - m) 0 ⟨⟨rfl, ⟨rfl, ⟨rfl, trivial⟩⟩⟩, trivial, rfl⟩ (by exact ⟨Nat.zero_le _, by omega, rfl⟩) ?_
    rintro m hI ih0
    try dsimp only at hI ih0
    obtain ⟨i1, i2, i3⟩ := hI
    refine t_seq ?_
    refine t_seq ?_
    refine t_region ?_
    refine r_op (o_move rfl rfl) ?_
    refine r_op (o_move rfl rfl) ?_
    refine r_op (o_len rfl rfl rfl) ?_
    refine r_op (o_bin rfl rfl rfl rfl) ?_
    refine r_end ?_
    refine t_cond rfl (fun h2 => ?_) (fun h2 => ?_)
    ·
      have h2' := of_decide_eq_true h2
      refine t_skip ?_
      refine t_seq ?_
      refine t_block ?_
      refine t_seq ?_
      refine t_draw (fun _ => true) (by kernel_rfl) ?_
      refine d_take 0 rfl rfl (by kernel_rfl) (by kernel_rfl) (by kernel_rfl) (p_move rfl) ?_
      refine d_take 1 rfl rfl (by kernel_rfl) (by kernel_rfl) (by kernel_rfl) (p_move rfl) ?_
      obtain ⟨z3, hz4, b5⟩ := at_get (xs := a) (n := (m : Int)) (by omega) (by omega)
      refine d_take 2 rfl rfl (by kernel_rfl) (by kernel_rfl) (by kernel_rfl) (p_index (by kernel_rfl) rfl rfl b5 hz4) ?_
      refine d_take 3 rfl rfl (by kernel_rfl) (by kernel_rfl) (by kernel_rfl) (p_load1 (by kernel_rfl) rfl rfl) ?_
      refine d_take 4 rfl rfl (by kernel_rfl) (by kernel_rfl) (by kernel_rfl) (p_move rfl) ?_
      refine d_take 5 rfl rfl (by kernel_rfl) (by kernel_rfl) (by kernel_rfl) (p_move rfl) ?_
      obtain ⟨z6, hz7, b8⟩ := at_get (xs := b) (n := (m : Int)) (by omega) (by omega)
      refine d_take 6 rfl rfl (by kernel_rfl) (by kernel_rfl) (by kernel_rfl) (p_index (by kernel_rfl) rfl rfl b8 hz7) ?_
      refine d_take 7 rfl rfl (by kernel_rfl) (by kernel_rfl) (by kernel_rfl) (p_load1 (by kernel_rfl) rfl rfl) ?_
      refine d_take 8 rfl rfl (by kernel_rfl) (by kernel_rfl) (by kernel_rfl) (p_bin rfl rfl rfl) ?_
      refine d_end (by kernel_rfl) ?_
      refine t_cond rfl (fun h9 => ?_) (fun h9 => ?_)
      ·
        have h9' := of_decide_eq_true h9
        refine t_seq ?_
        refine t_region ?_
        refine r_op (o_assign rfl rfl) ?_
        refine r_end ?_
        refine t_ret Tryz.func32 (.tmp rfl .nil) rfl fun E S w u hI hd => ?_
        refine post_mk hI hd ?_ trivial rfl rfl rfl <;> clear hI hd <;> (try clear ih0)
        all_goals (have := ne_at (a := a) (b := b) (by assumption) (by assumption) (by assumption); simp_all)
      ·
        have h9' := of_decide_eq_false h9
        refine t_skip ?_
        refine t_endblock ?_
        refine t_region ?_
        refine r_op (o_move rfl rfl) ?_
        refine r_op (o_bin rfl rfl rfl rfl) ?_
        refine r_op (o_assign rfl rfl) ?_
        refine r_end ?_
        refine t_le ?_ (ih0 (m + 1) (by (try dsimp only); omega) (by (try dsimp only); exact ⟨by omega, i2, take_same i3 (same_at (by assumption) (by assumption) (by omega))⟩))
        exact ⟨⟨rfl, ⟨rfl, ⟨(eqI (wr64 (by omega) (by omega))), trivial⟩⟩⟩, trivial, rfl⟩
    ·
      have h2' := of_decide_eq_false h2
      refine t_exit rfl ?_
      refine t_seq ?_
      refine t_region ?_
      refine r_op (o_assign rfl rfl) ?_
      refine r_end ?_
      refine t_ret Tryz.func32 (.tmp rfl .nil) rfl fun E S w u hI hd => ?_
      refine post_mk hI hd ?_ trivial rfl rfl rfl <;> clear hI hd <;> (try clear ih0)
      all_goals ((obtain rfl : m = a.length := by omega); rw [List.take_length, i2, List.take_length] at i3; simp [i3])
set_option maxHeartbeats 1000000 in
set_option maxRecDepth 10000 in
theorem c_laws_sameRows (a b : List (List (Int))) (hs : szS (fun (x : List (Int)) => (x).length) a ≤ 1048576) : Pu Tryz.prog 10 [.c (.t none (.sl 1 (enSl 1 encI) (a))), .c (.t none (.sl 1 (enSl 1 encI) (b)))] [] 0 (.c (.t none (.v (.bool (decide (a = b)))))) := by
  refine pu_enter Tryz.func10 rfl (Nat.le_of_ble_eq_true rfl) fun w S => ?_
  have gl := sz_len (f := (fun (x : List (Int)) => (x).length)) (l := a)
  refine t_seq ?_
  refine t_region ?_
  refine r_op (o_assign rfl rfl) ?_
  refine r_end ?_
  refine t_seq ?_
  refine t_seq ?_
  refine t_region ?_
  refine r_op (o_move rfl rfl) ?_
  refine r_op (o_len rfl rfl rfl) ?_
  refine r_op (o_move rfl rfl) ?_
  refine r_op (o_len rfl rfl rfl) ?_
  refine r_op (o_bin rfl rfl rfl rfl) ?_
  refine r_end ?_
  refine t_cond rfl (fun h1 => ?_) (fun h1 => ?_)
  ·
    have h1' := of_decide_eq_true h1
    refine t_seq ?_
    refine t_region ?_
    refine r_op (o_assign rfl rfl) ?_
    refine r_end ?_
    refine t_ret Tryz.func10 (.tmp rfl .nil) rfl fun E S w u hI hd => ?_
    refine post_mk hI hd ?_ trivial rfl rfl rfl <;> clear hI hd <;> (try clear ih0)
    all_goals ((have : a ≠ b := by rintro rfl; simp at *); simp [this])
  ·
    have h1' := of_decide_eq_false h1
    refine t_skip ?_
    refine t_seq ?_
    refine t_seq ?_
    refine t_region ?_
    refine r_op (o_assign rfl rfl) ?_
    refine r_end ?_
    refine t_block ?_
    refine t_loopL (fun m => ⟨[(0, some (.c (.t none (.sl 1 (enSl 1 encI) (a))))), (1, some (.c (.t none (.sl 1 (enSl 1 encI) (b))))), (5, some (.c (.t none (.v (.int .i64 ((m : Int)))))))], [], 0⟩ : Nat → St) (fun m => m ≤ a.length ∧ a.length = b.length ∧ a.take m = b.take m) (fun m => a.length - m) 0 ⟨⟨rfl, ⟨rfl, ⟨rfl, trivial⟩⟩⟩, trivial, rfl⟩ (by exact ⟨Nat.zero_le _, by omega, rfl⟩) ?_
    rintro m hI ih0
    try dsimp only at hI ih0
    obtain ⟨i1, i2, i3⟩ := hI
    refine t_seq ?_
    refine t_seq ?_
    refine t_region ?_
    refine r_op (o_move rfl rfl) ?_
    refine r_op (o_move rfl rfl) ?_
    refine r_op (o_len rfl rfl rfl) ?_
    refine r_op (o_bin rfl rfl rfl rfl) ?_
    refine r_end ?_
    refine t_cond rfl (fun h2 => ?_) (fun h2 => ?_)
    ·
      have h2' := of_decide_eq_true h2
      refine t_skip ?_
      refine t_seq ?_
      refine t_block ?_
      refine t_seq ?_
      refine t_draw (fun _ => true) (by kernel_rfl) ?_
      refine d_take 0 rfl rfl (by kernel_rfl) (by kernel_rfl) (by kernel_rfl) (p_move rfl) ?_
      refine d_take 1 rfl rfl (by kernel_rfl) (by kernel_rfl) (by kernel_rfl) (p_move rfl) ?_
      obtain ⟨z3, hz4, b5⟩ := at_get (xs := a) (n := (m : Int)) (by omega) (by omega)
      refine d_take 2 rfl rfl (by kernel_rfl) (by kernel_rfl) (by kernel_rfl) (p_index (by kernel_rfl) rfl rfl b5 hz4) ?_
      refine d_take 3 rfl rfl (by kernel_rfl) (by kernel_rfl) (by kernel_rfl) (p_load1 (by kernel_rfl) rfl rfl) ?_
      refine d_take 4 rfl rfl (by kernel_rfl) (by kernel_rfl) (by kernel_rfl) (p_move rfl) ?_
      refine d_take 5 rfl rfl (by kernel_rfl) (by kernel_rfl) (by kernel_rfl) (p_move rfl) ?_
      obtain ⟨z6, hz7, b8⟩ := at_get (xs := b) (n := (m : Int)) (by omega) (by omega)
      refine d_take 6 rfl rfl (by kernel_rfl) (by kernel_rfl) (by kernel_rfl) (p_index (by kernel_rfl) rfl rfl b8 hz7) ?_
      refine d_take 7 rfl rfl (by kernel_rfl) (by kernel_rfl) (by kernel_rfl) (p_load1 (by kernel_rfl) rfl rfl) ?_
      refine d_only 8 rfl (by kernel_rfl) rfl (o_call 0 0 false (Go.Proofs.enters_of Tryz.func32 (by kernel_rfl) rfl) (c_laws_sameInts (z3) (z6) (by (have e1 := sz_at (f := (fun (x : List (Int)) => (x).length)) (l := a) (m := m) (by assumption); (try dsimp only at e1); omega))) rfl (.cons rfl (.c .t0) (.cons rfl (.c .t0) .nil)) rfl rfl rfl) ?_
      refine d_take 9 rfl rfl (by kernel_rfl) (by kernel_rfl) (by kernel_rfl) (p_not rfl) ?_
      refine d_end (by kernel_rfl) ?_
      refine t_cond rfl (fun h9 => ?_) (fun h9 => ?_)
      ·
        have h9' := of_decide_eq_false (bnt h9)
        refine t_seq ?_
        refine t_region ?_
        refine r_op (o_assign rfl rfl) ?_
        refine r_end ?_
        refine t_ret Tryz.func10 (.tmp rfl .nil) rfl fun E S w u hI hd => ?_
        refine post_mk hI hd ?_ trivial rfl rfl rfl <;> clear hI hd <;> (try clear ih0)
        all_goals (have := ne_at (a := a) (b := b) (by assumption) (by assumption) (by assumption); simp_all)
      ·
        have h9' := of_decide_eq_true (bnf h9)
        refine t_skip ?_
        refine t_endblock ?_
        refine t_region ?_
        refine r_op (o_move rfl rfl) ?_
        refine r_op (o_bin rfl rfl rfl rfl) ?_
        refine r_op (o_assign rfl rfl) ?_
        refine r_end ?_
        refine t_le ?_ (ih0 (m + 1) (by (try dsimp only); omega) (by (try dsimp only); exact ⟨by omega, i2, take_same i3 (same_at (by assumption) (by assumption) (by assumption))⟩))
        exact ⟨⟨rfl, ⟨rfl, ⟨(eqI (wr64 (by omega) (by omega))), trivial⟩⟩⟩, trivial, rfl⟩
    ·
      have h2' := of_decide_eq_false h2
      refine t_exit rfl ?_
      refine t_seq ?_
      refine t_region ?_
      refine r_op (o_assign rfl rfl) ?_
      refine r_end ?_
      refine t_ret Tryz.func10 (.tmp rfl .nil) rfl fun E S w u hI hd => ?_
      refine post_mk hI hd ?_ trivial rfl rfl rfl <;> clear hI hd <;> (try clear ih0)
      all_goals ((obtain rfl : m = a.length := by omega); rw [List.take_length, i2, List.take_length] at i3; simp [i3])
def ob_c_impl_Instantiate : Option (List Int) → List (Nat × Option Ob)
  | none => []
  | some q => [(3, some (.row none 3 true 1 encI (q)))]
def res_c_impl_Instantiate (r : Int) (ts : List Int) (b : List Int) : Option (List Int) → AV
  | none => .tup [(true, [.t none (.v (.int .i64 (0))), .t none (.v (.slice none 0 0))]), (false, [.t none (.v (.bool (false)))])]
  | some q => .tup [(true, [.t none (.v (.int .i64 (r))), .own 3]), (false, [.t none (.v (.bool (true)))])]
set_option maxHeartbeats 1000000 in
set_option maxRecDepth 10000 in
theorem c_impl_Instantiate (r : Int) (ts : List Int) (b : List Int) (hl : ts.length ≤ 1048576) (ho : ∀ x ∈ ts, okI x) (mo : Option (List Int)) (hm : instV b ts = mo) : Pu Tryz.prog 12 [.agg [.t none (.v (.int .i64 (r))), .t none (.sl 1 encI (ts))], .c (.t none (.sl 1 encI (b)))] (ob_c_impl_Instantiate mo) 4 (res_c_impl_Instantiate r ts b mo) := by
  refine pu_enter Tryz.func12 rfl (Nat.le_of_ble_eq_true rfl) fun w S => ?_
  refine t_seq ?_
  refine t_region ?_
  refine r_op (o_box 0 rfl rfl rfl rfl) ?_
  refine r_op (o_alloc 1 (zs := [.int .i64 (0), .slice none 0 0]) rfl rfl (by kernel_rfl) rfl) ?_
  refine r_op (o_assign rfl rfl) ?_
  refine r_end ?_
  refine t_seq ?_
  refine t_region ?_
  refine r_op (o_fieldb rfl (off := 0) (by kernel_rfl) rfl) ?_
  refine r_op (o_load1b rfl (by kernel_rfl) rfl rfl rfl) ?_
  refine r_op (o_build rfl (pl := [(0, 1), (1, 1)]) (zs := [.int .i64 (0), .slice none 0 0]) (by kernel_rfl) (by kernel_rfl) rfl rfl rfl) ?_
  refine r_op (o_alloc 2 (zs := [.int .i64 (0), .slice none 0 0]) rfl rfl (by kernel_rfl) rfl) ?_
  refine r_op (o_storeb (n := 2) (by kernel_rfl) rfl rfl rfl rfl rfl rfl) ?_
  refine r_end ?_
  refine t_seq ?_
  refine t_seq ?_
  refine t_region ?_
  refine r_op (o_fieldb rfl (off := 1) (by kernel_rfl) rfl) ?_
  refine r_op (o_load1b rfl (by kernel_rfl) rfl rfl rfl) ?_
  refine r_op (o_len rfl rfl rfl) ?_
  refine r_op (o_move rfl rfl) ?_
  refine r_end ?_
  refine t_block ?_
  refine gt_nilb 3 (b := 2) (o := 1) (et := 3) (sz := 1) true encI rfl rfl rfl ?_
  refine t_loopL (fun (m, acc) => ⟨[(1, some (.c (.t none (.sl 1 encI (b))))), (4, some (.c (.ptr 1 0))), (6, some (.c (.ptr 2 0))), (14, some (.c (.t none (.sl 1 encI (ts))))), (15, some (.c (.t none (.v (.int .i64 (((ts).length : Int))))))), (16, some (.c (.t none (.v (.int .i64 ((m : Int)))))))], [(0, some (.box [.t none (.v (.int .i64 (r))), .t none (.sl 1 encI (ts))])), (1, some (.box [.t none (.v (.int .i64 (0))), .t none (.v (.slice none 0 0))])), (2, some (.box [.t none (.v (.int .i64 (r))), .own 3])), (3, some (.row none 3 true 1 encI (acc)))], 4⟩ : Nat × List Int → St) (fun (m, acc) => m ≤ ts.length ∧ instV b (ts.take m) = some acc) (fun (m, acc) => ts.length - m) (0, []) ⟨⟨rfl, ⟨rfl, ⟨rfl, ⟨rfl, ⟨rfl, ⟨rfl, trivial⟩⟩⟩⟩⟩⟩, ⟨rfl, ⟨rfl, ⟨rfl, ⟨rfl, trivial⟩⟩⟩⟩, rfl⟩ (by exact ⟨Nat.zero_le _, rfl⟩) ?_
  rintro ⟨m, acc⟩ hI ih0
  try dsimp only at hI ih0
  obtain ⟨i1, i2⟩ := hI
  refine t_seq ?_
  refine t_region ?_
  refine r_op (o_bin rfl rfl rfl rfl) ?_
  refine r_end ?_
  refine t_seq ?_
  refine t_cond rfl (fun h1 => ?_) (fun h1 => ?_)
  ·
    have h1' := of_decide_eq_true h1
    refine t_skip ?_
    refine t_seq ?_
    refine t_block ?_
    refine t_seq ?_
    refine t_region ?_
    obtain ⟨z2, hz3, b4⟩ := at_get (xs := ts) (n := (m : Int)) (by omega) (by omega)
    refine r_op (o_index rfl (by kernel_rfl) rfl rfl b4 hz3) ?_
    refine r_op (o_load1 rfl (by kernel_rfl) rfl rfl) ?_
    refine r_op (o_assign rfl rfl) ?_
    refine r_end ?_
    refine t_seq ?_
    refine t_region ?_
    refine r_op (o_move rfl rfl) ?_
    refine r_op (o_bin rfl rfl rfl rfl) ?_
    refine r_op (o_assign rfl rfl) ?_
    refine r_end ?_
    refine t_seq ?_
    refine t_seq ?_
    refine t_region ?_
    refine r_op (o_move rfl rfl) ?_
    refine r_op (o_bin rfl rfl rfl rfl) ?_
    refine r_end ?_
    refine t_cond rfl (fun h5 => ?_) (fun h5 => ?_)
    ·
      have h5' := of_decide_eq_true h5
      refine t_seq ?_
      refine t_seq ?_
      refine t_region ?_
      refine r_op (o_move rfl rfl) ?_
      refine r_op (o_move rfl rfl) ?_
      refine r_op (o_len rfl rfl rfl) ?_
      refine r_op (o_bin rfl rfl rfl rfl) ?_
      refine r_end ?_
      refine t_cond rfl (fun h6 => ?_) (fun h6 => ?_)
      ·
        have h6' := of_decide_eq_true h6
        refine t_seq ?_
        refine t_region ?_
        refine r_op (o_build rfl (pl := [(0, 1), (1, 1)]) (zs := [.int .i64 (0), .slice none 0 0]) (by kernel_rfl) (by kernel_rfl) rfl rfl rfl) ?_
        refine r_op (o_storeb (n := 2) (by kernel_rfl) rfl rfl rfl rfl rfl rfl) ?_
        refine r_op (o_assign rfl rfl) ?_
        refine r_end ?_
        refine t_ret Tryz.func12 (.cells (n := 2) (by kernel_rfl) (by kernel_rfl) rfl rfl rfl (.tmp rfl .nil)) rfl fun E S w u hI hd => ?_
        obtain rfl : mo = none := by rw [← hm]; exact inst_none i2 (by assumption) rfl (inst_far (by assumption) (by assumption))
        refine post_mk hI hd ?_ trivial rfl rfl rfl <;> clear hI hd <;> (try clear ih0)
        all_goals (rfl)
      ·
        have h6' := of_decide_eq_false h6
        refine t_skip ?_
        refine t_region ?_
        refine r_op (o_move rfl rfl) ?_
        refine r_op (o_move rfl rfl) ?_
        obtain ⟨z7, hz8, b9⟩ := at_get (xs := b) (n := z2) (by omega) (by omega)
        refine r_op (o_index rfl (by kernel_rfl) rfl rfl b9 hz8) ?_
        refine r_op (o_load1 rfl (by kernel_rfl) rfl rfl) ?_
        refine r_op (o_assign rfl rfl) ?_
        refine r_end ?_
        refine t_seq ?_
        refine t_seq ?_
        refine t_region ?_
        refine r_op (o_move rfl rfl) ?_
        refine r_op (o_call 4 4 false (Go.Proofs.enters_of Tryz.func57 (by kernel_rfl) rfl) (c_impl_IsValidValue (z7)) rfl (.cons rfl (.c .t0) .nil) rfl rfl rfl) ?_
        refine r_op (o_not rfl rfl) ?_
        refine r_end ?_
        refine t_cond rfl (fun h10 => ?_) (fun h10 => ?_)
        ·
          have h10' := of_decide_eq_false (bnt h10)
          refine t_seq ?_
          refine t_region ?_
          refine r_op (o_build rfl (pl := [(0, 1), (1, 1)]) (zs := [.int .i64 (0), .slice none 0 0]) (by kernel_rfl) (by kernel_rfl) rfl rfl rfl) ?_
          refine r_op (o_storeb (n := 2) (by kernel_rfl) rfl rfl rfl rfl rfl rfl) ?_
          refine r_op (o_assign rfl rfl) ?_
          refine r_end ?_
          refine t_ret Tryz.func12 (.cells (n := 2) (by kernel_rfl) (by kernel_rfl) rfl rfl rfl (.tmp rfl .nil)) rfl fun E S w u hI hd => ?_
          obtain rfl : mo = none := by rw [← hm]; exact inst_none i2 (by assumption) rfl (inst_bad (by assumption) (by assumption) (by assumption))
          refine post_mk hI hd ?_ trivial rfl rfl rfl <;> clear hI hd <;> (try clear ih0)
          all_goals (rfl)
        ·
          have h10' := of_decide_eq_true (bnf h10)
          refine t_skip ?_
          refine t_region ?_
          refine r_op (o_fieldb rfl (off := 1) (by kernel_rfl) rfl) ?_
          refine r_op (o_load1b rfl (by kernel_rfl) rfl rfl rfl) ?_
          refine r_op (o_move rfl rfl) ?_
          refine r_op (o_litS 4 (e := 3) (sz := 1) (zs := [.int .i64 (0)]) rfl rfl (by kernel_rfl) rfl rfl rfl rfl rfl) ?_
          refine r_op (o_append 3 (e := 3) (sz := 1) (by' := 8) (z7) rfl (by kernel_rfl) rfl rfl rfl rfl rfl rfl (.cons .sc .nil) rfl (by (have := instV_len i2; simp at this; omega)) (by (have := instV_len i2; simp at this; omega))) ?_
          refine r_op (o_fieldb rfl (off := 1) (by kernel_rfl) rfl) ?_
          refine r_op (o_storeb (n := 1) (by kernel_rfl) rfl rfl rfl rfl rfl rfl) ?_
          refine r_end ?_
          refine t_endblock ?_
          refine t_region ?_
          refine r_op (o_bin rfl rfl rfl rfl) ?_
          refine r_op (o_move rfl rfl) ?_
          refine r_end ?_
          refine t_le ?_ (ih0 (m + 1, acc ++ [z7]) (by (try dsimp only); omega) (by (try dsimp only); exact ⟨by omega, inst_step i2 (by assumption) rfl (inst_good (by assumption) (by assumption) (by assumption))⟩))
          exact ⟨⟨rfl, ⟨rfl, ⟨rfl, ⟨rfl, ⟨rfl, ⟨(eqI (wrS (by omega))), trivial⟩⟩⟩⟩⟩⟩, ⟨rfl, ⟨rfl, ⟨rfl, ⟨rfl, trivial⟩⟩⟩⟩, rfl⟩
    ·
      have h5' := of_decide_eq_false h5
      refine t_skip ?_
      refine t_seq ?_
      refine t_seq ?_
      refine t_region ?_
      refine r_op (o_move rfl rfl) ?_
      refine r_op (o_call 4 4 false (Go.Proofs.enters_of Tryz.func57 (by kernel_rfl) rfl) (c_impl_IsValidValue (IntKind.i64.wrap ((-1) - z2))) rfl (.cons rfl (.c .t0) .nil) rfl rfl rfl) ?_
      refine r_op (o_not rfl rfl) ?_
      refine r_end ?_
      refine t_cond rfl (fun h11 => ?_) (fun h11 => ?_)
      ·
        have h11' := of_decide_eq_false (bnt h11)
        refine t_seq ?_
        refine t_region ?_
        refine r_op (o_build rfl (pl := [(0, 1), (1, 1)]) (zs := [.int .i64 (0), .slice none 0 0]) (by kernel_rfl) (by kernel_rfl) rfl rfl rfl) ?_
        refine r_op (o_storeb (n := 2) (by kernel_rfl) rfl rfl rfl rfl rfl rfl) ?_
        refine r_op (o_assign rfl rfl) ?_
        refine r_end ?_
        refine t_ret Tryz.func12 (.cells (n := 2) (by kernel_rfl) (by kernel_rfl) rfl rfl rfl (.tmp rfl .nil)) rfl fun E S w u hI hd => ?_
        obtain rfl : mo = none := by rw [← hm]; exact inst_none i2 (by assumption) rfl (inst_badn (by omega) (ho _ (List.mem_of_getElem? (by assumption))).1 (by assumption))
        refine post_mk hI hd ?_ trivial rfl rfl rfl <;> clear hI hd <;> (try clear ih0)
        all_goals (rfl)
      ·
        have h11' := of_decide_eq_true (bnf h11)
        refine t_skip ?_
        refine t_region ?_
        refine r_op (o_fieldb rfl (off := 1) (by kernel_rfl) rfl) ?_
        refine r_op (o_load1b rfl (by kernel_rfl) rfl rfl rfl) ?_
        refine r_op (o_move rfl rfl) ?_
        refine r_op (o_litS 4 (e := 3) (sz := 1) (zs := [.int .i64 (0)]) rfl rfl (by kernel_rfl) rfl rfl rfl rfl rfl) ?_
        refine r_op (o_append 3 (e := 3) (sz := 1) (by' := 8) (IntKind.i64.wrap ((-1) - z2)) rfl (by kernel_rfl) rfl rfl rfl rfl rfl rfl (.cons .sc .nil) rfl (by (have := instV_len i2; simp at this; omega)) (by (have := instV_len i2; simp at this; omega))) ?_
        refine r_op (o_fieldb rfl (off := 1) (by kernel_rfl) rfl) ?_
        refine r_op (o_storeb (n := 1) (by kernel_rfl) rfl rfl rfl rfl rfl rfl) ?_
        refine r_end ?_
        refine t_endblock ?_
        refine t_region ?_
        refine r_op (o_bin rfl rfl rfl rfl) ?_
        refine r_op (o_move rfl rfl) ?_
        refine r_end ?_
        refine t_le ?_ (ih0 (m + 1, acc ++ [IntKind.i64.wrap ((-1) - z2)]) (by (try dsimp only); omega) (by (try dsimp only); exact ⟨by omega, inst_step i2 (by assumption) rfl (inst_goodn (by omega) (ho _ (List.mem_of_getElem? (by assumption))).1 (by assumption))⟩))
        exact ⟨⟨rfl, ⟨rfl, ⟨rfl, ⟨rfl, ⟨rfl, ⟨(eqI (wrS (by omega))), trivial⟩⟩⟩⟩⟩⟩, ⟨rfl, ⟨rfl, ⟨rfl, ⟨rfl, trivial⟩⟩⟩⟩, rfl⟩
  ·
    have h1' := of_decide_eq_false h1
    refine t_exit rfl ?_
    refine t_seq ?_
    refine t_region ?_
    refine r_op (o_loadAb rfl (n := 2) (by kernel_rfl) (by kernel_rfl) rfl rfl rfl) ?_
    refine r_op (o_storeb (n := 2) (by kernel_rfl) rfl rfl rfl rfl rfl rfl) ?_
    refine r_op (o_assign rfl rfl) ?_
    refine r_end ?_
    refine t_ret Tryz.func12 (.cells (n := 2) (by kernel_rfl) (by kernel_rfl) rfl rfl rfl (.tmp rfl .nil)) rfl fun E S w u hI hd => ?_
    obtain rfl : mo = some acc := by rw [← hm]; rw [List.take_of_length_le (by omega)] at i2; exact i2
    refine post_mk hI hd ?_ ⟨eqR ?_, trivial⟩ rfl rfl rfl <;> clear hI hd <;> (try clear ih0)
    all_goals (rfl)
set_option maxHeartbeats 1000000 in
set_option maxRecDepth 10000 in
theorem c_impl_sameFact (r : Int) (l : List Int) (r2 : Int) (l2 : List Int) (hl : l.length ≤ 1048576) (hl2 : l2.length ≤ 1048576) : Pu Tryz.prog 119 [.agg [.t none (.v (.int .i64 (r))), .t none (.sl 1 encI (l))], .agg [.t none (.v (.int .i64 (r2))), .t none (.sl 1 encI (l2))]] [] 0 (.c (.t none (.v (.bool (decide (cmpF (r, l) (r2, l2) = 0)))))) := by
  refine pu_enter Tryz.func119 rfl (Nat.le_of_ble_eq_true rfl) fun w S => ?_
  refine t_seq ?_
  refine t_region ?_
  refine r_op (o_box 0 rfl rfl rfl rfl) ?_
  refine r_op (o_box 1 rfl rfl rfl rfl) ?_
  refine r_op (o_assign rfl rfl) ?_
  refine r_end ?_
  refine t_seq ?_
  refine t_region ?_
  refine r_op (o_loadAb rfl (n := 2) (by kernel_rfl) (by kernel_rfl) rfl rfl rfl) ?_
  refine r_op (o_loadAb rfl (n := 2) (by kernel_rfl) (by kernel_rfl) rfl rfl rfl) ?_
  refine r_op (o_call 2 2 false (Go.Proofs.enters_of Tryz.func99 (by kernel_rfl) rfl) (c_impl_CompareFacts (r) (l) (r2) (l2) (by omega) (by omega)) rfl (.cons rfl (.agg (.cons .t0 (.cons .t0 .nil))) (.cons rfl (.agg (.cons .t0 (.cons .t0 .nil))) .nil)) rfl rfl rfl) ?_
  refine r_op (o_bin rfl rfl rfl rfl) ?_
  refine r_op (o_assign rfl rfl) ?_
  refine r_end ?_
  refine t_ret Tryz.func119 (.tmp rfl .nil) rfl fun E S w u hI hd => ?_
  refine post_mk hI hd ?_ trivial rfl rfl rfl <;> clear hI hd
  all_goals (rfl)
set_option maxHeartbeats 1000000 in
set_option maxRecDepth 10000 in
theorem c_impl_hasFact_1 (r : Int) (l : List Int) (f : Int × List Int) (hl : l.length ≤ 1048576) (hf : f.2.length ≤ 1048576) : Pu Tryz.prog 118 [.agg [.t none (.v (.int .i64 (r))), .t none (.sl 1 encI (l))], .c (.pel none ((enS2 encI (enSl 1 encI)) (f)) 2)] [] 0 (.c (.t none (.v (.bool (decide (cmpF (r, l) f = 0)))))) := by
  refine pu_enter Tryz.func118 rfl (Nat.le_of_ble_eq_true rfl) fun w S => ?_
  refine t_seq ?_
  refine t_region ?_
  refine r_op (o_box 0 rfl rfl rfl rfl) ?_
  refine r_op (o_assign rfl rfl) ?_
  refine r_end ?_
  refine t_seq ?_
  refine t_region ?_
  refine r_op (o_loadAb rfl (n := 2) (by kernel_rfl) (by kernel_rfl) rfl rfl rfl) ?_
  refine r_op (o_loadA rfl (n := 2) (by kernel_rfl) (by kernel_rfl) rfl rfl) ?_
  refine r_op (o_call 1 1 false (Go.Proofs.enters_of Tryz.func119 (by kernel_rfl) rfl) (c_impl_sameFact (r) (l) (f.1) (f.2) (by omega) (by omega)) rfl (.cons rfl (.agg (.cons .t0 (.cons .t0 .nil))) (.cons rfl (.agg (.cons .t0 (.cons .t0 .nil))) .nil)) rfl rfl rfl) ?_
  refine r_op (o_assign rfl rfl) ?_
  refine r_end ?_
  refine t_ret Tryz.func118 (.tmp rfl .nil) rfl fun E S w u hI hd => ?_
  refine post_mk hI hd ?_ trivial rfl rfl rfl <;> clear hI hd
  all_goals (rfl)
set_option maxHeartbeats 1000000 in
set_option maxRecDepth 10000 in
theorem c_slices_IndexFunc___impl_Fact_impl_Fact_ (l : List (Int × (List (Int)))) (f : Nat) (cs : List ((Nat → T) × Nat)) (p : Int × (List (Int)) → Bool) (hl : l.length ≤ 9223372036854775807) (hf : ∀ x ∈ l, Fu Tryz.prog f ([.agg [.t none (.v (.int .i64 (x.1))), .t none (.sl 1 encI (x.2))]] ++ pels cs) (.c (.t none (.v (.bool (p x)))))) : Pu Tryz.prog 157 [.c (.t none (.sl 2 (enS2 encI (enSl 1 encI)) (l))), .c (.fv f cs)] [] 0 (.c (.t none (.v (.int .i64 (idxI p l))))) := by
  refine pu_enter Tryz.func157 rfl (Nat.le_of_ble_eq_true rfl) fun w S => ?_
  refine t_seq ?_
  refine t_region ?_
  refine r_op (o_assign rfl rfl) ?_
  refine r_end ?_
  refine t_seq ?_
  refine t_seq ?_
  refine t_region ?_
  refine r_op (o_move rfl rfl) ?_
  refine r_op (o_len rfl rfl rfl) ?_
  refine r_op (o_move rfl rfl) ?_
  refine r_end ?_
  refine t_block ?_
  refine t_loopL (fun m => ⟨[(0, some (.c (.t none (.sl 2 (enS2 encI (enSl 1 encI)) (l))))), (1, some (.c (.fv f cs))), (7, some (.c (.t none (.v (.int .i64 (((l).length : Int))))))), (8, some (.c (.t none (.v (.int .i64 ((m : Int)))))))], [], 0⟩ : Nat → St) (fun m => m ≤ l.length ∧ ∀ j z, j < m → l[j]? = some z → p z = false) (fun m => l.length - m) 0 ⟨⟨rfl, ⟨rfl, ⟨rfl, ⟨rfl, trivial⟩⟩⟩⟩, trivial, rfl⟩ (by exact ⟨Nat.zero_le _, fun j z h => by omega⟩) ?_
  rintro m hI ih0
  try dsimp only at hI ih0
  obtain ⟨i1, i2⟩ := hI
  refine t_seq ?_
  refine t_region ?_
  refine r_op (o_bin rfl rfl rfl rfl) ?_
  refine r_end ?_
  refine t_seq ?_
  refine t_cond rfl (fun h1 => ?_) (fun h1 => ?_)
  ·
    have h1' := of_decide_eq_true h1
    refine t_skip ?_
    refine t_seq ?_
    refine t_block ?_
    refine t_seq ?_
    refine t_region ?_
    refine r_op (o_move rfl rfl) ?_
    refine r_op (o_assign rfl rfl) ?_
    refine r_end ?_
    refine t_seq ?_
    refine t_region ?_
    refine r_op (o_move rfl rfl) ?_
    refine r_op (o_move rfl rfl) ?_
    refine r_op (o_move rfl rfl) ?_
    obtain ⟨z2, hz3, b4⟩ := at_get (xs := l) (n := (m : Int)) (by omega) (by omega)
    refine r_op (o_index rfl (by kernel_rfl) rfl rfl b4 hz3) ?_
    refine r_op (o_loadA rfl (n := 2) (by kernel_rfl) (by kernel_rfl) rfl rfl) ?_
    refine r_op (o_callv 0 0 false (hf z2 (List.mem_of_getElem? (by assumption))).1 (hf z2 (List.mem_of_getElem? (by assumption))).2 rfl rfl (.c .fv) (.cons rfl (.agg (.cons .t0 (.cons .t0 .nil))) .nil) rfl rfl rfl) ?_
    refine r_end ?_
    refine t_cond rfl (fun h5 => ?_) (fun h5 => ?_)
    ·
      have h5' := h5
      refine t_seq ?_
      refine t_region ?_
      refine r_op (o_move rfl rfl) ?_
      refine r_op (o_assign rfl rfl) ?_
      refine r_end ?_
      refine t_ret Tryz.func157 (.tmp rfl .nil) rfl fun E S w u hI hd => ?_
      refine post_mk hI hd ?_ trivial rfl rfl rfl <;> clear hI hd <;> (try clear ih0)
      all_goals (rw [idx_hit i2 (by assumption) (by assumption)])
    ·
      have h5' := h5
      refine t_skip ?_
      refine t_endblock ?_
      refine t_region ?_
      refine r_op (o_bin rfl rfl rfl rfl) ?_
      refine r_op (o_move rfl rfl) ?_
      refine r_end ?_
      refine t_le ?_ (ih0 (m + 1) (by (try dsimp only); omega) (by (try dsimp only); exact ⟨by omega, no_step i2 (by assumption) rfl (by assumption)⟩))
      exact ⟨⟨rfl, ⟨rfl, ⟨rfl, ⟨(eqI (wr64 (by omega) (by omega))), trivial⟩⟩⟩⟩, trivial, rfl⟩
  ·
    have h1' := of_decide_eq_false h1
    refine t_exit rfl ?_
    refine t_seq ?_
    refine t_region ?_
    refine r_op (o_assign rfl rfl) ?_
    refine r_end ?_
    refine t_ret Tryz.func157 (.tmp rfl .nil) rfl fun E S w u hI hd => ?_
    refine post_mk hI hd ?_ trivial rfl rfl rfl <;> clear hI hd <;> (try clear ih0)
    all_goals (rw [idx_none i2 (by omega)])
set_option maxHeartbeats 1000000 in
set_option maxRecDepth 10000 in
theorem c_slices_ContainsFunc___impl_Fact_impl_Fact_ (l : List (Int × (List (Int)))) (f : Nat) (cs : List ((Nat → T) × Nat)) (p : Int × (List (Int)) → Bool) (hl : l.length ≤ 9223372036854775807) (hf : ∀ x ∈ l, Fu Tryz.prog f ([.agg [.t none (.v (.int .i64 (x.1))), .t none (.sl 1 encI (x.2))]] ++ pels cs) (.c (.t none (.v (.bool (p x)))))) : Pu Tryz.prog 101 [.c (.t none (.sl 2 (enS2 encI (enSl 1 encI)) (l))), .c (.fv f cs)] [] 0 (.c (.t none (.v (.bool (l.any p))))) := by
  refine pu_enter Tryz.func101 rfl (Nat.le_of_ble_eq_true rfl) fun w S => ?_
  refine t_seq ?_
  refine t_region ?_
  refine r_op (o_assign rfl rfl) ?_
  refine r_end ?_
  refine t_seq ?_
  refine t_region ?_
  refine r_op (o_move rfl rfl) ?_
  refine r_op (o_move rfl rfl) ?_
  refine r_op (o_call 0 0 false (Go.Proofs.enters_of Tryz.func157 (by kernel_rfl) rfl) (c_slices_IndexFunc___impl_Fact_impl_Fact_ (l) (f) (cs) (p) (by omega) (hf)) rfl (.cons rfl (.c .t0) (.cons rfl (.c .fv) .nil)) rfl rfl rfl) ?_
  refine r_op (o_bin rfl rfl rfl rfl) ?_
  refine r_op (o_assign rfl rfl) ?_
  refine r_end ?_
  refine t_ret Tryz.func101 (.tmp rfl .nil) rfl fun E S w u hI hd => ?_
  refine post_mk hI hd ?_ trivial rfl rfl rfl <;> clear hI hd
  all_goals (exact scB idx_any)
set_option maxHeartbeats 1000000 in
set_option maxRecDepth 10000 in
theorem c_impl_hasFact (fs : Atoms) (r : Int) (ts : List Int) (hfs : szS (fun (x : Int × (List (Int))) => (x.2).length) fs ≤ 1048576) (hts : ts.length ≤ 1048576) : Pu Tryz.prog 58 [.c (.t none (.sl 2 (enS2 encI (enSl 1 encI)) (fs))), .agg [.t none (.v (.int .i64 (r))), .t none (.sl 1 encI (ts))]] [] 0 (.c (.t none (.v (.bool (hasF fs (r, ts)))))) := by
  refine pu_enter Tryz.func58 rfl (Nat.le_of_ble_eq_true rfl) fun w S => ?_
  have gl := sz_len (f := (fun (x : Int × (List (Int))) => (x.2).length)) (l := fs)
  refine t_seq ?_
  refine t_region ?_
  refine r_op (o_box 0 rfl rfl rfl rfl) ?_
  refine r_op (o_assign rfl rfl) ?_
  refine r_end ?_
  refine t_seq ?_
  refine t_region ?_
  refine r_op (o_move rfl rfl) ?_
  refine r_op (o_makeFunc rfl (.cons rfl .nil)) ?_
  refine r_op (o_call 1 1 false (Go.Proofs.enters_of Tryz.func101 (by kernel_rfl) rfl) (c_slices_ContainsFunc___impl_Fact_impl_Fact_ (fs) (118) ([((enS2 encI (enSl 1 encI)) ((r, ts)), 2)]) (fun (x0 : Int × (List (Int))) => decide (cmpF ((x0.1), (x0.2)) ((r, ts)) = 0)) (by omega) (fun x0 mx0 => ⟨Go.Proofs.enters_of Tryz.func118 (by kernel_rfl) rfl, c_impl_hasFact_1 (x0.1) (x0.2) ((r, ts)) (by (have e1 := sz_mem (f := (fun (x : Int × (List (Int))) => (x.2).length)) (l := fs) (by assumption); (try dsimp only at e1); omega)) (by omega)⟩)) rfl (.cons rfl (.c .t0) (.cons rfl (.c (.clo (.cons rfl rfl rfl (.cons .t (.cons .t .nil)) .nil))) .nil)) rfl rfl rfl) ?_
  refine r_op (o_assign rfl rfl) ?_
  refine r_end ?_
  refine t_ret Tryz.func58 (.tmp rfl .nil) rfl fun E S w u hI hd => ?_
  refine post_mk hI hd ?_ trivial rfl rfl rfl <;> clear hI hd
  all_goals (rfl)
set_option maxHeartbeats 1000000 in
set_option maxRecDepth 10000 in
theorem c_impl_ContainsFact (rs : Rels) (fs : Atoms) (r : Int) (ts : List Int) (hrs : rs.length ≤ 4611686018427387904) (hfs : szS (fun (x : Int × (List (Int))) => (x.2).length) fs ≤ 1048576) (ho : ∀ z ∈ fs, ∀ x ∈ z.2, okI x) (hts : ts.length ≤ 1048576) : Pu Tryz.prog 13 [.agg [.t none (.sl 3 (enS3 encS encI encB) (rs)), .t none (.sl 2 (enS2 encI (enSl 1 encI)) (fs))], .agg [.t none (.v (.int .i64 (r))), .t none (.sl 1 encI (ts))]] [] 0 (.c (.t none (.v (.bool (instOk rs fs && hasF fs (r, ts)))))) := by
  refine pu_enter Tryz.func13 rfl (Nat.le_of_ble_eq_true rfl) fun w S => ?_
  refine t_seq ?_
  refine t_region ?_
  refine r_op (o_box 0 rfl rfl rfl rfl) ?_
  refine r_op (o_box 1 rfl rfl rfl rfl) ?_
  refine r_op (o_assign rfl rfl) ?_
  refine r_end ?_
  refine t_seq ?_
  refine t_region ?_
  refine r_op (o_loadAb rfl (n := 2) (by kernel_rfl) (by kernel_rfl) rfl rfl rfl) ?_
  refine r_op (o_call 2 2 false (Go.Proofs.enters_of Tryz.func45 (by kernel_rfl) rfl) (c_impl_IsValidInstance (rs) (fs) (by omega) (by omega) (by omega)) rfl (.cons rfl (.agg (.cons .t0 (.cons .t0 .nil))) .nil) rfl rfl rfl) ?_
  refine r_op (o_move rfl rfl) ?_
  refine r_guard rfl rfl rfl (fun g1 => ?_) (fun g1 => ?_)
  ·
    have g1' := g1
    refine r_op (o_fieldb rfl (off := 1) (by kernel_rfl) rfl) ?_
    refine r_guard rfl rfl rfl (fun _ => ?_) (nc g1)
    refine r_op (o_load1b rfl (by kernel_rfl) rfl rfl rfl) ?_
    refine r_guard rfl rfl rfl (fun _ => ?_) (nc g1)
    refine r_op (o_loadAb rfl (n := 2) (by kernel_rfl) (by kernel_rfl) rfl rfl rfl) ?_
    refine r_guard rfl rfl rfl (fun _ => ?_) (nc g1)
    refine r_op (o_call 2 2 false (Go.Proofs.enters_of Tryz.func58 (by kernel_rfl) rfl) (c_impl_hasFact (fs) (r) (ts) (by omega) (by omega)) rfl (.cons rfl (.c .t0) (.cons rfl (.agg (.cons .t0 (.cons .t0 .nil))) .nil)) rfl rfl rfl) ?_
    refine r_op (o_pickT rfl rfl g1 rfl) ?_
    refine r_op (o_assign rfl rfl) ?_
    refine r_end ?_
    refine t_ret Tryz.func13 (.tmp rfl .nil) rfl fun E S w u hI hd => ?_
    refine post_mk hI hd ?_ trivial rfl rfl rfl <;> clear hI hd
    all_goals (refine scB ?_; grind)
  ·
    have g1' := g1
    refine r_guard rfl rfl rfl (ncf g1) (fun _ => ?_)
    refine r_guard rfl rfl rfl (ncf g1) (fun _ => ?_)
    refine r_guard rfl rfl rfl (ncf g1) (fun _ => ?_)
    refine r_op (o_pickF rfl rfl g1 rfl) ?_
    refine r_op (o_assign rfl rfl) ?_
    refine r_end ?_
    refine t_ret Tryz.func13 (.tmp rfl .nil) rfl fun E S w u hI hd => ?_
    refine post_mk hI hd ?_ trivial rfl rfl rfl <;> clear hI hd
    all_goals (refine scB ?_; grind)
set_option maxHeartbeats 1000000 in
set_option maxRecDepth 10000 in
theorem c_impl_HasExtension (rs : Rels) (fs l : Atoms) (b : List Int) (hrs : rs.length ≤ 4611686018427387904) (hfs : szS (fun (x : Int × (List (Int))) => (x.2).length) fs ≤ 1048576) (hll : szS (fun (x : Int × (List (Int))) => (x.2).length) l ≤ 1048576) (ho : ∀ z ∈ fs, ∀ x ∈ z.2, okI x) (hbl : b.length ≤ 1048576) : Pu Tryz.prog 14 [.agg [.t none (.sl 3 (enS3 encS encI encB) (rs)), .t none (.sl 2 (enS2 encI (enSl 1 encI)) (fs))], .c (.t none (.sl 2 (enS2 encI (enSl 1 encI)) (l))), .c (.t none (.sl 1 encI (b)))] [] 0 (.c (.t none (.v (.bool (hasE rs fs l b))))) := by
  refine pu_enter Tryz.func14 rfl (Nat.le_of_ble_eq_true rfl) fun w S => ?_
  have gl := sz_len (f := (fun (x : Int × (List (Int))) => (x.2).length)) (l := l)
  refine t_seq ?_
  refine t_region ?_
  refine r_op (o_box 0 rfl rfl rfl rfl) ?_
  refine r_op (o_assign rfl rfl) ?_
  refine r_end ?_
  refine t_seq ?_
  refine t_draw (fun i => !(Nat.beq i 14)) (by kernel_rfl) ?_
  refine d_take 0 rfl rfl (by kernel_rfl) (by kernel_rfl) (by kernel_rfl) (p_loadAb (n := 2) (by kernel_rfl) (by kernel_rfl) rfl rfl rfl) ?_
  refine d_take 1 rfl rfl (by kernel_rfl) (by kernel_rfl) (by kernel_rfl) (p_move rfl) ?_
  refine d_only 2 rfl (by kernel_rfl) rfl (o_call 1 1 false (Go.Proofs.enters_of Tryz.func49 (by kernel_rfl) rfl) (c_impl_areMatchable (rs) (fs) (l) (by omega) (by omega) (by omega) (by omega)) rfl (.cons rfl (.agg (.cons .t0 (.cons .t0 .nil))) (.cons rfl (.c .t0) .nil)) rfl rfl rfl) ?_
  refine d_take 3 rfl rfl (by kernel_rfl) (by kernel_rfl) (by kernel_rfl) (p_move rfl) ?_
  refine d_guard 4 rfl rfl (by kernel_rfl) (by kernel_rfl) (by kernel_rfl) rfl rfl (fun _ => p_move rfl) (fun g1 => ?_) (fun g1 => ?_)
  ·
    have g1' := g1
    refine d_guard 5 rfl rfl (by kernel_rfl) (by kernel_rfl) (by kernel_rfl) rfl rfl (fun _ => p_len rfl rfl) (fun _ => ?_) (nc g1)
    refine d_guard 6 rfl rfl (by kernel_rfl) (by kernel_rfl) (by kernel_rfl) rfl rfl (fun _ => p_bin rfl rfl rfl) (fun _ => ?_) (nc g1)
    refine d_take 7 rfl rfl (by kernel_rfl) (by kernel_rfl) (by kernel_rfl) (p_pickT rfl g1 rfl) ?_
    refine d_take 8 rfl rfl (by kernel_rfl) (by kernel_rfl) (by kernel_rfl) (p_move rfl) ?_
    refine d_guard 9 rfl rfl (by kernel_rfl) (by kernel_rfl) (by kernel_rfl) rfl rfl (fun _ => p_fieldb (off := 1) (by kernel_rfl) rfl) (fun g2 => ?_) (fun g2 => ?_)
    ·
      have g2' := of_decide_eq_true g2
      refine d_guard 10 rfl rfl (by kernel_rfl) (by kernel_rfl) (by kernel_rfl) rfl rfl (fun _ => p_load1b (by kernel_rfl) rfl rfl rfl) (fun _ => ?_) (nc g2)
      refine d_guard 11 rfl rfl (by kernel_rfl) (by kernel_rfl) (by kernel_rfl) rfl rfl (fun _ => p_move rfl) (fun _ => ?_) (nc g2)
      refine d_guard 12 rfl rfl (by kernel_rfl) (by kernel_rfl) (by kernel_rfl) rfl rfl (fun _ => p_move rfl) (fun _ => ?_) (nc g2)
      refine d_onlyG 13 rfl rfl (by kernel_rfl) rfl rfl rfl (fun _ => (o_call 1 2 false (Go.Proofs.enters_of Tryz.func59 (by kernel_rfl) rfl) (c_slices_Clone___int_int_ (b) (by omega)) rfl (.cons rfl (.c .t0) .nil) rfl rfl rfl)) (fun _ => ?_) (nc g2)
      refine d_onlyG 14 rfl rfl (by kernel_rfl) rfl rfl rfl (fun _ => (o_callD 1 (matchL (fs) (l) ((b))) (Go.Proofs.enters_of Tryz.func50 (by kernel_rfl) rfl) (fun U => c_impl_matches U  (fs) (l) ((b)) (by exact (mt_pre (by assumption)).1) (by exact (mt_pre (by assumption)).2.1) (by omega) (by exact (mt_pre (by assumption)).2.2.1) (by exact (mt_pre (by assumption)).2.2.2)) rfl rfl (.cons rfl .t0 (.cons rfl .t0 (.cons rfl (.own rfl) .nil))))) (fun _ => ?_) (nc g2)
      refine d_guard 15 rfl rfl (by kernel_rfl) (by kernel_rfl) (by kernel_rfl) rfl rfl (fun _ => p_leno rfl rfl rfl) (fun _ => ?_) (nc g2)
      refine d_guard 16 rfl rfl (by kernel_rfl) (by kernel_rfl) (by kernel_rfl) rfl rfl (fun _ => p_bin rfl rfl rfl) (fun _ => ?_) (nc g2)
      refine d_take 17 rfl rfl (by kernel_rfl) (by kernel_rfl) (by kernel_rfl) (p_pickT rfl g2 rfl) ?_
      refine d_take 18 rfl rfl (by kernel_rfl) (by kernel_rfl) (by kernel_rfl) (p_assign rfl) ?_
      refine d_end (by kernel_rfl) ?_
      refine t_ret Tryz.func14 (.tmp rfl .nil) rfl fun E S w u hI hd => ?_
      refine post_mk hI hd ?_ trivial rfl rfl rfl <;> clear hI hd
      all_goals (refine scB ?_; (try simp only [show (0 : Int).toNat = 0 from rfl, List.drop_zero] at *); clear hrs hfs hll ho gl; unfold hasE; grind)
    ·
      have g2' := of_decide_eq_false g2
      refine d_guard 10 rfl rfl (by kernel_rfl) (by kernel_rfl) (by kernel_rfl) rfl rfl (v := .c .top) (ncf g2) (ncf g2) (fun _ => ?_)
      refine d_guard 11 rfl rfl (by kernel_rfl) (by kernel_rfl) (by kernel_rfl) rfl rfl (v := .c .top) (ncf g2) (ncf g2) (fun _ => ?_)
      refine d_guard 12 rfl rfl (by kernel_rfl) (by kernel_rfl) (by kernel_rfl) rfl rfl (v := .c .top) (ncf g2) (ncf g2) (fun _ => ?_)
      refine d_guard 13 rfl rfl (by kernel_rfl) (by kernel_rfl) (by kernel_rfl) rfl rfl (v := .c .top) (ncf g2) (ncf g2) (fun _ => ?_)
      refine d_guard 14 rfl rfl (by kernel_rfl) (by kernel_rfl) (by kernel_rfl) rfl rfl (v := .c .top) (ncf g2) (ncf g2) (fun _ => ?_)
      refine d_guard 15 rfl rfl (by kernel_rfl) (by kernel_rfl) (by kernel_rfl) rfl rfl (v := .c .top) (ncf g2) (ncf g2) (fun _ => ?_)
      refine d_guard 16 rfl rfl (by kernel_rfl) (by kernel_rfl) (by kernel_rfl) rfl rfl (v := .c .top) (ncf g2) (ncf g2) (fun _ => ?_)
      refine d_take 17 rfl rfl (by kernel_rfl) (by kernel_rfl) (by kernel_rfl) (p_pickF rfl g2 rfl) ?_
      refine d_take 18 rfl rfl (by kernel_rfl) (by kernel_rfl) (by kernel_rfl) (p_assign rfl) ?_
      refine d_end (by kernel_rfl) ?_
      refine t_ret Tryz.func14 (.tmp rfl .nil) rfl fun E S w u hI hd => ?_
      refine post_mk hI hd ?_ trivial rfl rfl rfl <;> clear hI hd
      all_goals (refine scB ?_; (try simp only [show (0 : Int).toNat = 0 from rfl, List.drop_zero] at *); clear hrs hfs hll ho gl; unfold hasE; grind)
  ·
    have g1' := g1
    refine d_guard 5 rfl rfl (by kernel_rfl) (by kernel_rfl) (by kernel_rfl) rfl rfl (v := .c .top) (ncf g1) (ncf g1) (fun _ => ?_)
    refine d_guard 6 rfl rfl (by kernel_rfl) (by kernel_rfl) (by kernel_rfl) rfl rfl (v := .c .top) (ncf g1) (ncf g1) (fun _ => ?_)
    refine d_take 7 rfl rfl (by kernel_rfl) (by kernel_rfl) (by kernel_rfl) (p_pickF rfl g1 rfl) ?_
    refine d_take 8 rfl rfl (by kernel_rfl) (by kernel_rfl) (by kernel_rfl) (p_move rfl) ?_
    refine d_guard 9 rfl rfl (by kernel_rfl) (by kernel_rfl) (by kernel_rfl) rfl rfl (v := .c .top) (ncf rfl) (ncf rfl) (fun _ => ?_)
    refine d_guard 10 rfl rfl (by kernel_rfl) (by kernel_rfl) (by kernel_rfl) rfl rfl (v := .c .top) (ncf rfl) (ncf rfl) (fun _ => ?_)
    refine d_guard 11 rfl rfl (by kernel_rfl) (by kernel_rfl) (by kernel_rfl) rfl rfl (v := .c .top) (ncf rfl) (ncf rfl) (fun _ => ?_)
    refine d_guard 12 rfl rfl (by kernel_rfl) (by kernel_rfl) (by kernel_rfl) rfl rfl (v := .c .top) (ncf rfl) (ncf rfl) (fun _ => ?_)
    refine d_guard 13 rfl rfl (by kernel_rfl) (by kernel_rfl) (by kernel_rfl) rfl rfl (v := .c .top) (ncf rfl) (ncf rfl) (fun _ => ?_)
    refine d_guard 14 rfl rfl (by kernel_rfl) (by kernel_rfl) (by kernel_rfl) rfl rfl (v := .c .top) (ncf rfl) (ncf rfl) (fun _ => ?_)
    refine d_guard 15 rfl rfl (by kernel_rfl) (by kernel_rfl) (by kernel_rfl) rfl rfl (v := .c .top) (ncf rfl) (ncf rfl) (fun _ => ?_)
    refine d_guard 16 rfl rfl (by kernel_rfl) (by kernel_rfl) (by kernel_rfl) rfl rfl (v := .c .top) (ncf rfl) (ncf rfl) (fun _ => ?_)
    refine d_take 17 rfl rfl (by kernel_rfl) (by kernel_rfl) (by kernel_rfl) (p_pickF rfl rfl rfl) ?_
    refine d_take 18 rfl rfl (by kernel_rfl) (by kernel_rfl) (by kernel_rfl) (p_assign rfl) ?_
    refine d_end (by kernel_rfl) ?_
    refine t_ret Tryz.func14 (.tmp rfl .nil) rfl fun E S w u hI hd => ?_
    refine post_mk hI hd ?_ trivial rfl rfl rfl <;> clear hI hd
    all_goals (refine scB ?_; (try simp only [show (0 : Int).toNat = 0 from rfl, List.drop_zero] at *); clear hrs hfs hll ho gl; unfold hasE; grind)
set_option maxHeartbeats 1000000 in
set_option maxRecDepth 10000 in
theorem c_laws_inRows (l : List (List Int)) (x : List Int) (hs : szS (fun (x : List (Int)) => (x).length) l ≤ 1048576) : Pu Tryz.prog 15 [.c (.t none (.sl 1 (enSl 1 encI) (l))), .c (.t none (.sl 1 encI (x)))] [] 0 (.c (.t none (.v (.bool (hasR l x))))) := by
  refine pu_enter Tryz.func15 rfl (Nat.le_of_ble_eq_true rfl) fun w S => ?_
  have gl := sz_len (f := (fun (x : List (Int)) => (x).length)) (l := l)
  refine t_seq ?_
  refine t_region ?_
  refine r_op (o_assign rfl rfl) ?_
  refine r_end ?_
  refine t_seq ?_
  refine t_seq ?_
  refine t_region ?_
  refine r_op (o_assign rfl rfl) ?_
  refine r_end ?_
  refine t_block ?_
  refine t_loopL (fun m => ⟨[(0, some (.c (.t none (.sl 1 (enSl 1 encI) (l))))), (1, some (.c (.t none (.sl 1 encI (x))))), (5, some (.c (.t none (.v (.int .i64 ((m : Int)))))))], [], 0⟩ : Nat → St) (fun m => m ≤ l.length ∧ ∀ j z, j < m → l[j]? = some z → (fun y => decide (y = x)) z = false) (fun m => l.length - m) 0 ⟨⟨rfl, ⟨rfl, ⟨rfl, trivial⟩⟩⟩, trivial, rfl⟩ (by exact ⟨Nat.zero_le _, fun j z h => by omega⟩) ?_
  rintro m hI ih0
  try dsimp only at hI ih0
  obtain ⟨i1, i2⟩ := hI
  refine t_seq ?_
  refine t_seq ?_
  refine t_region ?_
  refine r_op (o_move rfl rfl) ?_
  refine r_op (o_move rfl rfl) ?_
  refine r_op (o_len rfl rfl rfl) ?_
  refine r_op (o_bin rfl rfl rfl rfl) ?_
  refine r_end ?_
  refine t_cond rfl (fun h1 => ?_) (fun h1 => ?_)
  ·
    have h1' := of_decide_eq_true h1
    refine t_skip ?_
    refine t_seq ?_
    refine t_block ?_
    refine t_seq ?_
    refine t_region ?_
    refine r_op (o_move rfl rfl) ?_
    refine r_op (o_move rfl rfl) ?_
    obtain ⟨z2, hz3, b4⟩ := at_get (xs := l) (n := (m : Int)) (by omega) (by omega)
    refine r_op (o_index rfl (by kernel_rfl) rfl rfl b4 hz3) ?_
    refine r_op (o_load1 rfl (by kernel_rfl) rfl rfl) ?_
    refine r_op (o_move rfl rfl) ?_
    refine r_op (o_call 0 0 false (Go.Proofs.enters_of Tryz.func32 (by kernel_rfl) rfl) (c_laws_sameInts (z2) (x) (by (have e1 := sz_at (f := (fun (x : List (Int)) => (x).length)) (l := l) (m := m) (by assumption); (try dsimp only at e1); omega))) rfl (.cons rfl (.c .t0) (.cons rfl (.c .t0) .nil)) rfl rfl rfl) ?_
    refine r_end ?_
    refine t_cond rfl (fun h5 => ?_) (fun h5 => ?_)
    ·
      have h5' := of_decide_eq_true h5
      refine t_seq ?_
      refine t_region ?_
      refine r_op (o_assign rfl rfl) ?_
      refine r_end ?_
      refine t_ret Tryz.func15 (.tmp rfl .nil) rfl fun E S w u hI hd => ?_
      refine post_mk hI hd ?_ trivial rfl rfl rfl <;> clear hI hd <;> (try clear ih0)
      all_goals (refine scB ?_; exact (any_true (p := fun y => decide (y = x)) (by assumption) (by assumption)).symm)
    ·
      have h5' := of_decide_eq_false h5
      refine t_skip ?_
      refine t_endblock ?_
      refine t_region ?_
      refine r_op (o_move rfl rfl) ?_
      refine r_op (o_bin rfl rfl rfl rfl) ?_
      refine r_op (o_assign rfl rfl) ?_
      refine r_end ?_
      refine t_le ?_ (ih0 (m + 1) (by (try dsimp only); omega) (by (try dsimp only); exact ⟨by omega, no_step i2 (by assumption) rfl (by assumption)⟩))
      exact ⟨⟨rfl, ⟨rfl, ⟨(eqI (wr64 (by omega) (by omega))), trivial⟩⟩⟩, trivial, rfl⟩
  ·
    have h1' := of_decide_eq_false h1
    refine t_exit rfl ?_
    refine t_seq ?_
    refine t_region ?_
    refine r_op (o_assign rfl rfl) ?_
    refine r_end ?_
    refine t_ret Tryz.func15 (.tmp rfl .nil) rfl fun E S w u hI hd => ?_
    refine post_mk hI hd ?_ trivial rfl rfl rfl <;> clear hI hd <;> (try clear ih0)
    all_goals (refine scB ?_; exact (any_false (p := fun y => decide (y = x)) i2 (by omega)).symm)
set_option maxHeartbeats 1000000 in
set_option maxRecDepth 10000 in
theorem c_spec_l11Bind (code : List Int) (i h : Int) (rs : Rels) (fs l : Atoms) (hc : code.length ≤ 1048576) (hi0 : 0 ≤ i) (hi1 : i ≤ code.length) (hx : instL rs fs) (hL : ∀ a ∈ l, atomL a) (hl4 : l.length ≤ 2) : MuG Tryz.prog 60 [.c (.ptr 0 0), .agg [.t none (.sl 3 (enS3 encS encI encB) (rs)), .t none (.sl 2 (enS2 encI (enSl 1 encI)) (fs))], .c (.t none (.sl 2 (enS2 encI (enSl 1 encI)) (l)))] [.t none (.sl 1 encU (code)), .t none (.v (.int .i64 (i))), .t none (.v (.int .i64 (h)))] (fun (⟨b, i2, h2⟩ : (List Int) × Int × Int) => b.length ≤ 5 ∧ (∀ x ∈ b, okI x) ∧ 0 ≤ i2 ∧ i2 ≤ code.length) (fun (⟨b, i2, h2⟩ : (List Int) × Int × Int) => [.t none (.sl 1 encU (code)), .t none (.v (.int .i64 (i2))), .t none (.v (.int .i64 (h2)))]) (fun (⟨b, i2, h2⟩ : (List Int) × Int × Int) => []) 1 (fun (⟨b, i2, h2⟩ : (List Int) × Int × Int) => .c (.t none (.sl 1 encI (b)))) := by
  refine mu_enterG Tryz.func60 rfl (Nat.le_of_ble_eq_true rfl) fun v0 w S M hM => ?_
  obtain ⟨hx1, hx2, hx3, hx4⟩ := hx; have s1 := szF_L hx4; have s2 := szA_L hL; have s3 := factL_ok hx4; have s4 := findL_121 (rs := rs) hx3 hl4; have s5 : ∀ r ∈ findL rs fs l, r.length ≤ 5 ∧ ∀ x ∈ r, okI x := fun r hr => ⟨Nat.le_of_eq (findL_five hr), findL_ok s3 hr⟩
  refine t_seq ?_
  refine t_region ?_
  refine r_op (o_box 1 rfl rfl rfl rfl) ?_
  refine r_op (o_assign rfl rfl) ?_
  refine r_end ?_
  refine t_seq ?_
  refine t_region ?_
  refine r_op (o_loadAb rfl (n := 2) (by kernel_rfl) (by kernel_rfl) rfl rfl rfl) ?_
  refine r_op (o_move rfl rfl) ?_
  refine r_op (o_call 2 4 false (Go.Proofs.enters_of Tryz.func11 (by kernel_rfl) rfl) (c_spec_FindMatches (rs) (fs) (l) (by omega) (by omega) (by omega) (by omega)) rfl (.cons rfl (.agg (.cons .t0 (.cons .t0 .nil))) (.cons rfl (.c .t0) .nil)) rfl rfl rfl) ?_
  refine r_op (o_assign rfl rfl) ?_
  refine r_end ?_
  refine t_seq ?_
  refine t_seq ?_
  refine t_region ?_
  refine r_op (o_move rfl rfl) ?_
  refine r_op (o_leno rfl rfl rfl rfl) ?_
  refine r_op (o_bin rfl rfl rfl rfl) ?_
  refine r_op (o_move rfl rfl) ?_
  refine r_guard rfl rfl rfl (fun g1 => ?_) (fun g1 => ?_)
  ·
    have g1' := of_decide_eq_true g1
    refine r_op (o_move rfl rfl) ?_
    refine r_guard rfl rfl rfl (fun _ => ?_) (nc g1)
    refine r_opX (o_callGM 0 4 5 (pv := some (v0)) (Go.Proofs.enters_of Tryz.func61 (by kernel_rfl) rfl) (c_spec_l1Once (code) (i) (h) (4) (by omega) (by omega) (by omega) (by omega) (by omega)) rfl rfl (.cur rfl (.cons rfl .nil)) rfl (fun ⟨_, _, _⟩ => rfl) (fun _ => rfl) (fun ⟨_, _, _⟩ => rfl) rfl rfl) ?_
    rintro ⟨⟨b2, i23, h24⟩, hq5⟩
    try dsimp only at hq5
    try dsimp only
    refine r_guard rfl rfl rfl (fun _ => ?_) (nc g1)
    refine r_op (o_not rfl rfl) ?_
    refine r_op (o_pickT rfl rfl g1 rfl) ?_
    refine r_end ?_
    refine t_cond rfl (fun h7 => ?_) (fun h7 => ?_)
    ·
      have h7' := (bnt h7)
      refine t_seq ?_
      refine t_region ?_
      refine r_op (o_move rfl rfl) ?_
      refine r_op (o_move rfl rfl) ?_
      refine r_op (o_move rfl rfl) ?_
      refine r_op (o_leno rfl rfl rfl rfl) ?_
      refine r_opX (o_callGM 0 5 6 (pv := some (v0)) (Go.Proofs.enters_of Tryz.func81 (by kernel_rfl) rfl) (c_spec_l1Below ((code)) ((i23)) ((h24)) (((findL (rs) (fs) (l)).length : Int)) (by omega) (by omega) (by omega) (by omega) (by omega)) rfl rfl (.cur rfl (.cons rfl .nil)) rfl (fun ⟨_, _, _⟩ => rfl) (fun _ => rfl) (fun ⟨_, _, _⟩ => rfl) rfl rfl) ?_
      rintro ⟨⟨x8, i29, h210⟩, hq11⟩
      try dsimp only at hq11
      try dsimp only
      obtain ⟨q12, q13⟩ := hq11
      obtain ⟨z14, hz15, b16⟩ := at_get (xs := findL (rs) (fs) (l)) (n := (x8)) (by omega) (by omega)
      refine r_op (o_indexo rfl (by kernel_rfl) rfl rfl rfl b16 (at_lt b16 hz15)) ?_
      refine r_op (o_load1o rfl (by kernel_rfl) rfl rfl rfl hz15) ?_
      refine r_op (o_assign rfl rfl) ?_
      refine r_end ?_
      refine gt_freeze 3 rfl (frz_cur (i := 3) hM rfl rfl rfl) ?_
      refine t_ret Tryz.func60 (.tmp rfl .nil) rfl fun E S w u hI hd => ?_
      refine post_mkG (⟨z14, (i29), (h210)⟩) ?_ hI hd ?_ ⟨rfl, trivial⟩ rfl rfl <;> clear hI hd <;> (try clear ih0)
      · (try dsimp only) <;> ((exact ⟨(s5 _ (List.mem_of_getElem? (by assumption))).1, (s5 _ (List.mem_of_getElem? (by assumption))).2, by omega⟩))
      · rfl
    ·
      have h7' := (bnf h7)
      refine t_skip ?_
      refine t_seq ?_
      refine t_region ?_
      refine r_op (o_lit0 5 (e := 3) (sz := 1) (zs := [.int .i64 (0)]) encI rfl rfl (by kernel_rfl) rfl) ?_
      refine r_op (o_assign rfl rfl) ?_
      refine r_end ?_
      refine t_seq ?_
      refine t_block ?_
      refine t_loopL (fun (b, i3, h3) => ⟨[(0, some (.c (.ptr 0 0))), (6, some (.c (.t none (.v (.slice none 0 0))))), (8, some (.c (.own 5)))], [(0, some (.pbox (v0) [.t none (.sl 1 encU (code)), .t none (.v (.int .i64 (i3))), .t none (.v (.int .i64 (h3)))])), (1, some (.box [.t none (.sl 3 (enS3 encS encI encB) (rs)), .t none (.sl 2 (enS2 encI (enSl 1 encI)) (fs))])), (3, some (.row none 34 true 1 (enSl 1 encI) (findL (rs) (fs) (l)))), (5, some (.row none 3 true 1 encI (b)))], 6⟩ : List Int × Int × Int → St) (fun (b, i3, h3) => b.length ≤ 5 ∧ (∀ x ∈ b, okI x) ∧ (0 ≤ i3 ∧ i3 ≤ code.length)) (fun (b, i3, h3) => 5 - b.length) ([], (i23), (h24)) ⟨⟨rfl, ⟨rfl, ⟨rfl, trivial⟩⟩⟩, ⟨rfl, ⟨rfl, ⟨rfl, ⟨rfl, trivial⟩⟩⟩⟩, rfl⟩ (by exact ⟨by simp, fun x hx => by simp at hx, by omega⟩) ?_
      rintro ⟨b, i3, h3⟩ hI ih0
      try dsimp only at hI ih0
      obtain ⟨j1, j2, j3⟩ := hI
      refine t_seq ?_
      refine t_seq ?_
      refine t_region ?_
      refine r_op (o_move rfl rfl) ?_
      refine r_op (o_leno rfl rfl rfl rfl) ?_
      refine r_op (o_move rfl rfl) ?_
      refine r_opX (o_callGM 0 6 7 (pv := some (v0)) (Go.Proofs.enters_of Tryz.func81 (by kernel_rfl) rfl) (c_spec_l1Below (code) (i3) (h3) (12) (by omega) (by omega) (by omega) (by omega) (by omega)) rfl rfl (.cur rfl (.cons rfl .nil)) rfl (fun ⟨_, _, _⟩ => rfl) (fun _ => rfl) (fun ⟨_, _, _⟩ => rfl) rfl rfl) ?_
      rintro ⟨⟨x17, i218, h219⟩, hq20⟩
      try dsimp only at hq20
      try dsimp only
      obtain ⟨q21, q22⟩ := hq20
      refine r_op (o_binD rfl rfl rfl (quo_11 rfl (by omega))) ?_
      refine r_op (o_bin rfl rfl rfl rfl) ?_
      refine r_op (o_bin rfl rfl rfl rfl) ?_
      refine r_end ?_
      refine t_cond rfl (fun h23 => ?_) (fun h23 => ?_)
      ·
        have h23' := of_decide_eq_true h23
        refine t_skip ?_
        refine t_block ?_
        refine t_region ?_
        refine r_op (o_move rfl rfl) ?_
        refine r_op (o_move rfl rfl) ?_
        refine r_op (o_litS 7 (e := 3) (sz := 1) (zs := [.int .i64 (0)]) rfl rfl (by kernel_rfl) rfl rfl rfl rfl rfl) ?_
        refine r_freezeB 7 (enc := encI) ([10, 10, 0, 1, 2, -1, -2]) rfl (.cons (.cons (.cons (.cons (.cons (.cons (.cons .nil))))))) (frz_cur (i := 7) hM rfl rfl rfl) ?_
        refine r_opX (o_callGM 0 8 9 (pv := some (v0)) (Go.Proofs.enters_of Tryz.func120 (by kernel_rfl) rfl) (c_spec_l1PickInt ((code)) ((i218)) ((h219)) ([10, 10, 0, 1, 2, -1, -2]) (by omega) (by omega) (by omega) (by (simp only [List.length_cons, List.length_nil]; omega)) (by (simp only [List.length_cons, List.length_nil]; omega))) rfl rfl (.cur rfl (.cons rfl .nil)) rfl (fun ⟨_, _, _⟩ => rfl) (fun _ => rfl) (fun ⟨_, _, _⟩ => rfl) rfl rfl) ?_
        rintro ⟨⟨x24, i225, h226⟩, hq27⟩
        try dsimp only at hq27
        try dsimp only
        obtain ⟨q28, q29⟩ := hq27
        refine r_op (o_litS 9 (e := 3) (sz := 1) (zs := [.int .i64 (0)]) rfl rfl (by kernel_rfl) rfl rfl rfl rfl rfl) ?_
        refine r_op (o_append 5 (e := 3) (sz := 1) (by' := 8) ((x24)) rfl (by kernel_rfl) rfl rfl rfl rfl rfl rfl (.cons .sc .nil) rfl (by omega) (by omega)) ?_
        refine r_op (o_assign rfl rfl) ?_
        refine r_end ?_
        refine t_endblock ?_
        refine t_le ?_ (ih0 (b ++ [(x24)], (i225), (h226)) (by (try dsimp only); (simp only [List.length_append, List.length_singleton, IntKind.wrap_i64] at *; omega)) (by (try dsimp only); exact ⟨(by simp only [List.length_append, List.length_singleton, IntKind.wrap_i64] at *; omega), mem_snoc j2 (pick7 (by assumption)), by omega⟩))
        exact ⟨⟨rfl, ⟨rfl, ⟨rfl, trivial⟩⟩⟩, ⟨rfl, ⟨rfl, ⟨rfl, ⟨rfl, trivial⟩⟩⟩⟩, rfl⟩
      ·
        have h23' := of_decide_eq_false h23
        refine t_exit rfl ?_
        refine t_seq ?_
        refine t_region ?_
        refine r_op (o_move rfl rfl) ?_
        refine r_op (o_assign rfl rfl) ?_
        refine r_end ?_
        refine gt_freeze 5 rfl (frz_cur (i := 5) hM rfl rfl rfl) ?_
        refine t_ret Tryz.func60 (.tmp rfl .nil) rfl fun E S w u hI hd => ?_
        refine post_mkG (⟨b, (i218), (h219)⟩) ?_ hI hd ?_ ⟨rfl, trivial⟩ rfl rfl <;> clear hI hd <;> (try clear ih0)
        · (try dsimp only) <;> ((exact ⟨j1, j2, by omega⟩))
        · rfl
  ·
    have g1' := of_decide_eq_false g1
    refine r_guard rfl rfl rfl (ncf g1) (fun _ => ?_)
    refine r_guard rfl rfl rfl (ncf g1) (fun _ => ?_)
    refine r_op (o_pickF rfl rfl g1 rfl) ?_
    refine r_end ?_
    refine t_cond rfl (ncf rfl) (fun _ => ?_)
    refine t_skip ?_
    refine t_seq ?_
    refine t_region ?_
    refine r_op (o_lit0 4 (e := 3) (sz := 1) (zs := [.int .i64 (0)]) encI rfl rfl (by kernel_rfl) rfl) ?_
    refine r_op (o_assign rfl rfl) ?_
    refine r_end ?_
    refine t_seq ?_
    refine t_block ?_
    refine t_loopL (fun (b, i3, h3) => ⟨[(0, some (.c (.ptr 0 0))), (6, some (.c (.t none (.v (.slice none 0 0))))), (8, some (.c (.own 4)))], [(0, some (.pbox (v0) [.t none (.sl 1 encU (code)), .t none (.v (.int .i64 (i3))), .t none (.v (.int .i64 (h3)))])), (1, some (.box [.t none (.sl 3 (enS3 encS encI encB) (rs)), .t none (.sl 2 (enS2 encI (enSl 1 encI)) (fs))])), (3, some (.row none 34 true 1 (enSl 1 encI) (findL (rs) (fs) (l)))), (4, some (.row none 3 true 1 encI (b)))], 5⟩ : List Int × Int × Int → St) (fun (b, i3, h3) => b.length ≤ 5 ∧ (∀ x ∈ b, okI x) ∧ (0 ≤ i3 ∧ i3 ≤ code.length)) (fun (b, i3, h3) => 5 - b.length) ([], i, h) ⟨⟨rfl, ⟨rfl, ⟨rfl, trivial⟩⟩⟩, ⟨rfl, ⟨rfl, ⟨rfl, ⟨rfl, trivial⟩⟩⟩⟩, rfl⟩ (by exact ⟨by simp, fun x hx => by simp at hx, by omega⟩) ?_
    rintro ⟨b, i3, h3⟩ hI ih0
    try dsimp only at hI ih0
    obtain ⟨j1, j2, j3⟩ := hI
    refine t_seq ?_
    refine t_seq ?_
    refine t_region ?_
    refine r_op (o_move rfl rfl) ?_
    refine r_op (o_leno rfl rfl rfl rfl) ?_
    refine r_op (o_move rfl rfl) ?_
    refine r_opX (o_callGM 0 5 6 (pv := some (v0)) (Go.Proofs.enters_of Tryz.func81 (by kernel_rfl) rfl) (c_spec_l1Below (code) (i3) (h3) (12) (by omega) (by omega) (by omega) (by omega) (by omega)) rfl rfl (.cur rfl (.cons rfl .nil)) rfl (fun ⟨_, _, _⟩ => rfl) (fun _ => rfl) (fun ⟨_, _, _⟩ => rfl) rfl rfl) ?_
    rintro ⟨⟨x30, i231, h232⟩, hq33⟩
    try dsimp only at hq33
    try dsimp only
    obtain ⟨q34, q35⟩ := hq33
    refine r_op (o_binD rfl rfl rfl (quo_11 rfl (by omega))) ?_
    refine r_op (o_bin rfl rfl rfl rfl) ?_
    refine r_op (o_bin rfl rfl rfl rfl) ?_
    refine r_end ?_
    refine t_cond rfl (fun h36 => ?_) (fun h36 => ?_)
    ·
      have h36' := of_decide_eq_true h36
      refine t_skip ?_
      refine t_block ?_
      refine t_region ?_
      refine r_op (o_move rfl rfl) ?_
      refine r_op (o_move rfl rfl) ?_
      refine r_op (o_litS 6 (e := 3) (sz := 1) (zs := [.int .i64 (0)]) rfl rfl (by kernel_rfl) rfl rfl rfl rfl rfl) ?_
      refine r_freezeB 6 (enc := encI) ([10, 10, 0, 1, 2, -1, -2]) rfl (.cons (.cons (.cons (.cons (.cons (.cons (.cons .nil))))))) (frz_cur (i := 6) hM rfl rfl rfl) ?_
      refine r_opX (o_callGM 0 7 8 (pv := some (v0)) (Go.Proofs.enters_of Tryz.func120 (by kernel_rfl) rfl) (c_spec_l1PickInt ((code)) ((i231)) ((h232)) ([10, 10, 0, 1, 2, -1, -2]) (by omega) (by omega) (by omega) (by (simp only [List.length_cons, List.length_nil]; omega)) (by (simp only [List.length_cons, List.length_nil]; omega))) rfl rfl (.cur rfl (.cons rfl .nil)) rfl (fun ⟨_, _, _⟩ => rfl) (fun _ => rfl) (fun ⟨_, _, _⟩ => rfl) rfl rfl) ?_
      rintro ⟨⟨x37, i238, h239⟩, hq40⟩
      try dsimp only at hq40
      try dsimp only
      obtain ⟨q41, q42⟩ := hq40
      refine r_op (o_litS 8 (e := 3) (sz := 1) (zs := [.int .i64 (0)]) rfl rfl (by kernel_rfl) rfl rfl rfl rfl rfl) ?_
      refine r_op (o_append 4 (e := 3) (sz := 1) (by' := 8) ((x37)) rfl (by kernel_rfl) rfl rfl rfl rfl rfl rfl (.cons .sc .nil) rfl (by omega) (by omega)) ?_
      refine r_op (o_assign rfl rfl) ?_
      refine r_end ?_
      refine t_endblock ?_
      refine t_le ?_ (ih0 (b ++ [(x37)], (i238), (h239)) (by (try dsimp only); (simp only [List.length_append, List.length_singleton, IntKind.wrap_i64] at *; omega)) (by (try dsimp only); exact ⟨(by simp only [List.length_append, List.length_singleton, IntKind.wrap_i64] at *; omega), mem_snoc j2 (pick7 (by assumption)), by omega⟩))
      exact ⟨⟨rfl, ⟨rfl, ⟨rfl, trivial⟩⟩⟩, ⟨rfl, ⟨rfl, ⟨rfl, ⟨rfl, trivial⟩⟩⟩⟩, rfl⟩
    ·
      have h36' := of_decide_eq_false h36
      refine t_exit rfl ?_
      refine t_seq ?_
      refine t_region ?_
      refine r_op (o_move rfl rfl) ?_
      refine r_op (o_assign rfl rfl) ?_
      refine r_end ?_
      refine gt_freeze 4 rfl (frz_cur (i := 4) hM rfl rfl rfl) ?_
      refine t_ret Tryz.func60 (.tmp rfl .nil) rfl fun E S w u hI hd => ?_
      refine post_mkG (⟨b, (i231), (h232)⟩) ?_ hI hd ?_ ⟨rfl, trivial⟩ rfl rfl <;> clear hI hd <;> (try clear ih0)
      · (try dsimp only) <;> ((exact ⟨j1, j2, by omega⟩))
      · rfl
set_option maxHeartbeats 1000000 in
set_option maxRecDepth 10000 in
theorem c_spec_DrawHasExtension (code : List Int) (hc : code.length ≤ 1048576) : PuG Tryz.prog 16 [.c (.t none (.sl 1 encU (code)))] (fun (⟨rs, fs, b, v⟩ : Rels × Atoms × Atoms × (List Int)) => instL rs fs ∧ b.length ≤ 3 ∧ (∀ a ∈ b, atomL a) ∧ v.length ≤ 5 ∧ (∀ x ∈ v, okI x)) (fun (⟨rs, fs, b, v⟩ : Rels × Atoms × Atoms × (List Int)) => []) 0 (fun (⟨rs, fs, b, v⟩ : Rels × Atoms × Atoms × (List Int)) => .tup [(true, [.t none (.sl 3 (enS3 encS encI encB) (rs)), .t none (.sl 2 (enS2 encI (enSl 1 encI)) (fs))]), (false, [.t none (.sl 2 (enS2 encI (enSl 1 encI)) (b))]), (false, [.t none (.sl 1 encI (v))])]) := by
  refine pu_enterG Tryz.func16 rfl (Nat.le_of_ble_eq_true rfl) fun w S => ?_
  refine t_seq ?_
  refine t_region ?_
  refine r_op (o_alloc 0 (zs := [.slice none 0 0, .slice none 0 0]) rfl rfl (by kernel_rfl) rfl) ?_
  refine r_op (o_assign rfl rfl) ?_
  refine r_op (o_assign rfl rfl) ?_
  refine r_end ?_
  refine t_seq ?_
  refine t_region ?_
  refine r_op (o_move rfl rfl) ?_
  refine r_opX (o_callG 1 4 (Go.Proofs.enters_of Tryz.func48 (by kernel_rfl) rfl) (c_spec_l11Both (code) (by omega)) rfl (.cons rfl (.c .t0) .nil) rfl rfl) ?_
  rintro ⟨⟨rs1, fs2, b3, hs4, e5, lv6, rv7, i28, h29⟩, hq10⟩
  try dsimp only at hq10
  try dsimp only
  obtain ⟨q11, q12, q13⟩ := hq10
  have dd : depL (b3, hs4, e5, lv6, rv7) := (by assumption)
  refine r_op (o_move rfl rfl) ?_
  refine r_op (o_extract rfl rfl rfl rfl) ?_
  refine r_op (o_extract rfl rfl rfl rfl) ?_
  refine r_op (o_extract rfl rfl rfl rfl) ?_
  refine r_op (o_alloc 4 (zs := [.slice none 0 0, .slice none 0 0]) rfl rfl (by kernel_rfl) rfl) ?_
  refine r_op (o_alloc 5 (zs := [.slice none 0 0, .slice none 0 0, .bool (false), .int .i64 (0), .int .i64 (0)]) rfl rfl (by kernel_rfl) rfl) ?_
  refine r_op (o_assign rfl rfl) ?_
  refine r_op (o_storeb (n := 2) (by kernel_rfl) rfl rfl rfl rfl rfl rfl) ?_
  refine r_op (o_storeb (n := 5) (by kernel_rfl) rfl rfl rfl rfl rfl rfl) ?_
  refine r_end ?_
  refine t_seq ?_
  refine t_region ?_
  refine r_op (o_move rfl rfl) ?_
  refine r_op (o_loadAb rfl (n := 2) (by kernel_rfl) (by kernel_rfl) rfl rfl rfl) ?_
  refine r_op (o_fieldb rfl (off := 0) (by kernel_rfl) rfl) ?_
  refine r_op (o_load1b rfl (by kernel_rfl) rfl rfl rfl) ?_
  refine r_opX (o_callGM 3 6 7 (pv := none) (Go.Proofs.enters_of Tryz.func60 (by kernel_rfl) rfl) (c_spec_l11Bind ((code)) ((i28)) ((h29)) ((rs1)) ((fs2)) ((b3)) (by omega) (by omega) (by omega) (by omega) (by exact dd.2.2.1) (by exact dd.1.2)) rfl rfl (.cur rfl (.agg rfl rfl (.cons rfl .nil))) rfl (fun ⟨_, _, _⟩ => rfl) (fun _ => rfl) (fun ⟨_, _, _⟩ => rfl) rfl rfl) ?_
  rintro ⟨⟨b14, i215, h216⟩, hq17⟩
  try dsimp only at hq17
  try dsimp only
  obtain ⟨q18, q19, q20⟩ := hq17
  refine r_op (o_assign rfl rfl) ?_
  refine r_end ?_
  refine t_seq ?_
  refine t_seq ?_
  refine t_region ?_
  refine r_op (o_move rfl rfl) ?_
  refine r_opX (o_callGM 3 7 8 (pv := none) (Go.Proofs.enters_of Tryz.func61 (by kernel_rfl) rfl) (c_spec_l1Once (((code))) ((i215)) ((h216)) (2) (by omega) (by omega) (by omega) (by omega) (by omega)) rfl rfl (.cur rfl (.cons rfl .nil)) rfl (fun ⟨_, _, _⟩ => rfl) (fun _ => rfl) (fun ⟨_, _, _⟩ => rfl) rfl rfl) ?_
  rintro ⟨⟨b21, i222, h223⟩, hq24⟩
  try dsimp only at hq24
  try dsimp only
  refine r_end ?_
  refine t_cond rfl (fun h26 => ?_) (fun h26 => ?_)
  ·
    have h26' := h26
    refine t_seq ?_
    refine t_draw (fun i => !(Nat.beq i 4)) (by kernel_rfl) ?_
    refine d_take 0 rfl rfl (by kernel_rfl) (by kernel_rfl) (by kernel_rfl) (p_loadAb (n := 2) (by kernel_rfl) (by kernel_rfl) rfl rfl rfl) ?_
    refine d_takeP 1 rfl rfl (by kernel_rfl) (by kernel_rfl) (by kernel_rfl) (pw_fieldb (off := 1) (by kernel_rfl) rfl) ?_
    refine d_takeP 3 rfl rfl (by kernel_rfl) (by kernel_rfl) (by kernel_rfl) (pw_move rfl) ?_
    refine d_two 2 4 rfl rfl (by kernel_rfl) rfl rfl (o_load1b rfl (by kernel_rfl) rfl rfl rfl) (o_storeb (n := 2) (by kernel_rfl) rfl rfl rfl rfl rfl rfl) ?_ ?_
    ·
      refine d_only 4 rfl (by kernel_rfl) rfl (o_storeb (n := 2) (by kernel_rfl) rfl rfl rfl rfl rfl rfl) ?_
      refine d_take 5 rfl rfl (by kernel_rfl) (by kernel_rfl) (by kernel_rfl) (p_assign rfl) ?_
      refine d_take 6 rfl rfl (by kernel_rfl) (by kernel_rfl) (by kernel_rfl) (p_assign rfl) ?_
      refine d_end (by kernel_rfl) ?_
      refine t_ret Tryz.func16 (.cells (n := 2) (by kernel_rfl) (by kernel_rfl) rfl rfl rfl (.tmp rfl (.tmp rfl .nil))) rfl fun E S w u hI hd => ?_
      refine post_mkG (⟨(rs1), (fs2), (hs4), (b14)⟩) ?_ hI hd ?_ trivial rfl rfl <;> clear hI hd
      · (try dsimp only) <;> ((exact ⟨by assumption, dd.2.1, dd.2.2.2.1, by assumption, by assumption⟩))
      · rfl
    ·
      refine d_take 2 rfl rfl (by kernel_rfl) (by kernel_rfl) (by kernel_rfl) (p_load1b (by kernel_rfl) rfl rfl rfl) ?_
      refine d_take 5 rfl rfl (by kernel_rfl) (by kernel_rfl) (by kernel_rfl) (p_assign rfl) ?_
      refine d_take 6 rfl rfl (by kernel_rfl) (by kernel_rfl) (by kernel_rfl) (p_assign rfl) ?_
      refine d_end (by kernel_rfl) ?_
      refine t_ret Tryz.func16 (.cells (n := 2) (by kernel_rfl) (by kernel_rfl) rfl rfl rfl (.tmp rfl (.tmp rfl .nil))) rfl fun E S w u hI hd => ?_
      refine post_mkG (⟨(rs1), (fs2), (hs4), (b14)⟩) ?_ hI hd ?_ trivial rfl rfl <;> clear hI hd
      · (try dsimp only) <;> ((exact ⟨by assumption, dd.2.1, dd.2.2.2.1, by assumption, by assumption⟩))
      · rfl
  ·
    have h26' := h26
    refine t_skip ?_
    refine t_seq ?_
    refine t_draw (fun i => !(Nat.beq i 4)) (by kernel_rfl) ?_
    refine d_take 0 rfl rfl (by kernel_rfl) (by kernel_rfl) (by kernel_rfl) (p_loadAb (n := 2) (by kernel_rfl) (by kernel_rfl) rfl rfl rfl) ?_
    refine d_takeP 1 rfl rfl (by kernel_rfl) (by kernel_rfl) (by kernel_rfl) (pw_fieldb (off := 0) (by kernel_rfl) rfl) ?_
    refine d_takeP 3 rfl rfl (by kernel_rfl) (by kernel_rfl) (by kernel_rfl) (pw_move rfl) ?_
    refine d_two 2 4 rfl rfl (by kernel_rfl) rfl rfl (o_load1b rfl (by kernel_rfl) rfl rfl rfl) (o_storeb (n := 2) (by kernel_rfl) rfl rfl rfl rfl rfl rfl) ?_ ?_
    ·
      refine d_only 4 rfl (by kernel_rfl) rfl (o_storeb (n := 2) (by kernel_rfl) rfl rfl rfl rfl rfl rfl) ?_
      refine d_take 5 rfl rfl (by kernel_rfl) (by kernel_rfl) (by kernel_rfl) (p_assign rfl) ?_
      refine d_take 6 rfl rfl (by kernel_rfl) (by kernel_rfl) (by kernel_rfl) (p_assign rfl) ?_
      refine d_end (by kernel_rfl) ?_
      refine t_ret Tryz.func16 (.cells (n := 2) (by kernel_rfl) (by kernel_rfl) rfl rfl rfl (.tmp rfl (.tmp rfl .nil))) rfl fun E S w u hI hd => ?_
      refine post_mkG (⟨(rs1), (fs2), (b3), (b14)⟩) ?_ hI hd ?_ trivial rfl rfl <;> clear hI hd
      · (try dsimp only) <;> ((exact ⟨by assumption, Nat.le_trans dd.1.2 (by decide), dd.2.2.1, by assumption, by assumption⟩))
      · rfl
    ·
      refine d_take 2 rfl rfl (by kernel_rfl) (by kernel_rfl) (by kernel_rfl) (p_load1b (by kernel_rfl) rfl rfl rfl) ?_
      refine d_take 5 rfl rfl (by kernel_rfl) (by kernel_rfl) (by kernel_rfl) (p_assign rfl) ?_
      refine d_take 6 rfl rfl (by kernel_rfl) (by kernel_rfl) (by kernel_rfl) (p_assign rfl) ?_
      refine d_end (by kernel_rfl) ?_
      refine t_ret Tryz.func16 (.cells (n := 2) (by kernel_rfl) (by kernel_rfl) rfl rfl rfl (.tmp rfl (.tmp rfl .nil))) rfl fun E S w u hI hd => ?_
      refine post_mkG (⟨(rs1), (fs2), (b3), (b14)⟩) ?_ hI hd ?_ trivial rfl rfl <;> clear hI hd
      · (try dsimp only) <;> ((exact ⟨by assumption, Nat.le_trans dd.1.2 (by decide), dd.2.2.1, by assumption, by assumption⟩))
      · rfl
set_option maxHeartbeats 1000000 in
set_option maxRecDepth 10000 in
theorem c_spec_DrawInstantiate (code : List Int) (hc : code.length ≤ 1048576) : PuG Tryz.prog 17 [.c (.t none (.sl 1 encU (code)))] (fun (⟨r, ts, v⟩ : Int × (List Int) × (List Int)) => atomL (r, ts) ∧ v.length ≤ 5 ∧ (∀ x ∈ v, okI x)) (fun (⟨r, ts, v⟩ : Int × (List Int) × (List Int)) => []) 0 (fun (⟨r, ts, v⟩ : Int × (List Int) × (List Int)) => .tup [(true, [.t none (.v (.int .i64 (r))), .t none (.sl 1 encI (ts))]), (false, [.t none (.sl 1 encI (v))])]) := by
  refine pu_enterG Tryz.func17 rfl (Nat.le_of_ble_eq_true rfl) fun w S => ?_
  refine t_seq ?_
  refine t_region ?_
  refine r_op (o_alloc 0 (zs := [.int .i64 (0), .slice none 0 0]) rfl rfl (by kernel_rfl) rfl) ?_
  refine r_op (o_assign rfl rfl) ?_
  refine r_end ?_
  refine t_seq ?_
  refine t_region ?_
  refine r_op (o_move rfl rfl) ?_
  refine r_opX (o_callG 1 4 (Go.Proofs.enters_of Tryz.func48 (by kernel_rfl) rfl) (c_spec_l11Both (code) (by omega)) rfl (.cons rfl (.c .t0) .nil) rfl rfl) ?_
  rintro ⟨⟨rs1, fs2, b3, hs4, e5, lv6, rv7, i28, h29⟩, hq10⟩
  try dsimp only at hq10
  try dsimp only
  obtain ⟨q11, q12, q13⟩ := hq10
  have dd : depL (b3, hs4, e5, lv6, rv7) := (by assumption); have dd0 := dd.1.1; (try dsimp only at dd0)
  refine r_op (o_move rfl rfl) ?_
  refine r_op (o_extract rfl rfl rfl rfl) ?_
  refine r_op (o_extract rfl rfl rfl rfl) ?_
  refine r_op (o_extract rfl rfl rfl rfl) ?_
  refine r_op (o_alloc 4 (zs := [.slice none 0 0, .slice none 0 0]) rfl rfl (by kernel_rfl) rfl) ?_
  refine r_op (o_alloc 5 (zs := [.slice none 0 0, .slice none 0 0, .bool (false), .int .i64 (0), .int .i64 (0)]) rfl rfl (by kernel_rfl) rfl) ?_
  refine r_op (o_assign rfl rfl) ?_
  refine r_op (o_storeb (n := 2) (by kernel_rfl) rfl rfl rfl rfl rfl rfl) ?_
  refine r_op (o_storeb (n := 5) (by kernel_rfl) rfl rfl rfl rfl rfl rfl) ?_
  refine r_end ?_
  refine t_seq ?_
  refine t_draw (fun i => !(Nat.beq i 8 || Nat.beq i 9)) (by kernel_rfl) ?_
  refine d_takeP 0 rfl rfl (by kernel_rfl) (by kernel_rfl) (by kernel_rfl) (pw_fieldb (off := 0) (by kernel_rfl) rfl) ?_
  refine d_take 4 rfl rfl (by kernel_rfl) (by kernel_rfl) (by kernel_rfl) (p_move rfl) ?_
  refine d_take 5 rfl rfl (by kernel_rfl) (by kernel_rfl) (by kernel_rfl) (p_loadAb (n := 2) (by kernel_rfl) (by kernel_rfl) rfl rfl rfl) ?_
  refine d_take 6 rfl rfl (by kernel_rfl) (by kernel_rfl) (by kernel_rfl) (p_fieldb (off := 0) (by kernel_rfl) rfl) ?_
  refine d_take 7 rfl rfl (by kernel_rfl) (by kernel_rfl) (by kernel_rfl) (p_load1b (by kernel_rfl) rfl rfl rfl) ?_
  refine d_twoX 1 8 rfl rfl (by kernel_rfl) rfl rfl (osX (o_load1b rfl (by kernel_rfl) rfl rfl rfl)) (o_callGM 3 6 7 (pv := none) (Go.Proofs.enters_of Tryz.func60 (by kernel_rfl) rfl) (c_spec_l11Bind ((code)) ((i28)) ((h29)) ((rs1)) ((fs2)) ((b3)) (by omega) (by omega) (by omega) (by omega) (by exact dd.2.2.1) (by exact dd.1.2)) rfl rfl (.cur rfl (.agg rfl rfl (.cons rfl .nil))) rfl (fun ⟨_, _, _⟩ => rfl) (fun _ => rfl) (fun ⟨_, _, _⟩ => rfl) rfl rfl) ?_ ?_
  ·
    rintro ⟨⟩
    obtain ⟨z21, hz22, b23⟩ := at_get (xs := (b3)) (n := 0) (by omega) (by omega)
    refine d_twoX 2 8 rfl rfl (by kernel_rfl) rfl rfl (osX (o_index rfl (by kernel_rfl) rfl rfl b23 hz22)) (o_callGM 3 6 7 (pv := none) (Go.Proofs.enters_of Tryz.func60 (by kernel_rfl) rfl) (c_spec_l11Bind ((code)) ((i28)) ((h29)) ((rs1)) ((fs2)) ((b3)) (by omega) (by omega) (by omega) (by omega) (by exact dd.2.2.1) (by exact dd.1.2)) rfl rfl (.cur rfl (.agg rfl rfl (.cons rfl .nil))) rfl (fun ⟨_, _, _⟩ => rfl) (fun _ => rfl) (fun ⟨_, _, _⟩ => rfl) rfl rfl) ?_ ?_
    ·
      rintro ⟨⟩
      refine d_twoX 3 8 rfl rfl (by kernel_rfl) rfl rfl (osX (o_loadA rfl (n := 2) (by kernel_rfl) (by kernel_rfl) rfl rfl)) (o_callGM 3 6 7 (pv := none) (Go.Proofs.enters_of Tryz.func60 (by kernel_rfl) rfl) (c_spec_l11Bind ((code)) ((i28)) ((h29)) ((rs1)) ((fs2)) ((b3)) (by omega) (by omega) (by omega) (by omega) (by exact dd.2.2.1) (by exact dd.1.2)) rfl rfl (.cur rfl (.agg rfl rfl (.cons rfl .nil))) rfl (fun ⟨_, _, _⟩ => rfl) (fun _ => rfl) (fun ⟨_, _, _⟩ => rfl) rfl rfl) ?_ ?_
      ·
        rintro ⟨⟩
        refine d_onlyX 8 rfl (by kernel_rfl) rfl (o_callGM 3 6 7 (pv := none) (Go.Proofs.enters_of Tryz.func60 (by kernel_rfl) rfl) (c_spec_l11Bind ((code)) ((i28)) ((h29)) ((rs1)) ((fs2)) ((b3)) (by omega) (by omega) (by omega) (by omega) (by exact dd.2.2.1) (by exact dd.1.2)) rfl rfl (.cur rfl (.agg rfl rfl (.cons rfl .nil))) rfl (fun ⟨_, _, _⟩ => rfl) (fun _ => rfl) (fun ⟨_, _, _⟩ => rfl) rfl rfl) ?_
        rintro ⟨⟨b38, i239, h240⟩, hq41⟩
        try dsimp only at hq41
        try dsimp only
        obtain ⟨q42, q43, q44⟩ := hq41
        refine d_only 9 rfl (by kernel_rfl) rfl (o_storeb (n := 2) (by kernel_rfl) rfl rfl rfl rfl rfl rfl) ?_
        refine d_take 10 rfl rfl (by kernel_rfl) (by kernel_rfl) (by kernel_rfl) (p_assign rfl) ?_
        refine d_end (by kernel_rfl) ?_
        refine t_ret Tryz.func17 (.cells (n := 2) (by kernel_rfl) (by kernel_rfl) rfl rfl rfl (.tmp rfl .nil)) rfl fun E S w u hI hd => ?_
        refine post_mkG (⟨z21.1, z21.2, (b38)⟩) ?_ hI hd ?_ trivial rfl rfl <;> clear hI hd
        · (try dsimp only) <;> (exact ⟨dd.2.2.1 _ (List.mem_of_getElem? hz22), by assumption, by assumption⟩)
        · rfl
      ·
        rintro ⟨⟨b31, i232, h233⟩, hq34⟩
        try dsimp only at hq34
        try dsimp only
        obtain ⟨q35, q36, q37⟩ := hq34
        refine d_take 3 rfl rfl (by kernel_rfl) (by kernel_rfl) (by kernel_rfl) (p_loadA (n := 2) (by kernel_rfl) (by kernel_rfl) rfl rfl) ?_
        refine d_only 9 rfl (by kernel_rfl) rfl (o_storeb (n := 2) (by kernel_rfl) rfl rfl rfl rfl rfl rfl) ?_
        refine d_take 10 rfl rfl (by kernel_rfl) (by kernel_rfl) (by kernel_rfl) (p_assign rfl) ?_
        refine d_end (by kernel_rfl) ?_
        refine t_ret Tryz.func17 (.cells (n := 2) (by kernel_rfl) (by kernel_rfl) rfl rfl rfl (.tmp rfl .nil)) rfl fun E S w u hI hd => ?_
        refine post_mkG (⟨z21.1, z21.2, (b31)⟩) ?_ hI hd ?_ trivial rfl rfl <;> clear hI hd
        · (try dsimp only) <;> (exact ⟨dd.2.2.1 _ (List.mem_of_getElem? hz22), by assumption, by assumption⟩)
        · rfl
    ·
      rintro ⟨⟨b24, i225, h226⟩, hq27⟩
      try dsimp only at hq27
      try dsimp only
      obtain ⟨q28, q29, q30⟩ := hq27
      obtain ⟨z45, hz46, b47⟩ := at_get (xs := (b3)) (n := 0) (by omega) (by omega)
      refine d_take 2 rfl rfl (by kernel_rfl) (by kernel_rfl) (by kernel_rfl) (p_index (by kernel_rfl) rfl rfl b47 hz46) ?_
      refine d_take 3 rfl rfl (by kernel_rfl) (by kernel_rfl) (by kernel_rfl) (p_loadA (n := 2) (by kernel_rfl) (by kernel_rfl) rfl rfl) ?_
      refine d_only 9 rfl (by kernel_rfl) rfl (o_storeb (n := 2) (by kernel_rfl) rfl rfl rfl rfl rfl rfl) ?_
      refine d_take 10 rfl rfl (by kernel_rfl) (by kernel_rfl) (by kernel_rfl) (p_assign rfl) ?_
      refine d_end (by kernel_rfl) ?_
      refine t_ret Tryz.func17 (.cells (n := 2) (by kernel_rfl) (by kernel_rfl) rfl rfl rfl (.tmp rfl .nil)) rfl fun E S w u hI hd => ?_
      refine post_mkG (⟨z45.1, z45.2, (b24)⟩) ?_ hI hd ?_ trivial rfl rfl <;> clear hI hd
      · (try dsimp only) <;> (exact ⟨dd.2.2.1 _ (List.mem_of_getElem? hz46), by assumption, by assumption⟩)
      · rfl
  ·
    rintro ⟨⟨b14, i215, h216⟩, hq17⟩
    try dsimp only at hq17
    try dsimp only
    obtain ⟨q18, q19, q20⟩ := hq17
    refine d_take 1 rfl rfl (by kernel_rfl) (by kernel_rfl) (by kernel_rfl) (p_load1b (by kernel_rfl) rfl rfl rfl) ?_
    obtain ⟨z48, hz49, b50⟩ := at_get (xs := (b3)) (n := 0) (by omega) (by omega)
    refine d_take 2 rfl rfl (by kernel_rfl) (by kernel_rfl) (by kernel_rfl) (p_index (by kernel_rfl) rfl rfl b50 hz49) ?_
    refine d_take 3 rfl rfl (by kernel_rfl) (by kernel_rfl) (by kernel_rfl) (p_loadA (n := 2) (by kernel_rfl) (by kernel_rfl) rfl rfl) ?_
    refine d_only 9 rfl (by kernel_rfl) rfl (o_storeb (n := 2) (by kernel_rfl) rfl rfl rfl rfl rfl rfl) ?_
    refine d_take 10 rfl rfl (by kernel_rfl) (by kernel_rfl) (by kernel_rfl) (p_assign rfl) ?_
    refine d_end (by kernel_rfl) ?_
    refine t_ret Tryz.func17 (.cells (n := 2) (by kernel_rfl) (by kernel_rfl) rfl rfl rfl (.tmp rfl .nil)) rfl fun E S w u hI hd => ?_
    refine post_mkG (⟨z48.1, z48.2, (b14)⟩) ?_ hI hd ?_ trivial rfl rfl <;> clear hI hd
    · (try dsimp only) <;> (exact ⟨dd.2.2.1 _ (List.mem_of_getElem? hz49), by assumption, by assumption⟩)
    · rfl
def ob_c_spec_Instantiate : Option (List Int) → List (Nat × Option Ob)
  | none => []
  | some q => [(3, some (.row none 3 true 1 encI (q)))]
def res_c_spec_Instantiate (r : Int) (ts : List Int) (b : List Int) : Option (List Int) → AV
  | none => .tup [(true, [.t none (.v (.int .i64 (0))), .t none (.v (.slice none 0 0))]), (false, [.t none (.v (.bool (false)))])]
  | some q => .tup [(true, [.t none (.v (.int .i64 (r))), .own 3]), (false, [.t none (.v (.bool (true)))])]
set_option maxHeartbeats 1000000 in
set_option maxRecDepth 10000 in
theorem c_spec_Instantiate (r : Int) (ts : List Int) (b : List Int) (hl : ts.length ≤ 1048576) (ho : ∀ x ∈ ts, okI x) (hob : ∀ x ∈ b, okI x) (mo : Option (List Int)) (hm : instV b ts = mo) : Pu Tryz.prog 18 [.agg [.t none (.v (.int .i64 (r))), .t none (.sl 1 encI (ts))], .c (.t none (.sl 1 encI (b)))] (ob_c_spec_Instantiate mo) 4 (res_c_spec_Instantiate r ts b mo) := by
  refine pu_enter Tryz.func18 rfl (Nat.le_of_ble_eq_true rfl) fun w S => ?_
  refine t_seq ?_
  refine t_region ?_
  refine r_op (o_box 0 rfl rfl rfl rfl) ?_
  refine r_op (o_alloc 1 (zs := [.int .i64 (0), .slice none 0 0]) rfl rfl (by kernel_rfl) rfl) ?_
  refine r_op (o_assign rfl rfl) ?_
  refine r_end ?_
  refine t_seq ?_
  refine t_region ?_
  refine r_op (o_fieldb rfl (off := 0) (by kernel_rfl) rfl) ?_
  refine r_op (o_load1b rfl (by kernel_rfl) rfl rfl rfl) ?_
  refine r_op (o_build rfl (pl := [(0, 1), (1, 1)]) (zs := [.int .i64 (0), .slice none 0 0]) (by kernel_rfl) (by kernel_rfl) rfl rfl rfl) ?_
  refine r_op (o_alloc 2 (zs := [.int .i64 (0), .slice none 0 0]) rfl rfl (by kernel_rfl) rfl) ?_
  refine r_op (o_storeb (n := 2) (by kernel_rfl) rfl rfl rfl rfl rfl rfl) ?_
  refine r_end ?_
  refine t_seq ?_
  refine t_seq ?_
  refine t_region ?_
  refine r_op (o_assign rfl rfl) ?_
  refine r_end ?_
  refine t_block ?_
  refine gt_nilb 3 (b := 2) (o := 1) (et := 3) (sz := 1) true encI rfl rfl rfl ?_
  refine t_loopL (fun (m, acc) => ⟨[(1, some (.c (.t none (.sl 1 encI (b))))), (2, some (.c (.ptr 0 0))), (4, some (.c (.ptr 1 0))), (6, some (.c (.ptr 2 0))), (7, some (.c (.t none (.v (.int .i64 ((m : Int)))))))], [(0, some (.box [.t none (.v (.int .i64 (r))), .t none (.sl 1 encI (ts))])), (1, some (.box [.t none (.v (.int .i64 (0))), .t none (.v (.slice none 0 0))])), (2, some (.box [.t none (.v (.int .i64 (r))), .own 3])), (3, some (.row none 3 true 1 encI (acc)))], 4⟩ : Nat × List Int → St) (fun (m, acc) => m ≤ ts.length ∧ instV b (ts.take m) = some acc) (fun (m, acc) => ts.length - m) (0, []) ⟨⟨rfl, ⟨rfl, ⟨rfl, ⟨rfl, ⟨rfl, trivial⟩⟩⟩⟩⟩, ⟨rfl, ⟨rfl, ⟨rfl, ⟨rfl, trivial⟩⟩⟩⟩, rfl⟩ (by exact ⟨Nat.zero_le _, rfl⟩) ?_
  rintro ⟨m, acc⟩ hI ih0
  try dsimp only at hI ih0
  obtain ⟨i1, i2⟩ := hI
  refine t_seq ?_
  refine t_seq ?_
  refine t_region ?_
  refine r_op (o_move rfl rfl) ?_
  refine r_op (o_fieldb rfl (off := 1) (by kernel_rfl) rfl) ?_
  refine r_op (o_load1b rfl (by kernel_rfl) rfl rfl rfl) ?_
  refine r_op (o_len rfl rfl rfl) ?_
  refine r_op (o_bin rfl rfl rfl rfl) ?_
  refine r_end ?_
  refine t_cond rfl (fun h1 => ?_) (fun h1 => ?_)
  ·
    have h1' := of_decide_eq_true h1
    refine t_skip ?_
    refine t_seq ?_
    refine t_block ?_
    refine t_seq ?_
    refine t_region ?_
    refine r_op (o_fieldb rfl (off := 1) (by kernel_rfl) rfl) ?_
    refine r_op (o_load1b rfl (by kernel_rfl) rfl rfl rfl) ?_
    refine r_op (o_move rfl rfl) ?_
    obtain ⟨z2, hz3, b4⟩ := at_get (xs := ts) (n := (m : Int)) (by omega) (by omega)
    refine r_op (o_index rfl (by kernel_rfl) rfl rfl b4 hz3) ?_
    refine r_op (o_load1 rfl (by kernel_rfl) rfl rfl) ?_
    refine r_op (o_bin rfl rfl rfl rfl) ?_
    refine r_op (o_assign rfl rfl) ?_
    refine r_end ?_
    refine t_seq ?_
    refine t_seq ?_
    refine t_region ?_
    refine r_op (o_fieldb rfl (off := 1) (by kernel_rfl) rfl) ?_
    refine r_op (o_load1b rfl (by kernel_rfl) rfl rfl rfl) ?_
    refine r_op (o_move rfl rfl) ?_
    refine r_op (o_index rfl (by kernel_rfl) rfl rfl b4 hz3) ?_
    refine r_op (o_load1 rfl (by kernel_rfl) rfl rfl) ?_
    refine r_op (o_bin rfl rfl rfl rfl) ?_
    refine r_end ?_
    refine t_cond rfl (fun h5 => ?_) (fun h5 => ?_)
    ·
      have h5' := of_decide_eq_true h5
      refine t_seq ?_
      refine t_seq ?_
      refine t_region ?_
      refine r_op (o_fieldb rfl (off := 1) (by kernel_rfl) rfl) ?_
      refine r_op (o_load1b rfl (by kernel_rfl) rfl rfl rfl) ?_
      refine r_op (o_move rfl rfl) ?_
      refine r_op (o_index rfl (by kernel_rfl) rfl rfl b4 hz3) ?_
      refine r_op (o_load1 rfl (by kernel_rfl) rfl rfl) ?_
      refine r_op (o_move rfl rfl) ?_
      refine r_op (o_len rfl rfl rfl) ?_
      refine r_op (o_bin rfl rfl rfl rfl) ?_
      refine r_end ?_
      refine t_cond rfl (fun h6 => ?_) (fun h6 => ?_)
      ·
        have h6' := of_decide_eq_true h6
        refine t_seq ?_
        refine t_region ?_
        refine r_op (o_build rfl (pl := [(0, 1), (1, 1)]) (zs := [.int .i64 (0), .slice none 0 0]) (by kernel_rfl) (by kernel_rfl) rfl rfl rfl) ?_
        refine r_op (o_storeb (n := 2) (by kernel_rfl) rfl rfl rfl rfl rfl rfl) ?_
        refine r_op (o_assign rfl rfl) ?_
        refine r_end ?_
        refine t_ret Tryz.func18 (.cells (n := 2) (by kernel_rfl) (by kernel_rfl) rfl rfl rfl (.tmp rfl .nil)) rfl fun E S w u hI hd => ?_
        obtain rfl : mo = none := by rw [← hm]; exact inst_none i2 (by assumption) rfl (inst_far (by assumption) (by assumption))
        refine post_mk hI hd ?_ trivial rfl rfl rfl <;> clear hI hd <;> (try clear ih0)
        all_goals (rfl)
      ·
        have h6' := of_decide_eq_false h6
        refine t_skip ?_
        refine t_region ?_
        refine r_op (o_move rfl rfl) ?_
        refine r_op (o_fieldb rfl (off := 1) (by kernel_rfl) rfl) ?_
        refine r_op (o_load1b rfl (by kernel_rfl) rfl rfl rfl) ?_
        refine r_op (o_move rfl rfl) ?_
        refine r_op (o_index rfl (by kernel_rfl) rfl rfl b4 hz3) ?_
        refine r_op (o_load1 rfl (by kernel_rfl) rfl rfl) ?_
        obtain ⟨z7, hz8, b9⟩ := at_get (xs := b) (n := z2) (by omega) (by omega)
        refine r_op (o_index rfl (by kernel_rfl) rfl rfl b9 hz8) ?_
        refine r_op (o_load1 rfl (by kernel_rfl) rfl rfl) ?_
        refine r_op (o_assign rfl rfl) ?_
        refine r_end ?_
        refine t_seq ?_
        refine t_seq ?_
        refine t_region ?_
        refine r_op (o_move rfl rfl) ?_
        refine r_op (o_call 4 4 false (Go.Proofs.enters_of Tryz.func62 (by kernel_rfl) rfl) (c_spec_IsValidValue (z7) (by exact (hob _ (List.mem_of_getElem? (by assumption))).1) (by exact (hob _ (List.mem_of_getElem? (by assumption))).2)) rfl (.cons rfl (.c .t0) .nil) rfl rfl rfl) ?_
        refine r_op (o_not rfl rfl) ?_
        refine r_op (o_move rfl rfl) ?_
        refine r_guard rfl rfl rfl (fun g10 => ?_) (fun g10 => ?_)
        ·
          have g10' := of_decide_eq_true (bnf g10)
          refine r_op (o_fieldb rfl (off := 1) (by kernel_rfl) rfl) ?_
          refine r_guard rfl rfl rfl (fun _ => ?_) (ncf g10)
          refine r_op (o_load1b rfl (by kernel_rfl) rfl rfl rfl) ?_
          refine r_guard rfl rfl rfl (fun _ => ?_) (ncf g10)
          refine r_op (o_move rfl rfl) ?_
          refine r_guard rfl rfl rfl (fun _ => ?_) (ncf g10)
          refine r_op (o_index rfl (by kernel_rfl) rfl rfl b4 hz3) ?_
          refine r_guard rfl rfl rfl (fun _ => ?_) (ncf g10)
          refine r_op (o_load1 rfl (by kernel_rfl) rfl rfl) ?_
          refine r_guard rfl rfl rfl (fun _ => ?_) (ncf g10)
          refine r_op (o_bin rfl rfl rfl rfl) ?_
          refine r_guard rfl rfl rfl (fun _ => ?_) (ncf g10)
          refine r_op (o_move rfl rfl) ?_
          refine r_guard rfl rfl rfl (fun g11 => ?_) (fun g11 => ?_)
          ·
            have g11' := of_decide_eq_true g11
            refine r_op (o_move rfl rfl) ?_
            refine r_guard rfl rfl rfl (fun _ => ?_) (nc g11)
            refine r_op (o_bin rfl rfl rfl rfl) ?_
            refine r_guard rfl rfl rfl (fun _ => ?_) (ncf g10)
            refine r_op (o_pickT rfl rfl g11 rfl) ?_
            refine r_op (o_pickF rfl rfl g10 rfl) ?_
            refine r_end ?_
            refine t_cond rfl (fun h12 => ?_) (fun h12 => ?_)
            ·
              have h12' := of_decide_eq_true h12
              refine t_seq ?_
              refine t_region ?_
              refine r_op (o_build rfl (pl := [(0, 1), (1, 1)]) (zs := [.int .i64 (0), .slice none 0 0]) (by kernel_rfl) (by kernel_rfl) rfl rfl rfl) ?_
              refine r_op (o_storeb (n := 2) (by kernel_rfl) rfl rfl rfl rfl rfl rfl) ?_
              refine r_op (o_assign rfl rfl) ?_
              refine r_end ?_
              refine t_ret Tryz.func18 (.cells (n := 2) (by kernel_rfl) (by kernel_rfl) rfl rfl rfl (.tmp rfl .nil)) rfl fun E S w u hI hd => ?_
              obtain rfl : mo = none := by exfalso; have e := ho _ (List.mem_of_getElem? (l := ts) (by assumption)); unfold okI at e; simp only [IntKind.wrap_i64] at *; omega
              refine post_mk hI hd ?_ trivial rfl rfl rfl <;> clear hI hd <;> (try clear ih0)
              all_goals (rfl)
            ·
              have h12' := of_decide_eq_false h12
              refine t_skip ?_
              refine t_region ?_
              refine r_op (o_fieldb rfl (off := 1) (by kernel_rfl) rfl) ?_
              refine r_op (o_load1b rfl (by kernel_rfl) rfl rfl rfl) ?_
              refine r_op (o_move rfl rfl) ?_
              refine r_op (o_litS 4 (e := 3) (sz := 1) (zs := [.int .i64 (0)]) rfl rfl (by kernel_rfl) rfl rfl rfl rfl rfl) ?_
              refine r_op (o_append 3 (e := 3) (sz := 1) (by' := 8) (z7) rfl (by kernel_rfl) rfl rfl rfl rfl rfl rfl (.cons .sc .nil) rfl (by omega) (by omega)) ?_
              refine r_op (o_fieldb rfl (off := 1) (by kernel_rfl) rfl) ?_
              refine r_op (o_storeb (n := 1) (by kernel_rfl) rfl rfl rfl rfl rfl rfl) ?_
              refine r_end ?_
              refine t_endblock ?_
              refine t_region ?_
              refine r_op (o_move rfl rfl) ?_
              refine r_op (o_bin rfl rfl rfl rfl) ?_
              refine r_op (o_assign rfl rfl) ?_
              refine r_end ?_
              refine t_le ?_ (ih0 (m + 1, acc ++ [z7]) (by (try dsimp only); omega) (by (try dsimp only); exact ⟨by omega, by exfalso; omega⟩))
              exact ⟨⟨rfl, ⟨rfl, ⟨rfl, ⟨rfl, ⟨(eqI (wrS (by omega))), trivial⟩⟩⟩⟩⟩, ⟨rfl, ⟨rfl, ⟨rfl, ⟨rfl, trivial⟩⟩⟩⟩, rfl⟩
          ·
            have g11' := of_decide_eq_false g11
            refine r_guard rfl rfl rfl (ncf g11) (fun _ => ?_)
            refine r_guard rfl rfl rfl (fun _ => ?_) (ncf g10)
            refine r_op (o_pickF rfl rfl g11 rfl) ?_
            refine r_op (o_pickF rfl rfl g10 rfl) ?_
            refine r_end ?_
            refine t_cond rfl (ncf rfl) (fun _ => ?_)
            refine t_skip ?_
            refine t_region ?_
            refine r_op (o_fieldb rfl (off := 1) (by kernel_rfl) rfl) ?_
            refine r_op (o_load1b rfl (by kernel_rfl) rfl rfl rfl) ?_
            refine r_op (o_move rfl rfl) ?_
            refine r_op (o_litS 4 (e := 3) (sz := 1) (zs := [.int .i64 (0)]) rfl rfl (by kernel_rfl) rfl rfl rfl rfl rfl) ?_
            refine r_op (o_append 3 (e := 3) (sz := 1) (by' := 8) (z7) rfl (by kernel_rfl) rfl rfl rfl rfl rfl rfl (.cons .sc .nil) rfl (by (have := instV_len i2; simp at this; omega)) (by (have := instV_len i2; simp at this; omega))) ?_
            refine r_op (o_fieldb rfl (off := 1) (by kernel_rfl) rfl) ?_
            refine r_op (o_storeb (n := 1) (by kernel_rfl) rfl rfl rfl rfl rfl rfl) ?_
            refine r_end ?_
            refine t_endblock ?_
            refine t_region ?_
            refine r_op (o_move rfl rfl) ?_
            refine r_op (o_bin rfl rfl rfl rfl) ?_
            refine r_op (o_assign rfl rfl) ?_
            refine r_end ?_
            refine t_le ?_ (ih0 (m + 1, acc ++ [z7]) (by (try dsimp only); omega) (by (try dsimp only); exact ⟨by omega, inst_step i2 (by assumption) rfl (inst_good (by assumption) (by assumption) (by assumption))⟩))
            exact ⟨⟨rfl, ⟨rfl, ⟨rfl, ⟨rfl, ⟨(eqI (wrS (by omega))), trivial⟩⟩⟩⟩⟩, ⟨rfl, ⟨rfl, ⟨rfl, ⟨rfl, trivial⟩⟩⟩⟩, rfl⟩
        ·
          have g10' := of_decide_eq_false (bnt g10)
          refine r_guard rfl rfl rfl (nc g10) (fun _ => ?_)
          refine r_guard rfl rfl rfl (nc g10) (fun _ => ?_)
          refine r_guard rfl rfl rfl (nc g10) (fun _ => ?_)
          refine r_guard rfl rfl rfl (nc g10) (fun _ => ?_)
          refine r_guard rfl rfl rfl (nc g10) (fun _ => ?_)
          refine r_guard rfl rfl rfl (nc g10) (fun _ => ?_)
          refine r_skip rfl rfl rfl ?_
          refine r_skip rfl rfl rfl ?_
          refine r_guard rfl rfl rfl (nc g10) (fun _ => ?_)
          refine r_op (o_pickT rfl rfl g10 rfl) ?_
          refine r_end ?_
          refine t_cond rfl (fun _ => ?_) (nc rfl)
          refine t_seq ?_
          refine t_region ?_
          refine r_op (o_build rfl (pl := [(0, 1), (1, 1)]) (zs := [.int .i64 (0), .slice none 0 0]) (by kernel_rfl) (by kernel_rfl) rfl rfl rfl) ?_
          refine r_op (o_storeb (n := 2) (by kernel_rfl) rfl rfl rfl rfl rfl rfl) ?_
          refine r_op (o_assign rfl rfl) ?_
          refine r_end ?_
          refine t_ret Tryz.func18 (.cells (n := 2) (by kernel_rfl) (by kernel_rfl) rfl rfl rfl (.tmp rfl .nil)) rfl fun E S w u hI hd => ?_
          obtain rfl : mo = none := by rw [← hm]; exact inst_none i2 (by assumption) rfl (inst_bad (by assumption) (by assumption) (by assumption))
          refine post_mk hI hd ?_ trivial rfl rfl rfl <;> clear hI hd <;> (try clear ih0)
          all_goals (rfl)
    ·
      have h5' := of_decide_eq_false h5
      refine t_skip ?_
      refine t_seq ?_
      refine t_seq ?_
      refine t_region ?_
      refine r_op (o_move rfl rfl) ?_
      refine r_op (o_call 4 4 false (Go.Proofs.enters_of Tryz.func62 (by kernel_rfl) rfl) (c_spec_IsValidValue (IntKind.i64.wrap ((-1) - z2)) (by exact wr_lo _) (by exact wr_hi _)) rfl (.cons rfl (.c .t0) .nil) rfl rfl rfl) ?_
      refine r_op (o_not rfl rfl) ?_
      refine r_op (o_move rfl rfl) ?_
      refine r_guard rfl rfl rfl (fun g13 => ?_) (fun g13 => ?_)
      ·
        have g13' := of_decide_eq_true (bnf g13)
        refine r_op (o_fieldb rfl (off := 1) (by kernel_rfl) rfl) ?_
        refine r_guard rfl rfl rfl (fun _ => ?_) (ncf g13)
        refine r_op (o_load1b rfl (by kernel_rfl) rfl rfl rfl) ?_
        refine r_guard rfl rfl rfl (fun _ => ?_) (ncf g13)
        refine r_op (o_move rfl rfl) ?_
        refine r_guard rfl rfl rfl (fun _ => ?_) (ncf g13)
        refine r_op (o_index rfl (by kernel_rfl) rfl rfl b4 hz3) ?_
        refine r_guard rfl rfl rfl (fun _ => ?_) (ncf g13)
        refine r_op (o_load1 rfl (by kernel_rfl) rfl rfl) ?_
        refine r_guard rfl rfl rfl (fun _ => ?_) (ncf g13)
        refine r_op (o_bin rfl rfl rfl rfl) ?_
        refine r_guard rfl rfl rfl (fun _ => ?_) (ncf g13)
        refine r_op (o_move rfl rfl) ?_
        refine r_guard rfl rfl rfl (fun g14 => ?_) (fun g14 => ?_)
        ·
          have g14' := of_decide_eq_true g14
          refine r_op (o_move rfl rfl) ?_
          refine r_guard rfl rfl rfl (fun _ => ?_) (nc g14)
          refine r_op (o_bin rfl rfl rfl rfl) ?_
          refine r_guard rfl rfl rfl (fun _ => ?_) (ncf g13)
          refine r_op (o_pickT rfl rfl g14 rfl) ?_
          refine r_op (o_pickF rfl rfl g13 rfl) ?_
          refine r_end ?_
          refine t_cond rfl (fun h15 => ?_) (fun h15 => ?_)
          ·
            have h15' := of_decide_eq_true h15
            refine t_seq ?_
            refine t_region ?_
            refine r_op (o_build rfl (pl := [(0, 1), (1, 1)]) (zs := [.int .i64 (0), .slice none 0 0]) (by kernel_rfl) (by kernel_rfl) rfl rfl rfl) ?_
            refine r_op (o_storeb (n := 2) (by kernel_rfl) rfl rfl rfl rfl rfl rfl) ?_
            refine r_op (o_assign rfl rfl) ?_
            refine r_end ?_
            refine t_ret Tryz.func18 (.cells (n := 2) (by kernel_rfl) (by kernel_rfl) rfl rfl rfl (.tmp rfl .nil)) rfl fun E S w u hI hd => ?_
            obtain rfl : mo = none := by exfalso; have e := ho _ (List.mem_of_getElem? (l := ts) (by assumption)); unfold okI at e; simp only [IntKind.wrap_i64] at *; omega
            refine post_mk hI hd ?_ trivial rfl rfl rfl <;> clear hI hd <;> (try clear ih0)
            all_goals (rfl)
          ·
            have h15' := of_decide_eq_false h15
            refine t_skip ?_
            refine t_region ?_
            refine r_op (o_fieldb rfl (off := 1) (by kernel_rfl) rfl) ?_
            refine r_op (o_load1b rfl (by kernel_rfl) rfl rfl rfl) ?_
            refine r_op (o_move rfl rfl) ?_
            refine r_op (o_litS 4 (e := 3) (sz := 1) (zs := [.int .i64 (0)]) rfl rfl (by kernel_rfl) rfl rfl rfl rfl rfl) ?_
            refine r_op (o_append 3 (e := 3) (sz := 1) (by' := 8) (IntKind.i64.wrap ((-1) - z2)) rfl (by kernel_rfl) rfl rfl rfl rfl rfl rfl (.cons .sc .nil) rfl (by (have := instV_len i2; simp at this; omega)) (by (have := instV_len i2; simp at this; omega))) ?_
            refine r_op (o_fieldb rfl (off := 1) (by kernel_rfl) rfl) ?_
            refine r_op (o_storeb (n := 1) (by kernel_rfl) rfl rfl rfl rfl rfl rfl) ?_
            refine r_end ?_
            refine t_endblock ?_
            refine t_region ?_
            refine r_op (o_move rfl rfl) ?_
            refine r_op (o_bin rfl rfl rfl rfl) ?_
            refine r_op (o_assign rfl rfl) ?_
            refine r_end ?_
            refine t_le ?_ (ih0 (m + 1, acc ++ [IntKind.i64.wrap ((-1) - z2)]) (by (try dsimp only); omega) (by (try dsimp only); exact ⟨by omega, inst_step i2 (by assumption) rfl (inst_goodn (by omega) (ho _ (List.mem_of_getElem? (by assumption))).1 (by assumption))⟩))
            exact ⟨⟨rfl, ⟨rfl, ⟨rfl, ⟨rfl, ⟨(eqI (wrS (by omega))), trivial⟩⟩⟩⟩⟩, ⟨rfl, ⟨rfl, ⟨rfl, ⟨rfl, trivial⟩⟩⟩⟩, rfl⟩
        ·
          have g14' := of_decide_eq_false g14
          refine r_guard rfl rfl rfl (ncf g14) (fun _ => ?_)
          refine r_guard rfl rfl rfl (fun _ => ?_) (ncf g13)
          refine r_op (o_pickF rfl rfl g14 rfl) ?_
          refine r_op (o_pickF rfl rfl g13 rfl) ?_
          refine r_end ?_
          refine t_cond rfl (ncf rfl) (fun _ => ?_)
          refine t_skip ?_
          refine t_region ?_
          refine r_op (o_fieldb rfl (off := 1) (by kernel_rfl) rfl) ?_
          refine r_op (o_load1b rfl (by kernel_rfl) rfl rfl rfl) ?_
          refine r_op (o_move rfl rfl) ?_
          refine r_op (o_litS 4 (e := 3) (sz := 1) (zs := [.int .i64 (0)]) rfl rfl (by kernel_rfl) rfl rfl rfl rfl rfl) ?_
          refine r_op (o_append 3 (e := 3) (sz := 1) (by' := 8) (IntKind.i64.wrap ((-1) - z2)) rfl (by kernel_rfl) rfl rfl rfl rfl rfl rfl (.cons .sc .nil) rfl (by omega) (by omega)) ?_
          refine r_op (o_fieldb rfl (off := 1) (by kernel_rfl) rfl) ?_
          refine r_op (o_storeb (n := 1) (by kernel_rfl) rfl rfl rfl rfl rfl rfl) ?_
          refine r_end ?_
          refine t_endblock ?_
          refine t_region ?_
          refine r_op (o_move rfl rfl) ?_
          refine r_op (o_bin rfl rfl rfl rfl) ?_
          refine r_op (o_assign rfl rfl) ?_
          refine r_end ?_
          refine t_le ?_ (ih0 (m + 1, acc ++ [IntKind.i64.wrap ((-1) - z2)]) (by (try dsimp only); omega) (by (try dsimp only); exact ⟨by omega, by exfalso; omega⟩))
          exact ⟨⟨rfl, ⟨rfl, ⟨rfl, ⟨rfl, ⟨(eqI (wrS (by omega))), trivial⟩⟩⟩⟩⟩, ⟨rfl, ⟨rfl, ⟨rfl, ⟨rfl, trivial⟩⟩⟩⟩, rfl⟩
      ·
        have g13' := of_decide_eq_false (bnt g13)
        refine r_guard rfl rfl rfl (nc g13) (fun _ => ?_)
        refine r_guard rfl rfl rfl (nc g13) (fun _ => ?_)
        refine r_guard rfl rfl rfl (nc g13) (fun _ => ?_)
        refine r_guard rfl rfl rfl (nc g13) (fun _ => ?_)
        refine r_guard rfl rfl rfl (nc g13) (fun _ => ?_)
        refine r_guard rfl rfl rfl (nc g13) (fun _ => ?_)
        refine r_skip rfl rfl rfl ?_
        refine r_skip rfl rfl rfl ?_
        refine r_guard rfl rfl rfl (nc g13) (fun _ => ?_)
        refine r_op (o_pickT rfl rfl g13 rfl) ?_
        refine r_end ?_
        refine t_cond rfl (fun _ => ?_) (nc rfl)
        refine t_seq ?_
        refine t_region ?_
        refine r_op (o_build rfl (pl := [(0, 1), (1, 1)]) (zs := [.int .i64 (0), .slice none 0 0]) (by kernel_rfl) (by kernel_rfl) rfl rfl rfl) ?_
        refine r_op (o_storeb (n := 2) (by kernel_rfl) rfl rfl rfl rfl rfl rfl) ?_
        refine r_op (o_assign rfl rfl) ?_
        refine r_end ?_
        refine t_ret Tryz.func18 (.cells (n := 2) (by kernel_rfl) (by kernel_rfl) rfl rfl rfl (.tmp rfl .nil)) rfl fun E S w u hI hd => ?_
        obtain rfl : mo = none := by rw [← hm]; exact inst_none i2 (by assumption) rfl (inst_badn (by omega) (ho _ (List.mem_of_getElem? (by assumption))).1 (by assumption))
        refine post_mk hI hd ?_ trivial rfl rfl rfl <;> clear hI hd <;> (try clear ih0)
        all_goals (rfl)
  ·
    have h1' := of_decide_eq_false h1
    refine t_exit rfl ?_
    refine t_seq ?_
    refine t_region ?_
    refine r_op (o_loadAb rfl (n := 2) (by kernel_rfl) (by kernel_rfl) rfl rfl rfl) ?_
    refine r_op (o_storeb (n := 2) (by kernel_rfl) rfl rfl rfl rfl rfl rfl) ?_
    refine r_op (o_assign rfl rfl) ?_
    refine r_end ?_
    refine t_ret Tryz.func18 (.cells (n := 2) (by kernel_rfl) (by kernel_rfl) rfl rfl rfl (.tmp rfl .nil)) rfl fun E S w u hI hd => ?_
    obtain rfl : mo = some acc := by rw [← hm]; rw [List.take_of_length_le (by omega)] at i2; exact i2
    refine post_mk hI hd ?_ ⟨eqR ?_, trivial⟩ rfl rfl rfl <;> clear hI hd <;> (try clear ih0)
    all_goals (rfl)
set_option maxHeartbeats 1000000 in
set_option maxRecDepth 10000 in
theorem c_spec_HasExtension (rs : Rels) (fs l : Atoms) (b : List Int) (hrs : rs.length ≤ 4611686018427387904) (hfs : szS (fun (x : Int × (List (Int))) => (x.2).length) fs ≤ 1048576) (hll : szS (fun (x : Int × (List (Int))) => (x.2).length) l ≤ 1048576) (ho : ∀ z ∈ fs, ∀ x ∈ z.2, okI x) (hbl : b.length ≤ 1048576) : Pu Tryz.prog 19 [.agg [.t none (.sl 3 (enS3 encS encI encB) (rs)), .t none (.sl 2 (enS2 encI (enSl 1 encI)) (fs))], .c (.t none (.sl 2 (enS2 encI (enSl 1 encI)) (l))), .c (.t none (.sl 1 encI (b)))] [] 0 (.c (.t none (.v (.bool (hasE rs fs l b))))) := by
  refine pu_enter Tryz.func19 rfl (Nat.le_of_ble_eq_true rfl) fun w S => ?_
  have gl := sz_len (f := (fun (x : Int × (List (Int))) => (x.2).length)) (l := l)
  refine t_seq ?_
  refine t_region ?_
  refine r_op (o_box 0 rfl rfl rfl rfl) ?_
  refine r_op (o_assign rfl rfl) ?_
  refine r_end ?_
  refine t_seq ?_
  refine t_region ?_
  refine r_op (o_loadAb rfl (n := 2) (by kernel_rfl) (by kernel_rfl) rfl rfl rfl) ?_
  refine r_op (o_move rfl rfl) ?_
  refine r_op (o_call 1 1 false (Go.Proofs.enters_of Tryz.func53 (by kernel_rfl) rfl) (c_spec_l11Ok (rs) (fs) (l) (by omega) (by omega) (by omega) (by omega)) rfl (.cons rfl (.agg (.cons .t0 (.cons .t0 .nil))) (.cons rfl (.c .t0) .nil)) rfl rfl rfl) ?_
  refine r_op (o_move rfl rfl) ?_
  refine r_guard rfl rfl rfl (fun g1 => ?_) (fun g1 => ?_)
  ·
    have g1' := g1
    refine r_op (o_move rfl rfl) ?_
    refine r_guard rfl rfl rfl (fun _ => ?_) (nc g1)
    refine r_op (o_len rfl rfl rfl) ?_
    refine r_guard rfl rfl rfl (fun _ => ?_) (nc g1)
    refine r_op (o_bin rfl rfl rfl rfl) ?_
    refine r_op (o_pickT rfl rfl g1 rfl) ?_
    refine r_op (o_move rfl rfl) ?_
    refine r_guard rfl rfl rfl (fun g2 => ?_) (fun g2 => ?_)
    ·
      have g2' := of_decide_eq_true g2
      refine r_op (o_loadAb rfl (n := 2) (by kernel_rfl) (by kernel_rfl) rfl rfl rfl) ?_
      refine r_guard rfl rfl rfl (fun _ => ?_) (nc g2)
      refine r_op (o_move rfl rfl) ?_
      refine r_guard rfl rfl rfl (fun _ => ?_) (nc g2)
      refine r_op (o_move rfl rfl) ?_
      refine r_guard rfl rfl rfl (fun _ => ?_) (nc g2)
      refine r_op (o_call 1 2 false (Go.Proofs.enters_of Tryz.func54 (by kernel_rfl) rfl) (c_spec_l11Walk (rs) (fs) (l) (0) (b) (by exact (mt_pre (by assumption)).1) (by exact (mt_pre (by assumption)).2.1) (by omega) (by exact (mt_pre (by assumption)).2.2.1) (by exact (mt_pre (by assumption)).2.2.2) (by omega)) rfl (.cons rfl (.agg (.cons .t0 (.cons .t0 .nil))) (.cons rfl (.c .t0) (.cons rfl (.c .t0) (.cons rfl (.c .t0) .nil)))) rfl rfl rfl) ?_
      refine r_guard rfl rfl rfl (fun _ => ?_) (nc g2)
      refine r_op (o_leno rfl rfl rfl rfl) ?_
      refine r_guard rfl rfl rfl (fun _ => ?_) (nc g2)
      refine r_op (o_bin rfl rfl rfl rfl) ?_
      refine r_op (o_pickT rfl rfl g2 rfl) ?_
      refine r_op (o_assign rfl rfl) ?_
      refine r_end ?_
      refine t_ret Tryz.func19 (.tmp rfl .nil) rfl fun E S w u hI hd => ?_
      refine post_mk hI hd ?_ trivial rfl rfl rfl <;> clear hI hd
      all_goals (refine scB ?_; (try simp only [show (0 : Int).toNat = 0 from rfl, List.drop_zero] at *); clear hrs hfs hll ho gl; unfold hasE; grind)
    ·
      have g2' := of_decide_eq_false g2
      refine r_guard rfl rfl rfl (ncf g2) (fun _ => ?_)
      refine r_guard rfl rfl rfl (ncf g2) (fun _ => ?_)
      refine r_guard rfl rfl rfl (ncf g2) (fun _ => ?_)
      refine r_guard rfl rfl rfl (ncf g2) (fun _ => ?_)
      refine r_guard rfl rfl rfl (ncf g2) (fun _ => ?_)
      refine r_op (o_pickF rfl rfl g2 rfl) ?_
      refine r_op (o_assign rfl rfl) ?_
      refine r_end ?_
      refine t_ret Tryz.func19 (.tmp rfl .nil) rfl fun E S w u hI hd => ?_
      refine post_mk hI hd ?_ trivial rfl rfl rfl <;> clear hI hd
      all_goals (refine scB ?_; (try simp only [show (0 : Int).toNat = 0 from rfl, List.drop_zero] at *); clear hrs hfs hll ho gl; unfold hasE; grind)
  ·
    have g1' := g1
    refine r_guard rfl rfl rfl (ncf g1) (fun _ => ?_)
    refine r_guard rfl rfl rfl (ncf g1) (fun _ => ?_)
    refine r_op (o_pickF rfl rfl g1 rfl) ?_
    refine r_op (o_move rfl rfl) ?_
    refine r_guard rfl rfl rfl (ncf rfl) (fun _ => ?_)
    refine r_guard rfl rfl rfl (ncf rfl) (fun _ => ?_)
    refine r_guard rfl rfl rfl (ncf rfl) (fun _ => ?_)
    refine r_guard rfl rfl rfl (ncf rfl) (fun _ => ?_)
    refine r_guard rfl rfl rfl (ncf rfl) (fun _ => ?_)
    refine r_guard rfl rfl rfl (ncf rfl) (fun _ => ?_)
    refine r_op (o_pickF rfl rfl rfl rfl) ?_
    refine r_op (o_assign rfl rfl) ?_
    refine r_end ?_
    refine t_ret Tryz.func19 (.tmp rfl .nil) rfl fun E S w u hI hd => ?_
    refine post_mk hI hd ?_ trivial rfl rfl rfl <;> clear hI hd
    all_goals (refine scB ?_; (try simp only [show (0 : Int).toNat = 0 from rfl, List.drop_zero] at *); clear hrs hfs hll ho gl; unfold hasE; grind)
end Go.Eng
