/- What the functions that FnMatches reaches answer. -/
import Derived.Test.YtjjoopbebildfaaGreatFnsFnMatchesp3
import Derived.Test.YtjjoopbebildfaaGreatEngZA
import Derived.Test.YtjjoopbebildfaaGreatChecked
set_option linter.unusedVariables false
set_option linter.unusedSimpArgs false
namespace Go.Eng
open Go Go.RowKit Go.Proofs
set_option maxHeartbeats 1000000 in
set_option maxRecDepth 10000 in
theorem c_laws_FnMatches (code : List Int) (hcl : code.length ≤ 9223372036854775807) : Pu Tryz.prog 3 [.c (.t none (.sl 1 encU (code)))] [] 0 (.c (.t none (.v (.bool (true))))) := by
  refine pu_enter Tryz.func3 rfl (Nat.le_of_ble_eq_true rfl) fun w S => ?_
  refine t_seq ?_
  refine t_region ?_
  refine r_op (o_assign rfl rfl) ?_
  refine r_end ?_
  refine t_seq ?_
  refine t_seq ?_
  refine t_region ?_
  refine r_op (o_move rfl rfl) ?_
  refine r_op (o_call 0 0 false (Go.Proofs.enters_of Tryz.func7 (by kernel_rfl) rfl) (c_laws_big (code)) rfl (.cons rfl (.c .t0) .nil) rfl rfl rfl) ?_
  refine r_end ?_
  refine t_cond rfl (fun h1 => ?_) (fun h1 => ?_)
  ·
    have h1' := of_decide_eq_true h1
    refine t_seq ?_
    refine t_region ?_
    refine r_op (o_assign rfl rfl) ?_
    refine r_end ?_
    refine t_ret Tryz.func3 (.tmp rfl .nil) rfl fun E S w u hI hd => ?_
    refine post_mk hI hd ?_ trivial rfl rfl rfl <;> clear hI hd <;> (try clear ih0) <;> (try clear ih1)
    all_goals (rfl)
  ·
    have h1' := of_decide_eq_false h1
    refine t_skip ?_
    refine t_seq ?_
    refine t_region ?_
    refine r_op (o_move rfl rfl) ?_
    refine r_opX (o_callG 0 0 (Go.Proofs.enters_of Tryz.func8 (by kernel_rfl) rfl) (c_spec_DrawFindMatches (code) (by omega)) rfl (.cons rfl (.c .t0) .nil) rfl rfl) ?_
    rintro ⟨⟨rs2, fs3, b4⟩, hq5⟩
    try dsimp only at hq5
    try dsimp only
    obtain ⟨q6, q7, q8⟩ := hq5
    have hx0 : instL rs2 fs3 := (by assumption); obtain ⟨hx1, hx2, hx3, hx4⟩ := hx0; have xs1 := szF_L hx4; have xs3 := factL_ok hx4; have ya : ∀ a ∈ b4, atomL a := (by assumption); have ys2 := szA_L ya; have ys3 := atomL_okI ya; have YL := atom_len2 ya; have KM : ∀ (i : Nat) r, (findL rs2 fs3 b4)[i]? = some r → instOk rs2 fs3 = true ∧ hasE rs2 fs3 b4 r = true ∧ (∀ (k : Nat) a, b4[k]? = some a → ∃ v, instV r a.2 = some v ∧ hasF fs3 (a.1, v) = true) ∧ hasR (((findL rs2 fs3 b4).take i).drop 0) r = false := fun i r h => by { have hf := find_facts (List.mem_of_getElem? h); exact ⟨hf.1, hf.2.1, fun k a ha => hf.2.2 a (List.mem_of_getElem? ha), find_once h⟩ }; have K5 : ∀ (i : Nat) r, (findL rs2 fs3 b4)[i]? = some r → r.length = 5 ∧ ∀ x ∈ r, okI x := fun i r h => ⟨findL_five (List.mem_of_getElem? h), findL_ok xs3 (List.mem_of_getElem? h)⟩; have KL := findL_len rs2 fs3 b4; have KZ := findL_sz (rs := rs2) (fs := fs3) (l := b4); have KC := cmpF_refl
    refine r_op (o_move rfl rfl) ?_
    refine r_op (o_extract rfl rfl rfl rfl) ?_
    refine r_op (o_extract rfl rfl rfl rfl) ?_
    refine r_op (o_alloc 0 (zs := [.slice none 0 0, .slice none 0 0]) rfl rfl (by kernel_rfl) rfl) ?_
    refine r_op (o_storeb (n := 2) (by kernel_rfl) rfl rfl rfl rfl rfl rfl) ?_
    refine r_op (o_assign rfl rfl) ?_
    refine r_end ?_
    refine t_seq ?_
    refine t_region ?_
    refine r_op (o_loadAb rfl (n := 2) (by kernel_rfl) (by kernel_rfl) rfl rfl rfl) ?_
    refine r_op (o_move rfl rfl) ?_
    refine r_op (o_call 1 3 false (Go.Proofs.enters_of Tryz.func9 (by kernel_rfl) rfl) (c_impl_FindMatches ((rs2)) ((fs3)) ((b4)) (by omega) (by omega) (by omega) (by omega)) rfl (.cons rfl (.agg (.cons .t0 (.cons .t0 .nil))) (.cons rfl (.c .t0) .nil)) rfl rfl rfl) ?_
    refine r_op (o_assign rfl rfl) ?_
    refine r_end ?_
    refine t_seq ?_
    refine t_seq ?_
    refine t_region ?_
    refine r_op (o_move rfl rfl) ?_
    refine r_op (o_loadAb rfl (n := 2) (by kernel_rfl) (by kernel_rfl) rfl rfl rfl) ?_
    refine r_op (o_move rfl rfl) ?_
    refine r_op (o_call 3 5 false (Go.Proofs.enters_of Tryz.func11 (by kernel_rfl) rfl) (c_spec_FindMatches ((rs2)) ((fs3)) ((b4)) (by omega) (by omega) (by omega) (by omega)) rfl (.cons rfl (.agg (.cons .t0 (.cons .t0 .nil))) (.cons rfl (.c .t0) .nil)) rfl rfl rfl) ?_
    refine r_op (o_call 5 5 false (Go.Proofs.enters_of Tryz.func10 (by kernel_rfl) rfl) (c_laws_sameRows (findL ((rs2)) ((fs3)) ((b4))) (findL ((rs2)) ((fs3)) ((b4))) (by omega)) rfl (.cons rfl (.c (.own rfl)) (.cons rfl (.c (.own rfl)) .nil)) rfl rfl rfl) ?_
    refine r_op (o_not rfl rfl) ?_
    refine r_end ?_
    refine t_cond rfl (fun h9 => ?_) (fun h9 => ?_)
    ·
      have h9' := of_decide_eq_false (bnt h9)
      refine t_seq ?_
      refine t_region ?_
      refine r_op (o_assign rfl rfl) ?_
      refine r_end ?_
      refine t_ret Tryz.func3 (.tmp rfl .nil) rfl fun E S w u hI hd => ?_
      refine post_mk hI hd ?_ trivial rfl rfl rfl <;> clear hI hd <;> (try clear ih0) <;> (try clear ih1)
      all_goals ((exfalso; clear K5 xs3 ys3 YL hx2 hx4; grind))
    ·
      have h9' := of_decide_eq_true (bnf h9)
      refine t_skip ?_
      refine t_seq ?_
      refine t_seq ?_
      refine t_region ?_
      refine r_op (o_assign rfl rfl) ?_
      refine r_end ?_
      refine t_block ?_
      refine t_loopL (fun m => ⟨[(0, some (.c (.t none (.sl 1 encU (code))))), (3, some (.c (.ptr 0 0))), (4, some (.c (.t none (.sl 2 (enS2 encI (enSl 1 encI)) ((b4)))))), (5, some (.c (.own 2))), (6, some (.c (.t none (.v (.int .i64 ((m : Int)))))))], [(0, some (.box [.t none (.sl 3 (enS3 encS encI encB) ((rs2))), .t none (.sl 2 (enS2 encI (enSl 1 encI)) ((fs3)))])), (2, some (.row none 34 true 1 (enSl 1 encI) (findL ((rs2)) ((fs3)) ((b4))))), (4, some (.row none 34 true 1 (enSl 1 encI) (findL ((rs2)) ((fs3)) ((b4)))))], 5⟩ : Nat → St) (fun m => m ≤ (findL rs2 fs3 b4).length) (fun m => (findL rs2 fs3 b4).length - m) 0 ⟨⟨rfl, ⟨rfl, ⟨rfl, ⟨rfl, ⟨rfl, trivial⟩⟩⟩⟩⟩, ⟨rfl, ⟨rfl, ⟨rfl, trivial⟩⟩⟩, rfl⟩ (by exact Nat.zero_le _) ?_
      rintro m hI ih0
      try dsimp only at hI ih0
      have i1 := hI
      refine t_seq ?_
      refine t_seq ?_
      refine t_region ?_
      refine r_op (o_move rfl rfl) ?_
      refine r_op (o_move rfl rfl) ?_
      refine r_op (o_leno rfl rfl rfl rfl) ?_
      refine r_op (o_bin rfl rfl rfl rfl) ?_
      refine r_end ?_
      refine t_cond rfl (fun h10 => ?_) (fun h10 => ?_)
      ·
        have h10' := of_decide_eq_true h10
        refine t_skip ?_
        refine t_seq ?_
        refine t_block ?_
        refine t_seq ?_
        refine t_seq ?_
        refine t_region ?_
        refine r_op (o_assign rfl rfl) ?_
        refine r_end ?_
        refine t_block ?_
        refine t_loopL (fun n => ⟨[(0, some (.c (.t none (.sl 1 encU (code))))), (3, some (.c (.ptr 0 0))), (4, some (.c (.t none (.sl 2 (enS2 encI (enSl 1 encI)) ((b4)))))), (5, some (.c (.own 2))), (6, some (.c (.t none (.v (.int .i64 ((m : Int))))))), (7, some (.c (.t none (.v (.int .i64 ((n : Int)))))))], [(0, some (.box [.t none (.sl 3 (enS3 encS encI encB) ((rs2))), .t none (.sl 2 (enS2 encI (enSl 1 encI)) ((fs3)))])), (2, some (.row none 34 true 1 (enSl 1 encI) (findL ((rs2)) ((fs3)) ((b4))))), (4, some (.row none 34 true 1 (enSl 1 encI) (findL ((rs2)) ((fs3)) ((b4)))))], 5⟩ : Nat → St) (fun n => n ≤ b4.length) (fun n => b4.length - n) 0 ⟨⟨rfl, ⟨rfl, ⟨rfl, ⟨rfl, ⟨rfl, ⟨rfl, trivial⟩⟩⟩⟩⟩⟩, ⟨rfl, ⟨rfl, ⟨rfl, trivial⟩⟩⟩, rfl⟩ (by exact Nat.zero_le _) ?_
        rintro n hI ih1
        try dsimp only at hI ih1
        have j1 := hI
        refine t_seq ?_
        refine t_seq ?_
        refine t_region ?_
        refine r_op (o_move rfl rfl) ?_
        refine r_op (o_move rfl rfl) ?_
        refine r_op (o_len rfl rfl rfl) ?_
        refine r_op (o_bin rfl rfl rfl rfl) ?_
        refine r_end ?_
        refine t_cond rfl (fun h11 => ?_) (fun h11 => ?_)
        ·
          have h11' := of_decide_eq_true h11
          refine t_skip ?_
          refine t_seq ?_
          refine t_block ?_
          refine t_seq ?_
          refine t_draw (fun i => !(Nat.beq i 13)) (by kernel_rfl) ?_
          refine d_take 0 rfl rfl (by kernel_rfl) (by kernel_rfl) (by kernel_rfl) (p_move rfl) ?_
          refine d_take 1 rfl rfl (by kernel_rfl) (by kernel_rfl) (by kernel_rfl) (p_move rfl) ?_
          obtain ⟨z12, hz13, b14⟩ := at_get (xs := (b4)) (n := (n : Int)) (by omega) (by omega)
          refine d_take 2 rfl rfl (by kernel_rfl) (by kernel_rfl) (by kernel_rfl) (p_index (by kernel_rfl) rfl rfl b14 hz13) ?_
          refine d_take 3 rfl rfl (by kernel_rfl) (by kernel_rfl) (by kernel_rfl) (p_loadA (n := 2) (by kernel_rfl) (by kernel_rfl) rfl rfl) ?_
          refine d_take 4 rfl rfl (by kernel_rfl) (by kernel_rfl) (by kernel_rfl) (p_move rfl) ?_
          refine d_take 5 rfl rfl (by kernel_rfl) (by kernel_rfl) (by kernel_rfl) (p_move rfl) ?_
          obtain ⟨z15, hz16, b17⟩ := at_get (xs := findL ((rs2)) ((fs3)) ((b4))) (n := (m : Int)) (by omega) (by omega)
          refine d_take 6 rfl rfl (by kernel_rfl) (by kernel_rfl) (by kernel_rfl) (p_indexo (by kernel_rfl) rfl rfl rfl b17 (at_lt b17 hz16)) ?_
          refine d_take 7 rfl rfl (by kernel_rfl) (by kernel_rfl) (by kernel_rfl) (p_load1o (by kernel_rfl) rfl rfl rfl hz16) ?_
          rcases hm18 : instV (z15) (z12.2) with _ | q20
          ·
            skip
            refine d_two 8 12 rfl rfl (by kernel_rfl) rfl rfl (o_call 5 9 false (Go.Proofs.enters_of Tryz.func12 (by kernel_rfl) rfl) (c_impl_Instantiate (z12.1) (z12.2) (z15) (by (have e7 := YL _ (List.mem_of_getElem? (by assumption)); omega)) (by exact ys3 _ (List.mem_of_getElem? (by assumption))) _ hm18) rfl (.cons rfl (.agg (.cons .t0 (.cons .t0 .nil))) (.cons rfl (.c .t1) .nil)) rfl rfl rfl) (o_alloc 5 (zs := [.int .i64 (0), .slice none 0 0]) rfl rfl (by kernel_rfl) rfl) ?_ ?_
            ·
              refine d_take 9 rfl rfl (by kernel_rfl) (by kernel_rfl) (by kernel_rfl) (p_move rfl) ?_
              refine d_take 10 rfl rfl (by kernel_rfl) (by kernel_rfl) (by kernel_rfl) (p_extract rfl rfl rfl) ?_
              refine d_two 11 12 rfl rfl (by kernel_rfl) rfl rfl (o_extract rfl rfl rfl rfl) (o_alloc 9 (zs := [.int .i64 (0), .slice none 0 0]) rfl rfl (by kernel_rfl) rfl) ?_ ?_
              ·
                refine d_only 12 rfl (by kernel_rfl) rfl (o_alloc 9 (zs := [.int .i64 (0), .slice none 0 0]) rfl rfl (by kernel_rfl) rfl) ?_
                refine d_only 13 rfl (by kernel_rfl) rfl (o_storeb (n := 2) (by kernel_rfl) rfl rfl rfl rfl rfl rfl) ?_
                refine d_take 14 rfl rfl (by kernel_rfl) (by kernel_rfl) (by kernel_rfl) (p_assign rfl) ?_
                refine d_end (by kernel_rfl) ?_
                refine t_seq ?_
                refine t_region ?_
                refine r_op (o_move rfl rfl) ?_
                refine r_op (o_not rfl rfl) ?_
                refine r_op (o_move rfl rfl) ?_
                refine r_guard rfl rfl rfl (nc rfl) (fun _ => ?_)
                refine r_guard rfl rfl rfl (nc rfl) (fun _ => ?_)
                refine r_guard rfl rfl rfl (nc rfl) (fun _ => ?_)
                refine r_guard rfl rfl rfl (nc rfl) (fun _ => ?_)
                refine r_op (o_pickT rfl rfl rfl rfl) ?_
                refine r_end ?_
                refine t_cond rfl (fun _ => ?_) (nc rfl)
                refine t_seq ?_
                refine t_region ?_
                refine r_op (o_assign rfl rfl) ?_
                refine r_end ?_
                refine t_ret Tryz.func3 (.tmp rfl .nil) rfl fun E S w u hI hd => ?_
                refine post_mk hI hd ?_ trivial rfl rfl rfl <;> clear hI hd <;> (try clear ih0) <;> (try clear ih1)
                all_goals ((exfalso; clear K5 xs3 ys3 YL hx2 hx4; grind))
              ·
                refine d_two 11 13 rfl rfl (by kernel_rfl) rfl rfl (o_extract rfl rfl rfl rfl) (o_storeb (n := 2) (by kernel_rfl) rfl rfl rfl rfl rfl rfl) ?_ ?_
                ·
                  refine d_only 13 rfl (by kernel_rfl) rfl (o_storeb (n := 2) (by kernel_rfl) rfl rfl rfl rfl rfl rfl) ?_
                  refine d_take 14 rfl rfl (by kernel_rfl) (by kernel_rfl) (by kernel_rfl) (p_assign rfl) ?_
                  refine d_end (by kernel_rfl) ?_
                  refine t_seq ?_
                  refine t_region ?_
                  refine r_op (o_move rfl rfl) ?_
                  refine r_op (o_not rfl rfl) ?_
                  refine r_op (o_move rfl rfl) ?_
                  refine r_guard rfl rfl rfl (nc rfl) (fun _ => ?_)
                  refine r_guard rfl rfl rfl (nc rfl) (fun _ => ?_)
                  refine r_guard rfl rfl rfl (nc rfl) (fun _ => ?_)
                  refine r_guard rfl rfl rfl (nc rfl) (fun _ => ?_)
                  refine r_op (o_pickT rfl rfl rfl rfl) ?_
                  refine r_end ?_
                  refine t_cond rfl (fun _ => ?_) (nc rfl)
                  refine t_seq ?_
                  refine t_region ?_
                  refine r_op (o_assign rfl rfl) ?_
                  refine r_end ?_
                  refine t_ret Tryz.func3 (.tmp rfl .nil) rfl fun E S w u hI hd => ?_
                  refine post_mk hI hd ?_ trivial rfl rfl rfl <;> clear hI hd <;> (try clear ih0) <;> (try clear ih1)
                  all_goals ((exfalso; clear K5 xs3 ys3 YL hx2 hx4; grind))
                ·
                  refine d_take 11 rfl rfl (by kernel_rfl) (by kernel_rfl) (by kernel_rfl) (p_extract rfl rfl rfl) ?_
                  refine d_take 14 rfl rfl (by kernel_rfl) (by kernel_rfl) (by kernel_rfl) (p_assign rfl) ?_
                  refine d_end (by kernel_rfl) ?_
                  refine t_seq ?_
                  refine t_region ?_
                  refine r_op (o_move rfl rfl) ?_
                  refine r_op (o_not rfl rfl) ?_
                  refine r_op (o_move rfl rfl) ?_
                  refine r_guard rfl rfl rfl (nc rfl) (fun _ => ?_)
                  refine r_guard rfl rfl rfl (nc rfl) (fun _ => ?_)
                  refine r_guard rfl rfl rfl (nc rfl) (fun _ => ?_)
                  refine r_guard rfl rfl rfl (nc rfl) (fun _ => ?_)
                  refine r_op (o_pickT rfl rfl rfl rfl) ?_
                  refine r_end ?_
                  refine t_cond rfl (fun _ => ?_) (nc rfl)
                  refine t_seq ?_
                  refine t_region ?_
                  refine r_op (o_assign rfl rfl) ?_
                  refine r_end ?_
                  refine t_ret Tryz.func3 (.tmp rfl .nil) rfl fun E S w u hI hd => ?_
                  refine post_mk hI hd ?_ trivial rfl rfl rfl <;> clear hI hd <;> (try clear ih0) <;> (try clear ih1)
                  all_goals ((exfalso; clear K5 xs3 ys3 YL hx2 hx4; grind))
            ·
              refine d_only 8 rfl (by kernel_rfl) rfl (o_call 6 10 false (Go.Proofs.enters_of Tryz.func12 (by kernel_rfl) rfl) (c_impl_Instantiate (z12.1) (z12.2) (z15) (by (have e7 := YL _ (List.mem_of_getElem? (by assumption)); omega)) (by exact ys3 _ (List.mem_of_getElem? (by assumption))) _ hm18) rfl (.cons rfl (.agg (.cons .t0 (.cons .t0 .nil))) (.cons rfl (.c .t1) .nil)) rfl rfl rfl) ?_
              refine d_take 9 rfl rfl (by kernel_rfl) (by kernel_rfl) (by kernel_rfl) (p_move rfl) ?_
              refine d_take 10 rfl rfl (by kernel_rfl) (by kernel_rfl) (by kernel_rfl) (p_extract rfl rfl rfl) ?_
              refine d_two 11 13 rfl rfl (by kernel_rfl) rfl rfl (o_extract rfl rfl rfl rfl) (o_storeb (n := 2) (by kernel_rfl) rfl rfl rfl rfl rfl rfl) ?_ ?_
              ·
                refine d_only 13 rfl (by kernel_rfl) rfl (o_storeb (n := 2) (by kernel_rfl) rfl rfl rfl rfl rfl rfl) ?_
                refine d_take 14 rfl rfl (by kernel_rfl) (by kernel_rfl) (by kernel_rfl) (p_assign rfl) ?_
                refine d_end (by kernel_rfl) ?_
                refine t_seq ?_
                refine t_region ?_
                refine r_op (o_move rfl rfl) ?_
                refine r_op (o_not rfl rfl) ?_
                refine r_op (o_move rfl rfl) ?_
                refine r_guard rfl rfl rfl (nc rfl) (fun _ => ?_)
                refine r_guard rfl rfl rfl (nc rfl) (fun _ => ?_)
                refine r_guard rfl rfl rfl (nc rfl) (fun _ => ?_)
                refine r_guard rfl rfl rfl (nc rfl) (fun _ => ?_)
                refine r_op (o_pickT rfl rfl rfl rfl) ?_
                refine r_end ?_
                refine t_cond rfl (fun _ => ?_) (nc rfl)
                refine t_seq ?_
                refine t_region ?_
                refine r_op (o_assign rfl rfl) ?_
                refine r_end ?_
                refine t_ret Tryz.func3 (.tmp rfl .nil) rfl fun E S w u hI hd => ?_
                refine post_mk hI hd ?_ trivial rfl rfl rfl <;> clear hI hd <;> (try clear ih0) <;> (try clear ih1)
                all_goals ((exfalso; clear K5 xs3 ys3 YL hx2 hx4; grind))
              ·
                refine d_take 11 rfl rfl (by kernel_rfl) (by kernel_rfl) (by kernel_rfl) (p_extract rfl rfl rfl) ?_
                refine d_take 14 rfl rfl (by kernel_rfl) (by kernel_rfl) (by kernel_rfl) (p_assign rfl) ?_
                refine d_end (by kernel_rfl) ?_
                refine t_seq ?_
                refine t_region ?_
                refine r_op (o_move rfl rfl) ?_
                refine r_op (o_not rfl rfl) ?_
                refine r_op (o_move rfl rfl) ?_
                refine r_guard rfl rfl rfl (nc rfl) (fun _ => ?_)
                refine r_guard rfl rfl rfl (nc rfl) (fun _ => ?_)
                refine r_guard rfl rfl rfl (nc rfl) (fun _ => ?_)
                refine r_guard rfl rfl rfl (nc rfl) (fun _ => ?_)
                refine r_op (o_pickT rfl rfl rfl rfl) ?_
                refine r_end ?_
                refine t_cond rfl (fun _ => ?_) (nc rfl)
                refine t_seq ?_
                refine t_region ?_
                refine r_op (o_assign rfl rfl) ?_
                refine r_end ?_
                refine t_ret Tryz.func3 (.tmp rfl .nil) rfl fun E S w u hI hd => ?_
                refine post_mk hI hd ?_ trivial rfl rfl rfl <;> clear hI hd <;> (try clear ih0) <;> (try clear ih1)
                all_goals ((exfalso; clear K5 xs3 ys3 YL hx2 hx4; grind))
          ·
            skip
            refine d_two 8 12 rfl rfl (by kernel_rfl) rfl rfl (o_call 5 9 false (Go.Proofs.enters_of Tryz.func12 (by kernel_rfl) rfl) (c_impl_Instantiate (z12.1) (z12.2) (z15) (by (have e7 := YL _ (List.mem_of_getElem? (by assumption)); omega)) (by exact ys3 _ (List.mem_of_getElem? (by assumption))) _ hm18) rfl (.cons rfl (.agg (.cons .t0 (.cons .t0 .nil))) (.cons rfl (.c .t1) .nil)) rfl rfl rfl) (o_alloc 5 (zs := [.int .i64 (0), .slice none 0 0]) rfl rfl (by kernel_rfl) rfl) ?_ ?_
            ·
              refine d_take 9 rfl rfl (by kernel_rfl) (by kernel_rfl) (by kernel_rfl) (p_move rfl) ?_
              refine d_take 10 rfl rfl (by kernel_rfl) (by kernel_rfl) (by kernel_rfl) (p_extract rfl rfl rfl) ?_
              refine d_two 11 12 rfl rfl (by kernel_rfl) rfl rfl (o_extract rfl rfl rfl rfl) (o_alloc 9 (zs := [.int .i64 (0), .slice none 0 0]) rfl rfl (by kernel_rfl) rfl) ?_ ?_
              ·
                refine d_only 12 rfl (by kernel_rfl) rfl (o_alloc 9 (zs := [.int .i64 (0), .slice none 0 0]) rfl rfl (by kernel_rfl) rfl) ?_
                refine d_only 13 rfl (by kernel_rfl) rfl (o_storeb (n := 2) (by kernel_rfl) rfl rfl rfl rfl rfl rfl) ?_
                refine d_take 14 rfl rfl (by kernel_rfl) (by kernel_rfl) (by kernel_rfl) (p_assign rfl) ?_
                refine d_end (by kernel_rfl) ?_
                refine t_seq ?_
                refine t_region ?_
                refine r_op (o_move rfl rfl) ?_
                refine r_op (o_not rfl rfl) ?_
                refine r_op (o_move rfl rfl) ?_
                refine r_guard rfl rfl rfl (fun _ => ?_) (ncf rfl)
                refine r_op (o_loadAb rfl (n := 2) (by kernel_rfl) (by kernel_rfl) rfl rfl rfl) ?_
                refine r_guard rfl rfl rfl (fun _ => ?_) (ncf rfl)
                refine r_op (o_loadAb rfl (n := 2) (by kernel_rfl) (by kernel_rfl) rfl rfl rfl) ?_
                refine r_guard rfl rfl rfl (fun _ => ?_) (ncf rfl)
                refine r_op (o_call 10 10 false (Go.Proofs.enters_of Tryz.func13 (by kernel_rfl) rfl) (c_impl_ContainsFact ((rs2)) ((fs3)) ((z12.1)) ((q20)) (by omega) (by omega) (by omega) (by (have e7 := instV_len (by assumption); (have e8 := YL _ (List.mem_of_getElem? (by assumption)); omega)))) rfl (.cons rfl (.agg (.cons .t0 (.cons .t0 .nil))) (.cons rfl (.agg (.cons .t0 (.cons (.own rfl) .nil))) .nil)) rfl rfl rfl) ?_
                refine r_guard rfl rfl rfl (fun _ => ?_) (ncf rfl)
                refine r_op (o_not rfl rfl) ?_
                refine r_op (o_pickF rfl rfl rfl rfl) ?_
                refine r_end ?_
                refine t_cond rfl (fun h39 => ?_) (fun h39 => ?_)
                ·
                  have h39' := (bnt h39)
                  refine t_seq ?_
                  refine t_region ?_
                  refine r_op (o_assign rfl rfl) ?_
                  refine r_end ?_
                  refine t_ret Tryz.func3 (.tmp rfl .nil) rfl fun E S w u hI hd => ?_
                  refine post_mk hI hd ?_ trivial rfl rfl rfl <;> clear hI hd <;> (try clear ih0) <;> (try clear ih1)
                  all_goals ((exfalso; clear K5 xs3 ys3 YL hx2 hx4; grind))
                ·
                  have h39' := (bnf h39)
                  refine t_skip ?_
                  refine t_endblock ?_
                  refine t_region ?_
                  refine r_op (o_move rfl rfl) ?_
                  refine r_op (o_bin rfl rfl rfl rfl) ?_
                  refine r_op (o_assign rfl rfl) ?_
                  refine r_end ?_
                  refine t_le ?_ (ih1 (n + 1) (by (try dsimp only); omega) (by (try dsimp only); omega))
                  exact ⟨⟨rfl, ⟨rfl, ⟨rfl, ⟨rfl, ⟨rfl, ⟨(eqI (wr64 (by omega) (by omega))), trivial⟩⟩⟩⟩⟩⟩, ⟨rfl, ⟨rfl, ⟨rfl, trivial⟩⟩⟩, rfl⟩
              ·
                refine d_two 11 13 rfl rfl (by kernel_rfl) rfl rfl (o_extract rfl rfl rfl rfl) (o_storeb (n := 2) (by kernel_rfl) rfl rfl rfl rfl rfl rfl) ?_ ?_
                ·
                  refine d_only 13 rfl (by kernel_rfl) rfl (o_storeb (n := 2) (by kernel_rfl) rfl rfl rfl rfl rfl rfl) ?_
                  refine d_take 14 rfl rfl (by kernel_rfl) (by kernel_rfl) (by kernel_rfl) (p_assign rfl) ?_
                  refine d_end (by kernel_rfl) ?_
                  refine t_seq ?_
                  refine t_region ?_
                  refine r_op (o_move rfl rfl) ?_
                  refine r_op (o_not rfl rfl) ?_
                  refine r_op (o_move rfl rfl) ?_
                  refine r_guard rfl rfl rfl (fun _ => ?_) (ncf rfl)
                  refine r_op (o_loadAb rfl (n := 2) (by kernel_rfl) (by kernel_rfl) rfl rfl rfl) ?_
                  refine r_guard rfl rfl rfl (fun _ => ?_) (ncf rfl)
                  refine r_op (o_loadAb rfl (n := 2) (by kernel_rfl) (by kernel_rfl) rfl rfl rfl) ?_
                  refine r_guard rfl rfl rfl (fun _ => ?_) (ncf rfl)
                  refine r_op (o_call 10 10 false (Go.Proofs.enters_of Tryz.func13 (by kernel_rfl) rfl) (c_impl_ContainsFact ((rs2)) ((fs3)) ((z12.1)) ((q20)) (by omega) (by omega) (by omega) (by (have e7 := instV_len (by assumption); (have e8 := YL _ (List.mem_of_getElem? (by assumption)); omega)))) rfl (.cons rfl (.agg (.cons .t0 (.cons .t0 .nil))) (.cons rfl (.agg (.cons .t0 (.cons (.own rfl) .nil))) .nil)) rfl rfl rfl) ?_
                  refine r_guard rfl rfl rfl (fun _ => ?_) (ncf rfl)
                  refine r_op (o_not rfl rfl) ?_
                  refine r_op (o_pickF rfl rfl rfl rfl) ?_
                  refine r_end ?_
                  refine t_cond rfl (fun h40 => ?_) (fun h40 => ?_)
                  ·
                    have h40' := (bnt h40)
                    refine t_seq ?_
                    refine t_region ?_
                    refine r_op (o_assign rfl rfl) ?_
                    refine r_end ?_
                    refine t_ret Tryz.func3 (.tmp rfl .nil) rfl fun E S w u hI hd => ?_
                    refine post_mk hI hd ?_ trivial rfl rfl rfl <;> clear hI hd <;> (try clear ih0) <;> (try clear ih1)
                    all_goals ((exfalso; clear K5 xs3 ys3 YL hx2 hx4; grind))
                  ·
                    have h40' := (bnf h40)
                    refine t_skip ?_
                    refine t_endblock ?_
                    refine t_region ?_
                    refine r_op (o_move rfl rfl) ?_
                    refine r_op (o_bin rfl rfl rfl rfl) ?_
                    refine r_op (o_assign rfl rfl) ?_
                    refine r_end ?_
                    refine t_le ?_ (ih1 (n + 1) (by (try dsimp only); omega) (by (try dsimp only); omega))
                    exact ⟨⟨rfl, ⟨rfl, ⟨rfl, ⟨rfl, ⟨rfl, ⟨(eqI (wr64 (by omega) (by omega))), trivial⟩⟩⟩⟩⟩⟩, ⟨rfl, ⟨rfl, ⟨rfl, trivial⟩⟩⟩, rfl⟩
                ·
                  refine d_take 11 rfl rfl (by kernel_rfl) (by kernel_rfl) (by kernel_rfl) (p_extract rfl rfl rfl) ?_
                  refine d_take 14 rfl rfl (by kernel_rfl) (by kernel_rfl) (by kernel_rfl) (p_assign rfl) ?_
                  refine d_end (by kernel_rfl) ?_
                  refine t_seq ?_
                  refine t_region ?_
                  refine r_op (o_move rfl rfl) ?_
                  refine r_op (o_not rfl rfl) ?_
                  refine r_op (o_move rfl rfl) ?_
                  refine r_guard rfl rfl rfl (fun _ => ?_) (ncf rfl)
                  refine r_op (o_loadAb rfl (n := 2) (by kernel_rfl) (by kernel_rfl) rfl rfl rfl) ?_
                  refine r_guard rfl rfl rfl (fun _ => ?_) (ncf rfl)
                  refine r_op (o_loadAb rfl (n := 2) (by kernel_rfl) (by kernel_rfl) rfl rfl rfl) ?_
                  refine r_guard rfl rfl rfl (fun _ => ?_) (ncf rfl)
                  refine r_op (o_call 10 10 false (Go.Proofs.enters_of Tryz.func13 (by kernel_rfl) rfl) (c_impl_ContainsFact ((rs2)) ((fs3)) ((z12.1)) ((q20)) (by omega) (by omega) (by omega) (by (have e7 := instV_len (by assumption); (have e8 := YL _ (List.mem_of_getElem? (by assumption)); omega)))) rfl (.cons rfl (.agg (.cons .t0 (.cons .t0 .nil))) (.cons rfl (.agg (.cons .t0 (.cons (.own rfl) .nil))) .nil)) rfl rfl rfl) ?_
                  refine r_guard rfl rfl rfl (fun _ => ?_) (ncf rfl)
                  refine r_op (o_not rfl rfl) ?_
                  refine r_op (o_pickF rfl rfl rfl rfl) ?_
                  refine r_end ?_
                  refine t_cond rfl (fun h41 => ?_) (fun h41 => ?_)
                  ·
                    have h41' := (bnt h41)
                    refine t_seq ?_
                    refine t_region ?_
                    refine r_op (o_assign rfl rfl) ?_
                    refine r_end ?_
                    refine t_ret Tryz.func3 (.tmp rfl .nil) rfl fun E S w u hI hd => ?_
                    refine post_mk hI hd ?_ trivial rfl rfl rfl <;> clear hI hd <;> (try clear ih0) <;> (try clear ih1)
                    all_goals ((exfalso; clear K5 xs3 ys3 YL hx2 hx4; grind))
                  ·
                    have h41' := (bnf h41)
                    refine t_skip ?_
                    refine t_endblock ?_
                    refine t_region ?_
                    refine r_op (o_move rfl rfl) ?_
                    refine r_op (o_bin rfl rfl rfl rfl) ?_
                    refine r_op (o_assign rfl rfl) ?_
                    refine r_end ?_
                    refine t_le ?_ (ih1 (n + 1) (by (try dsimp only); omega) (by (try dsimp only); omega))
                    exact ⟨⟨rfl, ⟨rfl, ⟨rfl, ⟨rfl, ⟨rfl, ⟨(eqI (wr64 (by omega) (by omega))), trivial⟩⟩⟩⟩⟩⟩, ⟨rfl, ⟨rfl, ⟨rfl, trivial⟩⟩⟩, rfl⟩
            ·
              refine d_only 8 rfl (by kernel_rfl) rfl (o_call 6 10 false (Go.Proofs.enters_of Tryz.func12 (by kernel_rfl) rfl) (c_impl_Instantiate (z12.1) (z12.2) (z15) (by (have e7 := YL _ (List.mem_of_getElem? (by assumption)); omega)) (by exact ys3 _ (List.mem_of_getElem? (by assumption))) _ hm18) rfl (.cons rfl (.agg (.cons .t0 (.cons .t0 .nil))) (.cons rfl (.c .t1) .nil)) rfl rfl rfl) ?_
              refine d_take 9 rfl rfl (by kernel_rfl) (by kernel_rfl) (by kernel_rfl) (p_move rfl) ?_
              refine d_take 10 rfl rfl (by kernel_rfl) (by kernel_rfl) (by kernel_rfl) (p_extract rfl rfl rfl) ?_
              refine d_two 11 13 rfl rfl (by kernel_rfl) rfl rfl (o_extract rfl rfl rfl rfl) (o_storeb (n := 2) (by kernel_rfl) rfl rfl rfl rfl rfl rfl) ?_ ?_
              ·
                refine d_only 13 rfl (by kernel_rfl) rfl (o_storeb (n := 2) (by kernel_rfl) rfl rfl rfl rfl rfl rfl) ?_
                refine d_take 14 rfl rfl (by kernel_rfl) (by kernel_rfl) (by kernel_rfl) (p_assign rfl) ?_
                refine d_end (by kernel_rfl) ?_
                refine t_seq ?_
                refine t_region ?_
                refine r_op (o_move rfl rfl) ?_
                refine r_op (o_not rfl rfl) ?_
                refine r_op (o_move rfl rfl) ?_
                refine r_guard rfl rfl rfl (fun _ => ?_) (ncf rfl)
                refine r_op (o_loadAb rfl (n := 2) (by kernel_rfl) (by kernel_rfl) rfl rfl rfl) ?_
                refine r_guard rfl rfl rfl (fun _ => ?_) (ncf rfl)
                refine r_op (o_loadAb rfl (n := 2) (by kernel_rfl) (by kernel_rfl) rfl rfl rfl) ?_
                refine r_guard rfl rfl rfl (fun _ => ?_) (ncf rfl)
                refine r_op (o_call 10 10 false (Go.Proofs.enters_of Tryz.func13 (by kernel_rfl) rfl) (c_impl_ContainsFact ((rs2)) ((fs3)) ((z12.1)) ((q20)) (by omega) (by omega) (by omega) (by (have e7 := instV_len (by assumption); (have e8 := YL _ (List.mem_of_getElem? (by assumption)); omega)))) rfl (.cons rfl (.agg (.cons .t0 (.cons .t0 .nil))) (.cons rfl (.agg (.cons .t0 (.cons (.own rfl) .nil))) .nil)) rfl rfl rfl) ?_
                refine r_guard rfl rfl rfl (fun _ => ?_) (ncf rfl)
                refine r_op (o_not rfl rfl) ?_
                refine r_op (o_pickF rfl rfl rfl rfl) ?_
                refine r_end ?_
                refine t_cond rfl (fun h48 => ?_) (fun h48 => ?_)
                ·
                  have h48' := (bnt h48)
                  refine t_seq ?_
                  refine t_region ?_
                  refine r_op (o_assign rfl rfl) ?_
                  refine r_end ?_
                  refine t_ret Tryz.func3 (.tmp rfl .nil) rfl fun E S w u hI hd => ?_
                  refine post_mk hI hd ?_ trivial rfl rfl rfl <;> clear hI hd <;> (try clear ih0) <;> (try clear ih1)
                  all_goals ((exfalso; clear K5 xs3 ys3 YL hx2 hx4; grind))
                ·
                  have h48' := (bnf h48)
                  refine t_skip ?_
                  refine t_endblock ?_
                  refine t_region ?_
                  refine r_op (o_move rfl rfl) ?_
                  refine r_op (o_bin rfl rfl rfl rfl) ?_
                  refine r_op (o_assign rfl rfl) ?_
                  refine r_end ?_
                  refine t_le ?_ (ih1 (n + 1) (by (try dsimp only); omega) (by (try dsimp only); omega))
                  exact ⟨⟨rfl, ⟨rfl, ⟨rfl, ⟨rfl, ⟨rfl, ⟨(eqI (wr64 (by omega) (by omega))), trivial⟩⟩⟩⟩⟩⟩, ⟨rfl, ⟨rfl, ⟨rfl, trivial⟩⟩⟩, rfl⟩
              ·
                refine d_take 11 rfl rfl (by kernel_rfl) (by kernel_rfl) (by kernel_rfl) (p_extract rfl rfl rfl) ?_
                refine d_take 14 rfl rfl (by kernel_rfl) (by kernel_rfl) (by kernel_rfl) (p_assign rfl) ?_
                refine d_end (by kernel_rfl) ?_
                refine t_seq ?_
                refine t_region ?_
                refine r_op (o_move rfl rfl) ?_
                refine r_op (o_not rfl rfl) ?_
                refine r_op (o_move rfl rfl) ?_
                refine r_guard rfl rfl rfl (fun _ => ?_) (ncf rfl)
                refine r_op (o_loadAb rfl (n := 2) (by kernel_rfl) (by kernel_rfl) rfl rfl rfl) ?_
                refine r_guard rfl rfl rfl (fun _ => ?_) (ncf rfl)
                refine r_op (o_loadAb rfl (n := 2) (by kernel_rfl) (by kernel_rfl) rfl rfl rfl) ?_
                refine r_guard rfl rfl rfl (fun _ => ?_) (ncf rfl)
                refine r_op (o_call 10 10 false (Go.Proofs.enters_of Tryz.func13 (by kernel_rfl) rfl) (c_impl_ContainsFact ((rs2)) ((fs3)) ((z12.1)) ((q20)) (by omega) (by omega) (by omega) (by (have e7 := instV_len (by assumption); (have e8 := YL _ (List.mem_of_getElem? (by assumption)); omega)))) rfl (.cons rfl (.agg (.cons .t0 (.cons .t0 .nil))) (.cons rfl (.agg (.cons .t0 (.cons (.own rfl) .nil))) .nil)) rfl rfl rfl) ?_
                refine r_guard rfl rfl rfl (fun _ => ?_) (ncf rfl)
                refine r_op (o_not rfl rfl) ?_
                refine r_op (o_pickF rfl rfl rfl rfl) ?_
                refine r_end ?_
                refine t_cond rfl (fun h49 => ?_) (fun h49 => ?_)
                ·
                  have h49' := (bnt h49)
                  refine t_seq ?_
                  refine t_region ?_
                  refine r_op (o_assign rfl rfl) ?_
                  refine r_end ?_
                  refine t_ret Tryz.func3 (.tmp rfl .nil) rfl fun E S w u hI hd => ?_
                  refine post_mk hI hd ?_ trivial rfl rfl rfl <;> clear hI hd <;> (try clear ih0) <;> (try clear ih1)
                  all_goals ((exfalso; clear K5 xs3 ys3 YL hx2 hx4; grind))
                ·
                  have h49' := (bnf h49)
                  refine t_skip ?_
                  refine t_endblock ?_
                  refine t_region ?_
                  refine r_op (o_move rfl rfl) ?_
                  refine r_op (o_bin rfl rfl rfl rfl) ?_
                  refine r_op (o_assign rfl rfl) ?_
                  refine r_end ?_
                  refine t_le ?_ (ih1 (n + 1) (by (try dsimp only); omega) (by (try dsimp only); omega))
                  exact ⟨⟨rfl, ⟨rfl, ⟨rfl, ⟨rfl, ⟨rfl, ⟨(eqI (wr64 (by omega) (by omega))), trivial⟩⟩⟩⟩⟩⟩, ⟨rfl, ⟨rfl, ⟨rfl, trivial⟩⟩⟩, rfl⟩
        ·
          have h11' := of_decide_eq_false h11
          refine t_exit rfl ?_
          refine t_seq ?_
          refine t_draw (fun _ => true) (by kernel_rfl) ?_
          refine d_take 0 rfl rfl (by kernel_rfl) (by kernel_rfl) (by kernel_rfl) (p_loadAb (n := 2) (by kernel_rfl) (by kernel_rfl) rfl rfl rfl) ?_
          refine d_take 1 rfl rfl (by kernel_rfl) (by kernel_rfl) (by kernel_rfl) (p_move rfl) ?_
          refine d_take 2 rfl rfl (by kernel_rfl) (by kernel_rfl) (by kernel_rfl) (p_move rfl) ?_
          refine d_take 3 rfl rfl (by kernel_rfl) (by kernel_rfl) (by kernel_rfl) (p_move rfl) ?_
          obtain ⟨z50, hz51, b52⟩ := at_get (xs := findL ((rs2)) ((fs3)) ((b4))) (n := (m : Int)) (by omega) (by omega)
          refine d_take 4 rfl rfl (by kernel_rfl) (by kernel_rfl) (by kernel_rfl) (p_indexo (by kernel_rfl) rfl rfl rfl b52 (at_lt b52 hz51)) ?_
          refine d_take 5 rfl rfl (by kernel_rfl) (by kernel_rfl) (by kernel_rfl) (p_load1o (by kernel_rfl) rfl rfl rfl hz51) ?_
          refine d_only 6 rfl (by kernel_rfl) rfl (o_call 5 5 false (Go.Proofs.enters_of Tryz.func14 (by kernel_rfl) rfl) (c_impl_HasExtension ((rs2)) ((fs3)) ((b4)) (z50) (by omega) (by omega) (by omega) (by omega) (by (have e7 := K5 _ _ (by assumption); omega))) rfl (.cons rfl (.agg (.cons .t0 (.cons .t0 .nil))) (.cons rfl (.c .t0) (.cons rfl (.c .t1) .nil))) rfl rfl rfl) ?_
          refine d_take 7 rfl rfl (by kernel_rfl) (by kernel_rfl) (by kernel_rfl) (p_not rfl) ?_
          refine d_take 8 rfl rfl (by kernel_rfl) (by kernel_rfl) (by kernel_rfl) (p_move rfl) ?_
          refine d_guard 9 rfl rfl (by kernel_rfl) (by kernel_rfl) (by kernel_rfl) rfl rfl (fun _ => p_move rfl) (fun g53 => ?_) (fun g53 => ?_)
          ·
            have g53' := (bnf g53)
            refine d_guard 10 rfl rfl (by kernel_rfl) (by kernel_rfl) (by kernel_rfl) rfl rfl (fun _ => p_move rfl) (fun _ => ?_) (ncf g53)
            refine d_guard 11 rfl rfl (by kernel_rfl) (by kernel_rfl) (by kernel_rfl) rfl rfl (fun _ => p_subo (by kernel_rfl) rfl rfl (.h rfl (by omega) (by omega))) (fun _ => ?_) (ncf g53)
            refine d_guard 12 rfl rfl (by kernel_rfl) (by kernel_rfl) (by kernel_rfl) rfl rfl (fun _ => p_move rfl) (fun _ => ?_) (ncf g53)
            refine d_guard 13 rfl rfl (by kernel_rfl) (by kernel_rfl) (by kernel_rfl) rfl rfl (fun _ => p_move rfl) (fun _ => ?_) (ncf g53)
            refine d_guard 14 rfl rfl (by kernel_rfl) (by kernel_rfl) (by kernel_rfl) rfl rfl (fun _ => p_indexo (by kernel_rfl) rfl rfl rfl b52 (at_lt b52 hz51)) (fun _ => ?_) (ncf g53)
            refine d_guard 15 rfl rfl (by kernel_rfl) (by kernel_rfl) (by kernel_rfl) rfl rfl (fun _ => p_load1o (by kernel_rfl) rfl rfl rfl hz51) (fun _ => ?_) (ncf g53)
            refine d_onlyG 16 rfl rfl (by kernel_rfl) rfl rfl rfl (fun _ => (o_call 5 5 false (Go.Proofs.enters_of Tryz.func15 (by kernel_rfl) rfl) (c_laws_inRows (((findL ((rs2)) ((fs3)) ((b4))).take ((m : Int)).toNat).drop 0) (z50) (by exact Nat.le_trans szS_part (by omega))) rfl (.cons rfl (.c .t1) (.cons rfl (.c .t1) .nil)) rfl rfl rfl)) (fun _ => ?_) (ncf g53)
            refine d_take 17 rfl rfl (by kernel_rfl) (by kernel_rfl) (by kernel_rfl) (p_pickF rfl g53 rfl) ?_
            refine d_end (by kernel_rfl) ?_
            refine t_cond rfl (fun h54 => ?_) (fun h54 => ?_)
            ·
              have h54' := h54
              refine t_seq ?_
              refine t_region ?_
              refine r_op (o_assign rfl rfl) ?_
              refine r_end ?_
              refine t_ret Tryz.func3 (.tmp rfl .nil) rfl fun E S w u hI hd => ?_
              refine post_mk hI hd ?_ trivial rfl rfl rfl <;> clear hI hd <;> (try clear ih0) <;> (try clear ih1)
              all_goals ((exfalso; clear K5 xs3 ys3 YL hx2 hx4; grind))
            ·
              have h54' := h54
              refine t_skip ?_
              refine t_endblock ?_
              refine t_region ?_
              refine r_op (o_move rfl rfl) ?_
              refine r_op (o_bin rfl rfl rfl rfl) ?_
              refine r_op (o_assign rfl rfl) ?_
              refine r_end ?_
              refine t_le ?_ (ih0 (m + 1) (by (try dsimp only); omega) (by (try dsimp only); omega))
              exact ⟨⟨rfl, ⟨rfl, ⟨rfl, ⟨rfl, ⟨(eqI (wr64 (by omega) (by omega))), trivial⟩⟩⟩⟩⟩, ⟨rfl, ⟨rfl, ⟨rfl, trivial⟩⟩⟩, rfl⟩
          ·
            have g53' := (bnt g53)
            refine d_guard 10 rfl rfl (by kernel_rfl) (by kernel_rfl) (by kernel_rfl) rfl rfl (v := .c .top) (nc g53) (nc g53) (fun _ => ?_)
            refine d_guard 11 rfl rfl (by kernel_rfl) (by kernel_rfl) (by kernel_rfl) rfl rfl (v := .c .top) (nc g53) (nc g53) (fun _ => ?_)
            refine d_guard 12 rfl rfl (by kernel_rfl) (by kernel_rfl) (by kernel_rfl) rfl rfl (v := .c .top) (nc g53) (nc g53) (fun _ => ?_)
            refine d_guard 13 rfl rfl (by kernel_rfl) (by kernel_rfl) (by kernel_rfl) rfl rfl (v := .c .top) (nc g53) (nc g53) (fun _ => ?_)
            refine d_guard 14 rfl rfl (by kernel_rfl) (by kernel_rfl) (by kernel_rfl) rfl rfl (v := .c .top) (nc g53) (nc g53) (fun _ => ?_)
            refine d_guard 15 rfl rfl (by kernel_rfl) (by kernel_rfl) (by kernel_rfl) rfl rfl (v := .c .top) (nc g53) (nc g53) (fun _ => ?_)
            refine d_guard 16 rfl rfl (by kernel_rfl) (by kernel_rfl) (by kernel_rfl) rfl rfl (v := .c .top) (nc g53) (nc g53) (fun _ => ?_)
            refine d_take 17 rfl rfl (by kernel_rfl) (by kernel_rfl) (by kernel_rfl) (p_pickT rfl g53 rfl) ?_
            refine d_end (by kernel_rfl) ?_
            refine t_cond rfl (fun _ => ?_) (nc rfl)
            refine t_seq ?_
            refine t_region ?_
            refine r_op (o_assign rfl rfl) ?_
            refine r_end ?_
            refine t_ret Tryz.func3 (.tmp rfl .nil) rfl fun E S w u hI hd => ?_
            refine post_mk hI hd ?_ trivial rfl rfl rfl <;> clear hI hd <;> (try clear ih0) <;> (try clear ih1)
            all_goals ((exfalso; clear K5 xs3 ys3 YL hx2 hx4; grind))
      ·
        have h10' := of_decide_eq_false h10
        refine t_exit rfl ?_
        refine t_seq ?_
        refine t_region ?_
        refine r_op (o_move rfl rfl) ?_
        refine r_opX (o_callG 5 5 (Go.Proofs.enters_of Tryz.func16 (by kernel_rfl) rfl) (c_spec_DrawHasExtension (code) (by omega)) rfl (.cons rfl (.c .t0) .nil) rfl rfl) ?_
        rintro ⟨⟨rs55, fs56, b57, v58⟩, hq59⟩
        try dsimp only at hq59
        try dsimp only
        obtain ⟨q60, q61, q62, q63, q64⟩ := hq59
        have hx0 : instL rs55 fs56 := (by assumption); obtain ⟨hx1, hx2, hx3, hx4⟩ := hx0; have xs1 := szF_L hx4; have xs3 := factL_ok hx4; have zs2 := szA_L (l := b57) (by assumption); clear KL
        refine r_op (o_move rfl rfl) ?_
        refine r_op (o_extract rfl rfl rfl rfl) ?_
        refine r_op (o_extract rfl rfl rfl rfl) ?_
        refine r_op (o_extract rfl rfl rfl rfl) ?_
        refine r_op (o_alloc 5 (zs := [.slice none 0 0, .slice none 0 0]) rfl rfl (by kernel_rfl) rfl) ?_
        refine r_op (o_storeb (n := 2) (by kernel_rfl) rfl rfl rfl rfl rfl rfl) ?_
        refine r_op (o_assign rfl rfl) ?_
        refine r_op (o_assign rfl rfl) ?_
        refine r_end ?_
        refine t_seq ?_
        refine t_region ?_
        refine r_op (o_move rfl rfl) ?_
        refine r_opX (o_callG 6 6 (Go.Proofs.enters_of Tryz.func17 (by kernel_rfl) rfl) (c_spec_DrawInstantiate (code) (by omega)) rfl (.cons rfl (.c .t0) .nil) rfl rfl) ?_
        rintro ⟨⟨r65, ts66, v67⟩, hq68⟩
        try dsimp only at hq68
        try dsimp only
        obtain ⟨q69, q70, q71⟩ := hq68
        have ka := atomL_ok (a := (r65, ts66)) (by assumption); have ka2 : ts66.length ≤ 2 := (by assumption : atomL (r65, ts66)).2.1.2; have ka3 := ka.2.2; (try dsimp only at ka3)
        refine r_op (o_move rfl rfl) ?_
        refine r_op (o_extract rfl rfl rfl rfl) ?_
        refine r_op (o_extract rfl rfl rfl rfl) ?_
        refine r_op (o_alloc 6 (zs := [.int .i64 (0), .slice none 0 0]) rfl rfl (by kernel_rfl) rfl) ?_
        refine r_op (o_storeb (n := 2) (by kernel_rfl) rfl rfl rfl rfl rfl rfl) ?_
        refine r_op (o_assign rfl rfl) ?_
        refine r_end ?_
        refine t_seq ?_
        refine t_region ?_
        refine r_op (o_loadAb rfl (n := 2) (by kernel_rfl) (by kernel_rfl) rfl rfl rfl) ?_
        refine r_op (o_move rfl rfl) ?_
        rcases hm72 : instV ((v67)) ((ts66)) with _ | q74
        ·
          refine r_op (o_call 7 11 false (Go.Proofs.enters_of Tryz.func12 (by kernel_rfl) rfl) (c_impl_Instantiate ((r65)) ((ts66)) ((v67)) (by omega) (by omega) _ hm72) rfl (.cons rfl (.agg (.cons .t0 (.cons .t0 .nil))) (.cons rfl (.c .t0) .nil)) rfl rfl rfl) ?_
          refine r_op (o_move rfl rfl) ?_
          refine r_op (o_extract rfl rfl rfl rfl) ?_
          refine r_op (o_extract rfl rfl rfl rfl) ?_
          refine r_op (o_alloc 11 (zs := [.int .i64 (0), .slice none 0 0]) rfl rfl (by kernel_rfl) rfl) ?_
          refine r_op (o_storeb (n := 2) (by kernel_rfl) rfl rfl rfl rfl rfl rfl) ?_
          refine r_op (o_assign rfl rfl) ?_
          refine r_end ?_
          refine t_seq ?_
          refine t_region ?_
          refine r_op (o_loadAb rfl (n := 2) (by kernel_rfl) (by kernel_rfl) rfl rfl rfl) ?_
          refine r_op (o_move rfl rfl) ?_
          refine r_op (o_call 12 16 false (Go.Proofs.enters_of Tryz.func18 (by kernel_rfl) rfl) (c_spec_Instantiate ((r65)) ((ts66)) ((v67)) (by omega) (by omega) (by omega) _ hm72) rfl (.cons rfl (.agg (.cons .t0 (.cons .t0 .nil))) (.cons rfl (.c .t0) .nil)) rfl rfl rfl) ?_
          refine r_op (o_move rfl rfl) ?_
          refine r_op (o_extract rfl rfl rfl rfl) ?_
          refine r_op (o_extract rfl rfl rfl rfl) ?_
          refine r_op (o_alloc 16 (zs := [.int .i64 (0), .slice none 0 0]) rfl rfl (by kernel_rfl) rfl) ?_
          refine r_op (o_storeb (n := 2) (by kernel_rfl) rfl rfl rfl rfl rfl rfl) ?_
          refine r_op (o_assign rfl rfl) ?_
          refine r_end ?_
          refine t_seq ?_
          refine t_draw (fun _ => true) (by kernel_rfl) ?_
          refine d_take 0 rfl rfl (by kernel_rfl) (by kernel_rfl) (by kernel_rfl) (p_loadAb (n := 2) (by kernel_rfl) (by kernel_rfl) rfl rfl rfl) ?_
          refine d_take 1 rfl rfl (by kernel_rfl) (by kernel_rfl) (by kernel_rfl) (p_move rfl) ?_
          refine d_take 2 rfl rfl (by kernel_rfl) (by kernel_rfl) (by kernel_rfl) (p_move rfl) ?_
          refine d_take 4 rfl rfl (by kernel_rfl) (by kernel_rfl) (by kernel_rfl) (p_loadAb (n := 2) (by kernel_rfl) (by kernel_rfl) rfl rfl rfl) ?_
          refine d_take 5 rfl rfl (by kernel_rfl) (by kernel_rfl) (by kernel_rfl) (p_move rfl) ?_
          refine d_take 6 rfl rfl (by kernel_rfl) (by kernel_rfl) (by kernel_rfl) (p_move rfl) ?_
          refine d_only 3 rfl (by kernel_rfl) rfl (o_call 17 17 false (Go.Proofs.enters_of Tryz.func14 (by kernel_rfl) rfl) (c_impl_HasExtension ((rs55)) ((fs56)) ((b57)) ((v58)) (by omega) (by omega) (by omega) (by omega) (by omega)) rfl (.cons rfl (.agg (.cons .t0 (.cons .t0 .nil))) (.cons rfl (.c .t0) (.cons rfl (.c .t0) .nil))) rfl rfl rfl) ?_
          refine d_only 7 rfl (by kernel_rfl) rfl (o_call 17 17 false (Go.Proofs.enters_of Tryz.func19 (by kernel_rfl) rfl) (c_spec_HasExtension ((rs55)) ((fs56)) ((b57)) ((v58)) (by omega) (by omega) (by omega) (by omega) (by omega)) rfl (.cons rfl (.agg (.cons .t0 (.cons .t0 .nil))) (.cons rfl (.c .t0) (.cons rfl (.c .t0) .nil))) rfl rfl rfl) ?_
          refine d_take 8 rfl rfl (by kernel_rfl) (by kernel_rfl) (by kernel_rfl) (p_eqB Tryz.underlying4 rfl rfl) ?_
          refine d_take 9 rfl rfl (by kernel_rfl) (by kernel_rfl) (by kernel_rfl) (p_move rfl) ?_
          refine d_guard 10 rfl rfl (by kernel_rfl) (by kernel_rfl) (by kernel_rfl) rfl rfl (fun _ => p_move rfl) (fun g78 => ?_) (fun g78 => ?_)
          ·
            have g78' := g78
            refine d_guard 11 rfl rfl (by kernel_rfl) (by kernel_rfl) (by kernel_rfl) rfl rfl (fun _ => p_move rfl) (fun _ => ?_) (nc g78)
            refine d_guard 12 rfl rfl (by kernel_rfl) (by kernel_rfl) (by kernel_rfl) rfl rfl (fun _ => p_eqB Tryz.underlying4 rfl rfl) (fun _ => ?_) (nc g78)
            refine d_take 13 rfl rfl (by kernel_rfl) (by kernel_rfl) (by kernel_rfl) (p_pickT rfl g78 rfl) ?_
            refine d_take 14 rfl rfl (by kernel_rfl) (by kernel_rfl) (by kernel_rfl) (p_move rfl) ?_
            refine d_guard 15 rfl rfl (by kernel_rfl) (by kernel_rfl) (by kernel_rfl) rfl rfl (fun _ => p_loadAb (n := 2) (by kernel_rfl) (by kernel_rfl) rfl rfl rfl) (fun g79 => ?_) (fun g79 => ?_)
            ·
              have g79' := g79
              refine d_guard 16 rfl rfl (by kernel_rfl) (by kernel_rfl) (by kernel_rfl) rfl rfl (fun _ => p_loadAb (n := 2) (by kernel_rfl) (by kernel_rfl) rfl rfl rfl) (fun _ => ?_) (nc g79)
              refine d_onlyG 17 rfl rfl (by kernel_rfl) rfl rfl rfl (fun _ => (o_call 17 17 false (Go.Proofs.enters_of Tryz.func20 (by kernel_rfl) rfl) (c_spec_CompareFacts (0) ([]) (0) ([]) (by decide) (by decide)) rfl (.cons rfl (.agg (.cons .t0 (.cons .nil .nil))) (.cons rfl (.agg (.cons .t0 (.cons .nil .nil))) .nil)) rfl rfl rfl)) (fun _ => ?_) (nc g79)
              refine d_guard 18 rfl rfl (by kernel_rfl) (by kernel_rfl) (by kernel_rfl) rfl rfl (fun _ => p_bin rfl rfl rfl) (fun _ => ?_) (nc g79)
              refine d_take 19 rfl rfl (by kernel_rfl) (by kernel_rfl) (by kernel_rfl) (p_pickT rfl g79 rfl) ?_
              refine d_take 20 rfl rfl (by kernel_rfl) (by kernel_rfl) (by kernel_rfl) (p_assign rfl) ?_
              refine d_end (by kernel_rfl) ?_
              refine t_ret Tryz.func3 (.tmp rfl .nil) rfl fun E S w u hI hd => ?_
              refine post_mk hI hd ?_ trivial rfl rfl rfl <;> clear hI hd <;> (try clear ih0) <;> (try clear ih1)
              all_goals (rfl)
            ·
              have g79' := g79
              refine d_guard 16 rfl rfl (by kernel_rfl) (by kernel_rfl) (by kernel_rfl) rfl rfl (v := .c .top) (ncf g79) (ncf g79) (fun _ => ?_)
              refine d_guard 17 rfl rfl (by kernel_rfl) (by kernel_rfl) (by kernel_rfl) rfl rfl (v := .c .top) (ncf g79) (ncf g79) (fun _ => ?_)
              refine d_guard 18 rfl rfl (by kernel_rfl) (by kernel_rfl) (by kernel_rfl) rfl rfl (v := .c .top) (ncf g79) (ncf g79) (fun _ => ?_)
              refine d_take 19 rfl rfl (by kernel_rfl) (by kernel_rfl) (by kernel_rfl) (p_pickF rfl g79 rfl) ?_
              refine d_take 20 rfl rfl (by kernel_rfl) (by kernel_rfl) (by kernel_rfl) (p_assign rfl) ?_
              refine d_end (by kernel_rfl) ?_
              refine t_ret Tryz.func3 (.tmp rfl .nil) rfl fun E S w u hI hd => ?_
              refine post_mk hI hd ?_ trivial rfl rfl rfl <;> clear hI hd <;> (try clear ih0) <;> (try clear ih1)
              all_goals ((exfalso; clear K5 xs3 ys3 YL hx2 hx4; grind))
          ·
            have g78' := g78
            refine d_guard 11 rfl rfl (by kernel_rfl) (by kernel_rfl) (by kernel_rfl) rfl rfl (v := .c .top) (ncf g78) (ncf g78) (fun _ => ?_)
            refine d_guard 12 rfl rfl (by kernel_rfl) (by kernel_rfl) (by kernel_rfl) rfl rfl (v := .c .top) (ncf g78) (ncf g78) (fun _ => ?_)
            refine d_take 13 rfl rfl (by kernel_rfl) (by kernel_rfl) (by kernel_rfl) (p_pickF rfl g78 rfl) ?_
            refine d_take 14 rfl rfl (by kernel_rfl) (by kernel_rfl) (by kernel_rfl) (p_move rfl) ?_
            refine d_guard 15 rfl rfl (by kernel_rfl) (by kernel_rfl) (by kernel_rfl) rfl rfl (v := .c .top) (ncf rfl) (ncf rfl) (fun _ => ?_)
            refine d_guard 16 rfl rfl (by kernel_rfl) (by kernel_rfl) (by kernel_rfl) rfl rfl (v := .c .top) (ncf rfl) (ncf rfl) (fun _ => ?_)
            refine d_guard 17 rfl rfl (by kernel_rfl) (by kernel_rfl) (by kernel_rfl) rfl rfl (v := .c .top) (ncf rfl) (ncf rfl) (fun _ => ?_)
            refine d_guard 18 rfl rfl (by kernel_rfl) (by kernel_rfl) (by kernel_rfl) rfl rfl (v := .c .top) (ncf rfl) (ncf rfl) (fun _ => ?_)
            refine d_take 19 rfl rfl (by kernel_rfl) (by kernel_rfl) (by kernel_rfl) (p_pickF rfl rfl rfl) ?_
            refine d_take 20 rfl rfl (by kernel_rfl) (by kernel_rfl) (by kernel_rfl) (p_assign rfl) ?_
            refine d_end (by kernel_rfl) ?_
            refine t_ret Tryz.func3 (.tmp rfl .nil) rfl fun E S w u hI hd => ?_
            refine post_mk hI hd ?_ trivial rfl rfl rfl <;> clear hI hd <;> (try clear ih0) <;> (try clear ih1)
            all_goals ((exfalso; clear K5 xs3 ys3 YL hx2 hx4; grind))
        ·
          refine r_op (o_call 7 11 false (Go.Proofs.enters_of Tryz.func12 (by kernel_rfl) rfl) (c_impl_Instantiate ((r65)) ((ts66)) ((v67)) (by omega) (by omega) _ hm72) rfl (.cons rfl (.agg (.cons .t0 (.cons .t0 .nil))) (.cons rfl (.c .t0) .nil)) rfl rfl rfl) ?_
          refine r_op (o_move rfl rfl) ?_
          refine r_op (o_extract rfl rfl rfl rfl) ?_
          refine r_op (o_extract rfl rfl rfl rfl) ?_
          refine r_op (o_alloc 11 (zs := [.int .i64 (0), .slice none 0 0]) rfl rfl (by kernel_rfl) rfl) ?_
          refine r_op (o_storeb (n := 2) (by kernel_rfl) rfl rfl rfl rfl rfl rfl) ?_
          refine r_op (o_assign rfl rfl) ?_
          refine r_end ?_
          refine t_seq ?_
          refine t_region ?_
          refine r_op (o_loadAb rfl (n := 2) (by kernel_rfl) (by kernel_rfl) rfl rfl rfl) ?_
          refine r_op (o_move rfl rfl) ?_
          refine r_op (o_call 12 16 false (Go.Proofs.enters_of Tryz.func18 (by kernel_rfl) rfl) (c_spec_Instantiate ((r65)) ((ts66)) ((v67)) (by omega) (by omega) (by omega) _ hm72) rfl (.cons rfl (.agg (.cons .t0 (.cons .t0 .nil))) (.cons rfl (.c .t0) .nil)) rfl rfl rfl) ?_
          refine r_op (o_move rfl rfl) ?_
          refine r_op (o_extract rfl rfl rfl rfl) ?_
          refine r_op (o_extract rfl rfl rfl rfl) ?_
          refine r_op (o_alloc 16 (zs := [.int .i64 (0), .slice none 0 0]) rfl rfl (by kernel_rfl) rfl) ?_
          refine r_op (o_storeb (n := 2) (by kernel_rfl) rfl rfl rfl rfl rfl rfl) ?_
          refine r_op (o_assign rfl rfl) ?_
          refine r_end ?_
          refine t_seq ?_
          refine t_draw (fun _ => true) (by kernel_rfl) ?_
          refine d_take 0 rfl rfl (by kernel_rfl) (by kernel_rfl) (by kernel_rfl) (p_loadAb (n := 2) (by kernel_rfl) (by kernel_rfl) rfl rfl rfl) ?_
          refine d_take 1 rfl rfl (by kernel_rfl) (by kernel_rfl) (by kernel_rfl) (p_move rfl) ?_
          refine d_take 2 rfl rfl (by kernel_rfl) (by kernel_rfl) (by kernel_rfl) (p_move rfl) ?_
          refine d_take 4 rfl rfl (by kernel_rfl) (by kernel_rfl) (by kernel_rfl) (p_loadAb (n := 2) (by kernel_rfl) (by kernel_rfl) rfl rfl rfl) ?_
          refine d_take 5 rfl rfl (by kernel_rfl) (by kernel_rfl) (by kernel_rfl) (p_move rfl) ?_
          refine d_take 6 rfl rfl (by kernel_rfl) (by kernel_rfl) (by kernel_rfl) (p_move rfl) ?_
          refine d_only 3 rfl (by kernel_rfl) rfl (o_call 17 17 false (Go.Proofs.enters_of Tryz.func14 (by kernel_rfl) rfl) (c_impl_HasExtension ((rs55)) ((fs56)) ((b57)) ((v58)) (by omega) (by omega) (by omega) (by omega) (by omega)) rfl (.cons rfl (.agg (.cons .t0 (.cons .t0 .nil))) (.cons rfl (.c .t0) (.cons rfl (.c .t0) .nil))) rfl rfl rfl) ?_
          refine d_only 7 rfl (by kernel_rfl) rfl (o_call 17 17 false (Go.Proofs.enters_of Tryz.func19 (by kernel_rfl) rfl) (c_spec_HasExtension ((rs55)) ((fs56)) ((b57)) ((v58)) (by omega) (by omega) (by omega) (by omega) (by omega)) rfl (.cons rfl (.agg (.cons .t0 (.cons .t0 .nil))) (.cons rfl (.c .t0) (.cons rfl (.c .t0) .nil))) rfl rfl rfl) ?_
          refine d_take 8 rfl rfl (by kernel_rfl) (by kernel_rfl) (by kernel_rfl) (p_eqB Tryz.underlying4 rfl rfl) ?_
          refine d_take 9 rfl rfl (by kernel_rfl) (by kernel_rfl) (by kernel_rfl) (p_move rfl) ?_
          refine d_guard 10 rfl rfl (by kernel_rfl) (by kernel_rfl) (by kernel_rfl) rfl rfl (fun _ => p_move rfl) (fun g83 => ?_) (fun g83 => ?_)
          ·
            have g83' := g83
            refine d_guard 11 rfl rfl (by kernel_rfl) (by kernel_rfl) (by kernel_rfl) rfl rfl (fun _ => p_move rfl) (fun _ => ?_) (nc g83)
            refine d_guard 12 rfl rfl (by kernel_rfl) (by kernel_rfl) (by kernel_rfl) rfl rfl (fun _ => p_eqB Tryz.underlying4 rfl rfl) (fun _ => ?_) (nc g83)
            refine d_take 13 rfl rfl (by kernel_rfl) (by kernel_rfl) (by kernel_rfl) (p_pickT rfl g83 rfl) ?_
            refine d_take 14 rfl rfl (by kernel_rfl) (by kernel_rfl) (by kernel_rfl) (p_move rfl) ?_
            refine d_guard 15 rfl rfl (by kernel_rfl) (by kernel_rfl) (by kernel_rfl) rfl rfl (fun _ => p_loadAb (n := 2) (by kernel_rfl) (by kernel_rfl) rfl rfl rfl) (fun g84 => ?_) (fun g84 => ?_)
            ·
              have g84' := g84
              refine d_guard 16 rfl rfl (by kernel_rfl) (by kernel_rfl) (by kernel_rfl) rfl rfl (fun _ => p_loadAb (n := 2) (by kernel_rfl) (by kernel_rfl) rfl rfl rfl) (fun _ => ?_) (nc g84)
              refine d_onlyG 17 rfl rfl (by kernel_rfl) rfl rfl rfl (fun _ => (o_call 17 17 false (Go.Proofs.enters_of Tryz.func20 (by kernel_rfl) rfl) (c_spec_CompareFacts (((r65))) ((q74)) (((r65))) ((q74)) (by (have e7 := instV_len (by assumption); omega)) (by (have e7 := instV_len (by assumption); omega))) rfl (.cons rfl (.agg (.cons .t0 (.cons (.own rfl) .nil))) (.cons rfl (.agg (.cons .t0 (.cons (.own rfl) .nil))) .nil)) rfl rfl rfl)) (fun _ => ?_) (nc g84)
              refine d_guard 18 rfl rfl (by kernel_rfl) (by kernel_rfl) (by kernel_rfl) rfl rfl (fun _ => p_bin rfl rfl rfl) (fun _ => ?_) (nc g84)
              refine d_take 19 rfl rfl (by kernel_rfl) (by kernel_rfl) (by kernel_rfl) (p_pickT rfl g84 rfl) ?_
              refine d_take 20 rfl rfl (by kernel_rfl) (by kernel_rfl) (by kernel_rfl) (p_assign rfl) ?_
              refine d_end (by kernel_rfl) ?_
              refine t_ret Tryz.func3 (.tmp rfl .nil) rfl fun E S w u hI hd => ?_
              refine post_mk hI hd ?_ trivial rfl rfl rfl <;> clear hI hd <;> (try clear ih0) <;> (try clear ih1)
              all_goals ((refine scB ?_; clear K5 xs3 ys3 YL hx2 hx4; grind))
            ·
              have g84' := g84
              refine d_guard 16 rfl rfl (by kernel_rfl) (by kernel_rfl) (by kernel_rfl) rfl rfl (v := .c .top) (ncf g84) (ncf g84) (fun _ => ?_)
              refine d_guard 17 rfl rfl (by kernel_rfl) (by kernel_rfl) (by kernel_rfl) rfl rfl (v := .c .top) (ncf g84) (ncf g84) (fun _ => ?_)
              refine d_guard 18 rfl rfl (by kernel_rfl) (by kernel_rfl) (by kernel_rfl) rfl rfl (v := .c .top) (ncf g84) (ncf g84) (fun _ => ?_)
              refine d_take 19 rfl rfl (by kernel_rfl) (by kernel_rfl) (by kernel_rfl) (p_pickF rfl g84 rfl) ?_
              refine d_take 20 rfl rfl (by kernel_rfl) (by kernel_rfl) (by kernel_rfl) (p_assign rfl) ?_
              refine d_end (by kernel_rfl) ?_
              refine t_ret Tryz.func3 (.tmp rfl .nil) rfl fun E S w u hI hd => ?_
              refine post_mk hI hd ?_ trivial rfl rfl rfl <;> clear hI hd <;> (try clear ih0) <;> (try clear ih1)
              all_goals ((exfalso; clear K5 xs3 ys3 YL hx2 hx4; grind))
          ·
            have g83' := g83
            refine d_guard 11 rfl rfl (by kernel_rfl) (by kernel_rfl) (by kernel_rfl) rfl rfl (v := .c .top) (ncf g83) (ncf g83) (fun _ => ?_)
            refine d_guard 12 rfl rfl (by kernel_rfl) (by kernel_rfl) (by kernel_rfl) rfl rfl (v := .c .top) (ncf g83) (ncf g83) (fun _ => ?_)
            refine d_take 13 rfl rfl (by kernel_rfl) (by kernel_rfl) (by kernel_rfl) (p_pickF rfl g83 rfl) ?_
            refine d_take 14 rfl rfl (by kernel_rfl) (by kernel_rfl) (by kernel_rfl) (p_move rfl) ?_
            refine d_guard 15 rfl rfl (by kernel_rfl) (by kernel_rfl) (by kernel_rfl) rfl rfl (v := .c .top) (ncf rfl) (ncf rfl) (fun _ => ?_)
            refine d_guard 16 rfl rfl (by kernel_rfl) (by kernel_rfl) (by kernel_rfl) rfl rfl (v := .c .top) (ncf rfl) (ncf rfl) (fun _ => ?_)
            refine d_guard 17 rfl rfl (by kernel_rfl) (by kernel_rfl) (by kernel_rfl) rfl rfl (v := .c .top) (ncf rfl) (ncf rfl) (fun _ => ?_)
            refine d_guard 18 rfl rfl (by kernel_rfl) (by kernel_rfl) (by kernel_rfl) rfl rfl (v := .c .top) (ncf rfl) (ncf rfl) (fun _ => ?_)
            refine d_take 19 rfl rfl (by kernel_rfl) (by kernel_rfl) (by kernel_rfl) (p_pickF rfl rfl rfl) ?_
            refine d_take 20 rfl rfl (by kernel_rfl) (by kernel_rfl) (by kernel_rfl) (p_assign rfl) ?_
            refine d_end (by kernel_rfl) ?_
            refine t_ret Tryz.func3 (.tmp rfl .nil) rfl fun E S w u hI hd => ?_
            refine post_mk hI hd ?_ trivial rfl rfl rfl <;> clear hI hd <;> (try clear ih0) <;> (try clear ih1)
            all_goals ((exfalso; clear K5 xs3 ys3 YL hx2 hx4; grind))
end Go.Eng
