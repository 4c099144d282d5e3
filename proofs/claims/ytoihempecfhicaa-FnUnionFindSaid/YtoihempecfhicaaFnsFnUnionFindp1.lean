/- What the functions that FnUnionFind reaches answer. -/
import Derived.Test.YtoihempecfhicaaFnsFnUnionFindp0
import Derived.Test.YtoihempecfhicaaEngT
import Derived.Test.YtoihempecfhicaaChecked
set_option linter.unusedVariables false
set_option linter.unusedSimpArgs false
namespace Go.Eng
open Go Go.RowKit Go.Proofs
set_option maxHeartbeats 1000000 in
set_option maxRecDepth 10000 in
theorem c_spec_l8Uf (code : List Int) (i h : Int) (hc : code.length ≤ 1048576) (hi0 : 0 ≤ i) (hi1 : i ≤ code.length) : MuG Try.prog 24 [.c (.ptr 0 0)] [.t none (.sl 1 encU (code)), .t none (.v (.int .i64 (i))), .t none (.v (.int .i64 (h)))] (fun (⟨us, i2, h2⟩ : (List Int) × Int × Int) => (1 ≤ us.length ∧ us.length ≤ 6) ∧ (∀ x ∈ us, okI x) ∧ 0 ≤ i2 ∧ i2 ≤ code.length) (fun (⟨us, i2, h2⟩ : (List Int) × Int × Int) => [.t none (.sl 1 encU (code)), .t none (.v (.int .i64 (i2))), .t none (.v (.int .i64 (h2)))]) (fun (⟨us, i2, h2⟩ : (List Int) × Int × Int) => []) 1 (fun (⟨us, i2, h2⟩ : (List Int) × Int × Int) => .agg [.t none (.sl 1 encI (us))]) := by
  refine mu_enterG Try.func24 rfl (Nat.le_of_ble_eq_true rfl) fun v0 w S M hM => ?_
  refine t_seq ?_
  refine t_region ?_
  refine r_op (o_alloc 1 (zs := [.slice none 0 0]) rfl rfl (by kernel_rfl) rfl) ?_
  refine r_end ?_
  refine t_seq ?_
  refine t_region ?_
  refine r_op (o_move rfl rfl) ?_
  refine r_opX (o_callGM 0 2 3 (pv := some (v0)) (Go.Proofs.enters_of Try.func42 (by kernel_rfl) rfl) (c_spec_l1Below (code) (i) (h) (6) (by first | omega | assumption | (unfold okI; omega) | exact ⟨wr_lo _, wr_hi _⟩ | (simp only [List.length_cons, List.length_nil]; omega) | (rw [uni_len]; omega)) (by first | omega | assumption | (unfold okI; omega) | exact ⟨wr_lo _, wr_hi _⟩ | (simp only [List.length_cons, List.length_nil]; omega) | (rw [uni_len]; omega)) (by first | omega | assumption | (unfold okI; omega) | exact ⟨wr_lo _, wr_hi _⟩ | (simp only [List.length_cons, List.length_nil]; omega) | (rw [uni_len]; omega)) (by first | omega | assumption | (unfold okI; omega) | exact ⟨wr_lo _, wr_hi _⟩ | (simp only [List.length_cons, List.length_nil]; omega) | (rw [uni_len]; omega)) (by first | omega | assumption | (unfold okI; omega) | exact ⟨wr_lo _, wr_hi _⟩ | (simp only [List.length_cons, List.length_nil]; omega) | (rw [uni_len]; omega))) rfl rfl (.cur rfl (.cons rfl .nil)) rfl (fun ⟨_, _, _⟩ => rfl) (fun _ => rfl) (fun ⟨_, _, _⟩ => rfl) rfl rfl) ?_
  rintro ⟨⟨x1, i22, h23⟩, hq4⟩
  try dsimp only at hq4
  try dsimp only
  obtain ⟨q5, q6⟩ := hq4
  refine r_op (o_bin rfl rfl rfl rfl) ?_
  refine r_op (o_assign rfl rfl) ?_
  refine r_end ?_
  refine t_seq ?_
  refine t_region ?_
  refine r_op (o_move rfl rfl) ?_
  refine r_op (o_call 3 6 false (Go.Proofs.enters_of Try.func43 (by kernel_rfl) rfl) (c_spec_NewUnionFind (IntKind.i64.wrap (1 + (x1))) (by first | omega | assumption | (unfold okI; omega) | exact ⟨wr_lo _, wr_hi _⟩ | (simp only [List.length_cons, List.length_nil]; omega) | (rw [uni_len]; omega))) rfl (.cons rfl (.c .t0) .nil) rfl rfl rfl) ?_
  refine r_op (o_alloc 6 (zs := [.slice none 0 0]) rfl rfl (by kernel_rfl) rfl) ?_
  refine r_op (o_storeb (n := 1) (by kernel_rfl) rfl rfl rfl rfl rfl rfl) ?_
  refine r_end ?_
  refine t_seq ?_
  refine t_seq ?_
  refine t_region ?_
  refine r_op (o_move rfl rfl) ?_
  refine r_opX (o_callGM 0 7 8 (pv := some (v0)) (Go.Proofs.enters_of Try.func42 (by kernel_rfl) rfl) (c_spec_l1Below ((code)) ((i22)) ((h23)) (5) (by first | omega | assumption | (unfold okI; omega) | exact ⟨wr_lo _, wr_hi _⟩ | (simp only [List.length_cons, List.length_nil]; omega) | (rw [uni_len]; omega)) (by first | omega | assumption | (unfold okI; omega) | exact ⟨wr_lo _, wr_hi _⟩ | (simp only [List.length_cons, List.length_nil]; omega) | (rw [uni_len]; omega)) (by first | omega | assumption | (unfold okI; omega) | exact ⟨wr_lo _, wr_hi _⟩ | (simp only [List.length_cons, List.length_nil]; omega) | (rw [uni_len]; omega)) (by first | omega | assumption | (unfold okI; omega) | exact ⟨wr_lo _, wr_hi _⟩ | (simp only [List.length_cons, List.length_nil]; omega) | (rw [uni_len]; omega)) (by first | omega | assumption | (unfold okI; omega) | exact ⟨wr_lo _, wr_hi _⟩ | (simp only [List.length_cons, List.length_nil]; omega) | (rw [uni_len]; omega))) rfl rfl (.cur rfl (.cons rfl .nil)) rfl (fun ⟨_, _, _⟩ => rfl) (fun _ => rfl) (fun ⟨_, _, _⟩ => rfl) rfl rfl) ?_
  rintro ⟨⟨x7, i28, h29⟩, hq10⟩
  try dsimp only at hq10
  try dsimp only
  obtain ⟨q11, q12⟩ := hq10
  refine r_op (o_assign rfl rfl) ?_
  refine r_end ?_
  refine t_block ?_
  refine t_loopL (fun (kk, us, i3, h3) => ⟨[(0, some (.c (.ptr 0 0))), (2, some (.c (.ptr 1 0))), (3, some (.c (.t none (.v (.int .i64 (IntKind.i64.wrap (1 + (x1)))))))), (4, some (.c (.ptr 6 0))), (5, some (.c (.t none (.v (.int .i64 (kk))))))], [(0, some (.pbox (v0) [.t none (.sl 1 encU (code)), .t none (.v (.int .i64 (i3))), .t none (.v (.int .i64 (h3)))])), (1, some (.box [.t none (.v (.slice none 0 0))])), (5, some (.row none 3 true 1 encI (us))), (6, some (.box [.own 5]))], 8⟩ : Int × List Int × Int × Int → St) (fun (kk, us, i3, h3) => (0 ≤ kk ∧ kk ≤ 4) ∧ ((us.length : Int) = IntKind.i64.wrap (1 + (x1)) ∧ 1 ≤ IntKind.i64.wrap (1 + (x1)) ∧ IntKind.i64.wrap (1 + (x1)) ≤ 6) ∧ (∀ x ∈ us, okI x) ∧ 0 ≤ i3 ∧ i3 ≤ code.length) (fun (kk, us, i3, h3) => kk.toNat) ((x7), newU (IntKind.i64.wrap (1 + (x1))), (i28), (h29)) ⟨⟨rfl, ⟨rfl, ⟨rfl, ⟨rfl, ⟨rfl, trivial⟩⟩⟩⟩⟩, ⟨rfl, ⟨rfl, ⟨rfl, ⟨rfl, trivial⟩⟩⟩⟩, rfl⟩ (by (try dsimp only); (have e9 : IntKind.i64.wrap (1 + x1) = 1 + x1 := wr64 (by omega) (by omega)); rw [e9]; exact ⟨by omega, ⟨newU_len' (by omega), by omega⟩, newU_ok, by omega⟩) ?_
  rintro ⟨kk, us, i3, h3⟩ hI ih0
  try dsimp only at hI ih0
  obtain ⟨j1, j2, j3, j4⟩ := hI
  refine t_seq ?_
  refine t_seq ?_
  refine t_region ?_
  refine r_op (o_move rfl rfl) ?_
  refine r_op (o_bin rfl rfl rfl rfl) ?_
  refine r_end ?_
  refine t_cond rfl (fun h13 => ?_) (fun h13 => ?_)
  ·
    have h13' := of_decide_eq_true h13
    refine t_skip ?_
    refine t_seq ?_
    refine t_block ?_
    refine t_draw (fun i => !(Nat.beq i 3 || Nat.beq i 7 || Nat.beq i 12)) (by kernel_rfl) ?_
    refine d_take 1 rfl rfl (by kernel_rfl) (by kernel_rfl) (by kernel_rfl) (p_move rfl) ?_
    refine d_take 2 rfl rfl (by kernel_rfl) (by kernel_rfl) (by kernel_rfl) (p_move rfl) ?_
    refine d_takeP 5 rfl rfl (by kernel_rfl) (by kernel_rfl) (by kernel_rfl) (pw_move rfl) ?_
    refine d_takeP 6 rfl rfl (by kernel_rfl) (by kernel_rfl) (by kernel_rfl) (pw_move rfl) ?_
    refine d_twoX 0 3 rfl rfl (by kernel_rfl) rfl rfl (osX (o_loadAb rfl (n := 1) (by kernel_rfl) (by kernel_rfl) rfl rfl rfl)) (o_callGM 0 8 9 (pv := some (v0)) (Go.Proofs.enters_of Try.func42 (by kernel_rfl) rfl) (c_spec_l1Below (code) (i3) (h3) (IntKind.i64.wrap (1 + (x1))) (by first | omega | assumption | (unfold okI; omega) | exact ⟨wr_lo _, wr_hi _⟩ | (simp only [List.length_cons, List.length_nil]; omega) | (rw [uni_len]; omega)) (by first | omega | assumption | (unfold okI; omega) | exact ⟨wr_lo _, wr_hi _⟩ | (simp only [List.length_cons, List.length_nil]; omega) | (rw [uni_len]; omega)) (by first | omega | assumption | (unfold okI; omega) | exact ⟨wr_lo _, wr_hi _⟩ | (simp only [List.length_cons, List.length_nil]; omega) | (rw [uni_len]; omega)) (by first | omega | assumption | (unfold okI; omega) | exact ⟨wr_lo _, wr_hi _⟩ | (simp only [List.length_cons, List.length_nil]; omega) | (rw [uni_len]; omega)) (by first | omega | assumption | (unfold okI; omega) | exact ⟨wr_lo _, wr_hi _⟩ | (simp only [List.length_cons, List.length_nil]; omega) | (rw [uni_len]; omega))) rfl rfl (.cur rfl (.cons rfl .nil)) rfl (fun ⟨_, _, _⟩ => rfl) (fun _ => rfl) (fun ⟨_, _, _⟩ => rfl) rfl rfl) ?_ ?_
    ·
      rintro ⟨⟩
      refine d_onlyX 3 rfl (by kernel_rfl) rfl (o_callGM 0 8 9 (pv := some (v0)) (Go.Proofs.enters_of Try.func42 (by kernel_rfl) rfl) (c_spec_l1Below (code) (i3) (h3) (IntKind.i64.wrap (1 + (x1))) (by first | omega | assumption | (unfold okI; omega) | exact ⟨wr_lo _, wr_hi _⟩ | (simp only [List.length_cons, List.length_nil]; omega) | (rw [uni_len]; omega)) (by first | omega | assumption | (unfold okI; omega) | exact ⟨wr_lo _, wr_hi _⟩ | (simp only [List.length_cons, List.length_nil]; omega) | (rw [uni_len]; omega)) (by first | omega | assumption | (unfold okI; omega) | exact ⟨wr_lo _, wr_hi _⟩ | (simp only [List.length_cons, List.length_nil]; omega) | (rw [uni_len]; omega)) (by first | omega | assumption | (unfold okI; omega) | exact ⟨wr_lo _, wr_hi _⟩ | (simp only [List.length_cons, List.length_nil]; omega) | (rw [uni_len]; omega)) (by first | omega | assumption | (unfold okI; omega) | exact ⟨wr_lo _, wr_hi _⟩ | (simp only [List.length_cons, List.length_nil]; omega) | (rw [uni_len]; omega))) rfl rfl (.cur rfl (.cons rfl .nil)) rfl (fun ⟨_, _, _⟩ => rfl) (fun _ => rfl) (fun ⟨_, _, _⟩ => rfl) rfl rfl) ?_
      rintro ⟨⟨x20, i221, h222⟩, hq23⟩
      try dsimp only at hq23
      try dsimp only
      obtain ⟨q24, q25⟩ := hq23
      refine d_only 4 rfl (by kernel_rfl) rfl (o_call 9 9 false (Go.Proofs.enters_of Try.func32 (by kernel_rfl) rfl) (c_spec_NullValue ((x20)) (by first | omega | assumption | (unfold okI; omega) | exact ⟨wr_lo _, wr_hi _⟩ | (simp only [List.length_cons, List.length_nil]; omega) | (rw [uni_len]; omega))) rfl (.cons rfl (.c .t0) .nil) rfl rfl rfl) ?_
      refine d_onlyX 7 rfl (by kernel_rfl) rfl (o_callGM 0 9 10 (pv := some (v0)) (Go.Proofs.enters_of Try.func33 (by kernel_rfl) rfl) (c_spec_l4Value ((code)) ((i221)) ((h222)) (IntKind.i64.wrap (1 + (x1))) (by first | omega | assumption | (unfold okI; omega) | exact ⟨wr_lo _, wr_hi _⟩ | (simp only [List.length_cons, List.length_nil]; omega) | (rw [uni_len]; omega)) (by first | omega | assumption | (unfold okI; omega) | exact ⟨wr_lo _, wr_hi _⟩ | (simp only [List.length_cons, List.length_nil]; omega) | (rw [uni_len]; omega)) (by first | omega | assumption | (unfold okI; omega) | exact ⟨wr_lo _, wr_hi _⟩ | (simp only [List.length_cons, List.length_nil]; omega) | (rw [uni_len]; omega)) (by first | omega | assumption | (unfold okI; omega) | exact ⟨wr_lo _, wr_hi _⟩ | (simp only [List.length_cons, List.length_nil]; omega) | (rw [uni_len]; omega)) (by first | omega | assumption | (unfold okI; omega) | exact ⟨wr_lo _, wr_hi _⟩ | (simp only [List.length_cons, List.length_nil]; omega) | (rw [uni_len]; omega))) rfl rfl (.cur rfl (.cons rfl .nil)) rfl (fun ⟨_, _, _⟩ => rfl) (fun _ => rfl) (fun ⟨_, _, _⟩ => rfl) rfl rfl) ?_
      rintro ⟨⟨x26, i227, h228⟩, hq29⟩
      try dsimp only at hq29
      try dsimp only
      obtain ⟨q30, q31⟩ := hq29
      refine d_only 8 rfl (by kernel_rfl) rfl (o_call 10 13 false (Go.Proofs.enters_of Try.func16 (by kernel_rfl) rfl) (c_spec_Union (us) (-1 - ((x20))) ((x26)) (by first | omega | assumption | (unfold okI; omega) | exact ⟨wr_lo _, wr_hi _⟩ | (simp only [List.length_cons, List.length_nil]; omega) | (rw [uni_len]; omega)) (by first | omega | assumption | (unfold okI; omega) | exact ⟨wr_lo _, wr_hi _⟩ | (simp only [List.length_cons, List.length_nil]; omega) | (rw [uni_len]; omega)) (by first | omega | assumption | (unfold okI; omega) | exact ⟨wr_lo _, wr_hi _⟩ | (simp only [List.length_cons, List.length_nil]; omega) | (rw [uni_len]; omega)) (by first | omega | assumption | (unfold okI; omega) | exact ⟨wr_lo _, wr_hi _⟩ | (simp only [List.length_cons, List.length_nil]; omega) | (rw [uni_len]; omega))) rfl (.cons rfl (.agg (.cons (.own rfl) .nil)) (.cons rfl (.c .t0) (.cons rfl (.c .t0) .nil))) rfl rfl rfl) ?_
      refine d_take 9 rfl rfl (by kernel_rfl) (by kernel_rfl) (by kernel_rfl) (p_move rfl) ?_
      refine d_take 10 rfl rfl (by kernel_rfl) (by kernel_rfl) (by kernel_rfl) (p_extract rfl rfl rfl) ?_
      refine d_two 11 12 rfl rfl (by kernel_rfl) rfl rfl (o_extract rfl rfl rfl rfl) (o_storeb (n := 1) (by kernel_rfl) rfl rfl rfl rfl rfl rfl) ?_ ?_
      ·
        refine d_only 12 rfl (by kernel_rfl) rfl (o_storeb (n := 1) (by kernel_rfl) rfl rfl rfl rfl rfl rfl) ?_
        refine d_end (by kernel_rfl) ?_
        refine t_endblock ?_
        refine t_region ?_
        refine r_op (o_move rfl rfl) ?_
        refine r_op (o_bin rfl rfl rfl rfl) ?_
        refine r_op (o_assign rfl rfl) ?_
        refine r_end ?_
        refine gt_mv 5 12 rfl rfl rfl ?_
        refine t_le ?_ (ih0 (IntKind.i64.wrap (kk - 1), uniL (us) (-1 - ((x20))) ((x26)), (i227), (h228)) (by (try dsimp only); ((try simp only [IntKind.wrap_i64] at *); omega)) (by (try dsimp only); exact ⟨(by ((try simp only [IntKind.wrap_i64] at *); omega)), ⟨by rw [uni_len]; exact j2.1, j2.2⟩, uniL_ok j3 (by unfold okI; omega) (by unfold okI; omega), by omega⟩))
        exact ⟨⟨rfl, ⟨rfl, ⟨rfl, ⟨rfl, ⟨rfl, trivial⟩⟩⟩⟩⟩, ⟨rfl, ⟨rfl, ⟨rfl, ⟨rfl, trivial⟩⟩⟩⟩, rfl⟩
      ·
        refine d_take 11 rfl rfl (by kernel_rfl) (by kernel_rfl) (by kernel_rfl) (p_extract rfl rfl rfl) ?_
        refine d_end (by kernel_rfl) ?_
        refine t_endblock ?_
        refine t_region ?_
        refine r_op (o_move rfl rfl) ?_
        refine r_op (o_bin rfl rfl rfl rfl) ?_
        refine r_op (o_assign rfl rfl) ?_
        refine r_end ?_
        refine gt_mv 5 12 rfl rfl rfl ?_
        refine t_le ?_ (ih0 (IntKind.i64.wrap (kk - 1), uniL (us) (-1 - ((x20))) ((x26)), (i227), (h228)) (by (try dsimp only); ((try simp only [IntKind.wrap_i64] at *); omega)) (by (try dsimp only); exact ⟨(by ((try simp only [IntKind.wrap_i64] at *); omega)), ⟨by rw [uni_len]; exact j2.1, j2.2⟩, uniL_ok j3 (by unfold okI; omega) (by unfold okI; omega), by omega⟩))
        exact ⟨⟨rfl, ⟨rfl, ⟨rfl, ⟨rfl, ⟨rfl, trivial⟩⟩⟩⟩⟩, ⟨rfl, ⟨rfl, ⟨rfl, ⟨rfl, trivial⟩⟩⟩⟩, rfl⟩
    ·
      rintro ⟨⟨x14, i215, h216⟩, hq17⟩
      try dsimp only at hq17
      try dsimp only
      obtain ⟨q18, q19⟩ := hq17
      refine d_two 0 4 rfl rfl (by kernel_rfl) rfl rfl (o_loadAb rfl (n := 1) (by kernel_rfl) (by kernel_rfl) rfl rfl rfl) (o_call 9 9 false (Go.Proofs.enters_of Try.func32 (by kernel_rfl) rfl) (c_spec_NullValue ((x14)) (by first | omega | assumption | (unfold okI; omega) | exact ⟨wr_lo _, wr_hi _⟩ | (simp only [List.length_cons, List.length_nil]; omega) | (rw [uni_len]; omega))) rfl (.cons rfl (.c .t0) .nil) rfl rfl rfl) ?_ ?_
      ·
        refine d_only 4 rfl (by kernel_rfl) rfl (o_call 9 9 false (Go.Proofs.enters_of Try.func32 (by kernel_rfl) rfl) (c_spec_NullValue ((x14)) (by first | omega | assumption | (unfold okI; omega) | exact ⟨wr_lo _, wr_hi _⟩ | (simp only [List.length_cons, List.length_nil]; omega) | (rw [uni_len]; omega))) rfl (.cons rfl (.c .t0) .nil) rfl rfl rfl) ?_
        refine d_onlyX 7 rfl (by kernel_rfl) rfl (o_callGM 0 9 10 (pv := some (v0)) (Go.Proofs.enters_of Try.func33 (by kernel_rfl) rfl) (c_spec_l4Value ((code)) ((i215)) ((h216)) (IntKind.i64.wrap (1 + (x1))) (by first | omega | assumption | (unfold okI; omega) | exact ⟨wr_lo _, wr_hi _⟩ | (simp only [List.length_cons, List.length_nil]; omega) | (rw [uni_len]; omega)) (by first | omega | assumption | (unfold okI; omega) | exact ⟨wr_lo _, wr_hi _⟩ | (simp only [List.length_cons, List.length_nil]; omega) | (rw [uni_len]; omega)) (by first | omega | assumption | (unfold okI; omega) | exact ⟨wr_lo _, wr_hi _⟩ | (simp only [List.length_cons, List.length_nil]; omega) | (rw [uni_len]; omega)) (by first | omega | assumption | (unfold okI; omega) | exact ⟨wr_lo _, wr_hi _⟩ | (simp only [List.length_cons, List.length_nil]; omega) | (rw [uni_len]; omega)) (by first | omega | assumption | (unfold okI; omega) | exact ⟨wr_lo _, wr_hi _⟩ | (simp only [List.length_cons, List.length_nil]; omega) | (rw [uni_len]; omega))) rfl rfl (.cur rfl (.cons rfl .nil)) rfl (fun ⟨_, _, _⟩ => rfl) (fun _ => rfl) (fun ⟨_, _, _⟩ => rfl) rfl rfl) ?_
        rintro ⟨⟨x32, i233, h234⟩, hq35⟩
        try dsimp only at hq35
        try dsimp only
        obtain ⟨q36, q37⟩ := hq35
        refine d_only 8 rfl (by kernel_rfl) rfl (o_call 10 13 false (Go.Proofs.enters_of Try.func16 (by kernel_rfl) rfl) (c_spec_Union (us) (-1 - ((x14))) ((x32)) (by first | omega | assumption | (unfold okI; omega) | exact ⟨wr_lo _, wr_hi _⟩ | (simp only [List.length_cons, List.length_nil]; omega) | (rw [uni_len]; omega)) (by first | omega | assumption | (unfold okI; omega) | exact ⟨wr_lo _, wr_hi _⟩ | (simp only [List.length_cons, List.length_nil]; omega) | (rw [uni_len]; omega)) (by first | omega | assumption | (unfold okI; omega) | exact ⟨wr_lo _, wr_hi _⟩ | (simp only [List.length_cons, List.length_nil]; omega) | (rw [uni_len]; omega)) (by first | omega | assumption | (unfold okI; omega) | exact ⟨wr_lo _, wr_hi _⟩ | (simp only [List.length_cons, List.length_nil]; omega) | (rw [uni_len]; omega))) rfl (.cons rfl (.agg (.cons (.own rfl) .nil)) (.cons rfl (.c .t0) (.cons rfl (.c .t0) .nil))) rfl rfl rfl) ?_
        refine d_take 9 rfl rfl (by kernel_rfl) (by kernel_rfl) (by kernel_rfl) (p_move rfl) ?_
        refine d_take 10 rfl rfl (by kernel_rfl) (by kernel_rfl) (by kernel_rfl) (p_extract rfl rfl rfl) ?_
        refine d_two 11 12 rfl rfl (by kernel_rfl) rfl rfl (o_extract rfl rfl rfl rfl) (o_storeb (n := 1) (by kernel_rfl) rfl rfl rfl rfl rfl rfl) ?_ ?_
        ·
          refine d_only 12 rfl (by kernel_rfl) rfl (o_storeb (n := 1) (by kernel_rfl) rfl rfl rfl rfl rfl rfl) ?_
          refine d_end (by kernel_rfl) ?_
          refine t_endblock ?_
          refine t_region ?_
          refine r_op (o_move rfl rfl) ?_
          refine r_op (o_bin rfl rfl rfl rfl) ?_
          refine r_op (o_assign rfl rfl) ?_
          refine r_end ?_
          refine gt_mv 5 12 rfl rfl rfl ?_
          refine t_le ?_ (ih0 (IntKind.i64.wrap (kk - 1), uniL (us) (-1 - ((x14))) ((x32)), (i233), (h234)) (by (try dsimp only); ((try simp only [IntKind.wrap_i64] at *); omega)) (by (try dsimp only); exact ⟨(by ((try simp only [IntKind.wrap_i64] at *); omega)), ⟨by rw [uni_len]; exact j2.1, j2.2⟩, uniL_ok j3 (by unfold okI; omega) (by unfold okI; omega), by omega⟩))
          exact ⟨⟨rfl, ⟨rfl, ⟨rfl, ⟨rfl, ⟨rfl, trivial⟩⟩⟩⟩⟩, ⟨rfl, ⟨rfl, ⟨rfl, ⟨rfl, trivial⟩⟩⟩⟩, rfl⟩
        ·
          refine d_take 11 rfl rfl (by kernel_rfl) (by kernel_rfl) (by kernel_rfl) (p_extract rfl rfl rfl) ?_
          refine d_end (by kernel_rfl) ?_
          refine t_endblock ?_
          refine t_region ?_
          refine r_op (o_move rfl rfl) ?_
          refine r_op (o_bin rfl rfl rfl rfl) ?_
          refine r_op (o_assign rfl rfl) ?_
          refine r_end ?_
          refine gt_mv 5 12 rfl rfl rfl ?_
          refine t_le ?_ (ih0 (IntKind.i64.wrap (kk - 1), uniL (us) (-1 - ((x14))) ((x32)), (i233), (h234)) (by (try dsimp only); ((try simp only [IntKind.wrap_i64] at *); omega)) (by (try dsimp only); exact ⟨(by ((try simp only [IntKind.wrap_i64] at *); omega)), ⟨by rw [uni_len]; exact j2.1, j2.2⟩, uniL_ok j3 (by unfold okI; omega) (by unfold okI; omega), by omega⟩))
          exact ⟨⟨rfl, ⟨rfl, ⟨rfl, ⟨rfl, ⟨rfl, trivial⟩⟩⟩⟩⟩, ⟨rfl, ⟨rfl, ⟨rfl, ⟨rfl, trivial⟩⟩⟩⟩, rfl⟩
      ·
        refine d_twoX 0 7 rfl rfl (by kernel_rfl) rfl rfl (osX (o_loadAb rfl (n := 1) (by kernel_rfl) (by kernel_rfl) rfl rfl rfl)) (o_callGM 0 9 10 (pv := some (v0)) (Go.Proofs.enters_of Try.func33 (by kernel_rfl) rfl) (c_spec_l4Value ((code)) ((i215)) ((h216)) (IntKind.i64.wrap (1 + (x1))) (by first | omega | assumption | (unfold okI; omega) | exact ⟨wr_lo _, wr_hi _⟩ | (simp only [List.length_cons, List.length_nil]; omega) | (rw [uni_len]; omega)) (by first | omega | assumption | (unfold okI; omega) | exact ⟨wr_lo _, wr_hi _⟩ | (simp only [List.length_cons, List.length_nil]; omega) | (rw [uni_len]; omega)) (by first | omega | assumption | (unfold okI; omega) | exact ⟨wr_lo _, wr_hi _⟩ | (simp only [List.length_cons, List.length_nil]; omega) | (rw [uni_len]; omega)) (by first | omega | assumption | (unfold okI; omega) | exact ⟨wr_lo _, wr_hi _⟩ | (simp only [List.length_cons, List.length_nil]; omega) | (rw [uni_len]; omega)) (by first | omega | assumption | (unfold okI; omega) | exact ⟨wr_lo _, wr_hi _⟩ | (simp only [List.length_cons, List.length_nil]; omega) | (rw [uni_len]; omega))) rfl rfl (.cur rfl (.cons rfl .nil)) rfl (fun ⟨_, _, _⟩ => rfl) (fun _ => rfl) (fun ⟨_, _, _⟩ => rfl) rfl rfl) ?_ ?_
        ·
          rintro ⟨⟩
          refine d_onlyX 7 rfl (by kernel_rfl) rfl (o_callGM 0 9 10 (pv := some (v0)) (Go.Proofs.enters_of Try.func33 (by kernel_rfl) rfl) (c_spec_l4Value ((code)) ((i215)) ((h216)) (IntKind.i64.wrap (1 + (x1))) (by first | omega | assumption | (unfold okI; omega) | exact ⟨wr_lo _, wr_hi _⟩ | (simp only [List.length_cons, List.length_nil]; omega) | (rw [uni_len]; omega)) (by first | omega | assumption | (unfold okI; omega) | exact ⟨wr_lo _, wr_hi _⟩ | (simp only [List.length_cons, List.length_nil]; omega) | (rw [uni_len]; omega)) (by first | omega | assumption | (unfold okI; omega) | exact ⟨wr_lo _, wr_hi _⟩ | (simp only [List.length_cons, List.length_nil]; omega) | (rw [uni_len]; omega)) (by first | omega | assumption | (unfold okI; omega) | exact ⟨wr_lo _, wr_hi _⟩ | (simp only [List.length_cons, List.length_nil]; omega) | (rw [uni_len]; omega)) (by first | omega | assumption | (unfold okI; omega) | exact ⟨wr_lo _, wr_hi _⟩ | (simp only [List.length_cons, List.length_nil]; omega) | (rw [uni_len]; omega))) rfl rfl (.cur rfl (.cons rfl .nil)) rfl (fun ⟨_, _, _⟩ => rfl) (fun _ => rfl) (fun ⟨_, _, _⟩ => rfl) rfl rfl) ?_
          rintro ⟨⟨x44, i245, h246⟩, hq47⟩
          try dsimp only at hq47
          try dsimp only
          obtain ⟨q48, q49⟩ := hq47
          refine d_only 8 rfl (by kernel_rfl) rfl (o_call 10 13 false (Go.Proofs.enters_of Try.func16 (by kernel_rfl) rfl) (c_spec_Union (us) (-1 - ((x14))) ((x44)) (by first | omega | assumption | (unfold okI; omega) | exact ⟨wr_lo _, wr_hi _⟩ | (simp only [List.length_cons, List.length_nil]; omega) | (rw [uni_len]; omega)) (by first | omega | assumption | (unfold okI; omega) | exact ⟨wr_lo _, wr_hi _⟩ | (simp only [List.length_cons, List.length_nil]; omega) | (rw [uni_len]; omega)) (by first | omega | assumption | (unfold okI; omega) | exact ⟨wr_lo _, wr_hi _⟩ | (simp only [List.length_cons, List.length_nil]; omega) | (rw [uni_len]; omega)) (by first | omega | assumption | (unfold okI; omega) | exact ⟨wr_lo _, wr_hi _⟩ | (simp only [List.length_cons, List.length_nil]; omega) | (rw [uni_len]; omega))) rfl (.cons rfl (.agg (.cons (.own rfl) .nil)) (.cons rfl (.c .t0) (.cons rfl (.c .t0) .nil))) rfl rfl rfl) ?_
          refine d_take 9 rfl rfl (by kernel_rfl) (by kernel_rfl) (by kernel_rfl) (p_move rfl) ?_
          refine d_take 10 rfl rfl (by kernel_rfl) (by kernel_rfl) (by kernel_rfl) (p_extract rfl rfl rfl) ?_
          refine d_two 11 12 rfl rfl (by kernel_rfl) rfl rfl (o_extract rfl rfl rfl rfl) (o_storeb (n := 1) (by kernel_rfl) rfl rfl rfl rfl rfl rfl) ?_ ?_
          ·
            refine d_only 12 rfl (by kernel_rfl) rfl (o_storeb (n := 1) (by kernel_rfl) rfl rfl rfl rfl rfl rfl) ?_
            refine d_end (by kernel_rfl) ?_
            refine t_endblock ?_
            refine t_region ?_
            refine r_op (o_move rfl rfl) ?_
            refine r_op (o_bin rfl rfl rfl rfl) ?_
            refine r_op (o_assign rfl rfl) ?_
            refine r_end ?_
            refine gt_mv 5 12 rfl rfl rfl ?_
            refine t_le ?_ (ih0 (IntKind.i64.wrap (kk - 1), uniL (us) (-1 - ((x14))) ((x44)), (i245), (h246)) (by (try dsimp only); ((try simp only [IntKind.wrap_i64] at *); omega)) (by (try dsimp only); exact ⟨(by ((try simp only [IntKind.wrap_i64] at *); omega)), ⟨by rw [uni_len]; exact j2.1, j2.2⟩, uniL_ok j3 (by unfold okI; omega) (by unfold okI; omega), by omega⟩))
            exact ⟨⟨rfl, ⟨rfl, ⟨rfl, ⟨rfl, ⟨rfl, trivial⟩⟩⟩⟩⟩, ⟨rfl, ⟨rfl, ⟨rfl, ⟨rfl, trivial⟩⟩⟩⟩, rfl⟩
          ·
            refine d_take 11 rfl rfl (by kernel_rfl) (by kernel_rfl) (by kernel_rfl) (p_extract rfl rfl rfl) ?_
            refine d_end (by kernel_rfl) ?_
            refine t_endblock ?_
            refine t_region ?_
            refine r_op (o_move rfl rfl) ?_
            refine r_op (o_bin rfl rfl rfl rfl) ?_
            refine r_op (o_assign rfl rfl) ?_
            refine r_end ?_
            refine gt_mv 5 12 rfl rfl rfl ?_
            refine t_le ?_ (ih0 (IntKind.i64.wrap (kk - 1), uniL (us) (-1 - ((x14))) ((x44)), (i245), (h246)) (by (try dsimp only); ((try simp only [IntKind.wrap_i64] at *); omega)) (by (try dsimp only); exact ⟨(by ((try simp only [IntKind.wrap_i64] at *); omega)), ⟨by rw [uni_len]; exact j2.1, j2.2⟩, uniL_ok j3 (by unfold okI; omega) (by unfold okI; omega), by omega⟩))
            exact ⟨⟨rfl, ⟨rfl, ⟨rfl, ⟨rfl, ⟨rfl, trivial⟩⟩⟩⟩⟩, ⟨rfl, ⟨rfl, ⟨rfl, ⟨rfl, trivial⟩⟩⟩⟩, rfl⟩
        ·
          rintro ⟨⟨x38, i239, h240⟩, hq41⟩
          try dsimp only at hq41
          try dsimp only
          obtain ⟨q42, q43⟩ := hq41
          refine d_take 0 rfl rfl (by kernel_rfl) (by kernel_rfl) (by kernel_rfl) (p_loadAb (n := 1) (by kernel_rfl) (by kernel_rfl) rfl rfl rfl) ?_
          refine d_only 8 rfl (by kernel_rfl) rfl (o_call 10 13 false (Go.Proofs.enters_of Try.func16 (by kernel_rfl) rfl) (c_spec_Union (us) (-1 - ((x14))) ((x38)) (by first | omega | assumption | (unfold okI; omega) | exact ⟨wr_lo _, wr_hi _⟩ | (simp only [List.length_cons, List.length_nil]; omega) | (rw [uni_len]; omega)) (by first | omega | assumption | (unfold okI; omega) | exact ⟨wr_lo _, wr_hi _⟩ | (simp only [List.length_cons, List.length_nil]; omega) | (rw [uni_len]; omega)) (by first | omega | assumption | (unfold okI; omega) | exact ⟨wr_lo _, wr_hi _⟩ | (simp only [List.length_cons, List.length_nil]; omega) | (rw [uni_len]; omega)) (by first | omega | assumption | (unfold okI; omega) | exact ⟨wr_lo _, wr_hi _⟩ | (simp only [List.length_cons, List.length_nil]; omega) | (rw [uni_len]; omega))) rfl (.cons rfl (.agg (.cons (.own rfl) .nil)) (.cons rfl (.c .t0) (.cons rfl (.c .t0) .nil))) rfl rfl rfl) ?_
          refine d_take 9 rfl rfl (by kernel_rfl) (by kernel_rfl) (by kernel_rfl) (p_move rfl) ?_
          refine d_take 10 rfl rfl (by kernel_rfl) (by kernel_rfl) (by kernel_rfl) (p_extract rfl rfl rfl) ?_
          refine d_two 11 12 rfl rfl (by kernel_rfl) rfl rfl (o_extract rfl rfl rfl rfl) (o_storeb (n := 1) (by kernel_rfl) rfl rfl rfl rfl rfl rfl) ?_ ?_
          ·
            refine d_only 12 rfl (by kernel_rfl) rfl (o_storeb (n := 1) (by kernel_rfl) rfl rfl rfl rfl rfl rfl) ?_
            refine d_end (by kernel_rfl) ?_
            refine t_endblock ?_
            refine t_region ?_
            refine r_op (o_move rfl rfl) ?_
            refine r_op (o_bin rfl rfl rfl rfl) ?_
            refine r_op (o_assign rfl rfl) ?_
            refine r_end ?_
            refine gt_mv 5 12 rfl rfl rfl ?_
            refine t_le ?_ (ih0 (IntKind.i64.wrap (kk - 1), uniL (us) (-1 - ((x14))) ((x38)), (i239), (h240)) (by (try dsimp only); ((try simp only [IntKind.wrap_i64] at *); omega)) (by (try dsimp only); exact ⟨(by ((try simp only [IntKind.wrap_i64] at *); omega)), ⟨by rw [uni_len]; exact j2.1, j2.2⟩, uniL_ok j3 (by unfold okI; omega) (by unfold okI; omega), by omega⟩))
            exact ⟨⟨rfl, ⟨rfl, ⟨rfl, ⟨rfl, ⟨rfl, trivial⟩⟩⟩⟩⟩, ⟨rfl, ⟨rfl, ⟨rfl, ⟨rfl, trivial⟩⟩⟩⟩, rfl⟩
          ·
            refine d_take 11 rfl rfl (by kernel_rfl) (by kernel_rfl) (by kernel_rfl) (p_extract rfl rfl rfl) ?_
            refine d_end (by kernel_rfl) ?_
            refine t_endblock ?_
            refine t_region ?_
            refine r_op (o_move rfl rfl) ?_
            refine r_op (o_bin rfl rfl rfl rfl) ?_
            refine r_op (o_assign rfl rfl) ?_
            refine r_end ?_
            refine gt_mv 5 12 rfl rfl rfl ?_
            refine t_le ?_ (ih0 (IntKind.i64.wrap (kk - 1), uniL (us) (-1 - ((x14))) ((x38)), (i239), (h240)) (by (try dsimp only); ((try simp only [IntKind.wrap_i64] at *); omega)) (by (try dsimp only); exact ⟨(by ((try simp only [IntKind.wrap_i64] at *); omega)), ⟨by rw [uni_len]; exact j2.1, j2.2⟩, uniL_ok j3 (by unfold okI; omega) (by unfold okI; omega), by omega⟩))
            exact ⟨⟨rfl, ⟨rfl, ⟨rfl, ⟨rfl, ⟨rfl, trivial⟩⟩⟩⟩⟩, ⟨rfl, ⟨rfl, ⟨rfl, ⟨rfl, trivial⟩⟩⟩⟩, rfl⟩
  ·
    have h13' := of_decide_eq_false h13
    refine t_exit rfl ?_
    refine t_seq ?_
    refine t_seq ?_
    refine t_region ?_
    refine r_op (o_move rfl rfl) ?_
    refine r_opX (o_callGM 0 8 9 (pv := some (v0)) (Go.Proofs.enters_of Try.func44 (by kernel_rfl) rfl) (c_spec_l1Once (code) (i3) (h3) (10) (by first | omega | assumption | (unfold okI; omega) | exact ⟨wr_lo _, wr_hi _⟩ | (simp only [List.length_cons, List.length_nil]; omega) | (rw [uni_len]; omega)) (by first | omega | assumption | (unfold okI; omega) | exact ⟨wr_lo _, wr_hi _⟩ | (simp only [List.length_cons, List.length_nil]; omega) | (rw [uni_len]; omega)) (by first | omega | assumption | (unfold okI; omega) | exact ⟨wr_lo _, wr_hi _⟩ | (simp only [List.length_cons, List.length_nil]; omega) | (rw [uni_len]; omega)) (by first | omega | assumption | (unfold okI; omega) | exact ⟨wr_lo _, wr_hi _⟩ | (simp only [List.length_cons, List.length_nil]; omega) | (rw [uni_len]; omega)) (by first | omega | assumption | (unfold okI; omega) | exact ⟨wr_lo _, wr_hi _⟩ | (simp only [List.length_cons, List.length_nil]; omega) | (rw [uni_len]; omega))) rfl rfl (.cur rfl (.cons rfl .nil)) rfl (fun ⟨_, _, _⟩ => rfl) (fun _ => rfl) (fun ⟨_, _, _⟩ => rfl) rfl rfl) ?_
    rintro ⟨⟨b50, i251, h252⟩, hq53⟩
    try dsimp only at hq53
    try dsimp only
    refine r_end ?_
    refine t_cond rfl (fun h55 => ?_) (fun h55 => ?_)
    ·
      have h55' := h55
      refine t_draw (fun i => !(Nat.beq i 4 || Nat.beq i 7 || Nat.beq i 9)) (by kernel_rfl) ?_
      refine d_takeP 0 rfl rfl (by kernel_rfl) (by kernel_rfl) (by kernel_rfl) (pw_fieldb (off := 0) (by kernel_rfl) rfl) ?_
      refine d_take 2 rfl rfl (by kernel_rfl) (by kernel_rfl) (by kernel_rfl) (p_move rfl) ?_
      refine d_take 3 rfl rfl (by kernel_rfl) (by kernel_rfl) (by kernel_rfl) (p_move rfl) ?_
      refine d_takeP 5 rfl rfl (by kernel_rfl) (by kernel_rfl) (by kernel_rfl) (pw_move rfl) ?_
      refine d_threeX 1 4 6 rfl rfl rfl (by kernel_rfl) rfl rfl rfl (osX (o_load1b rfl (by kernel_rfl) rfl rfl rfl)) (o_callGM 0 9 10 (pv := some (v0)) (Go.Proofs.enters_of Try.func42 (by kernel_rfl) rfl) (c_spec_l1Below ((code)) ((i251)) ((h252)) (IntKind.i64.wrap (1 + (x1))) (by first | omega | assumption | (unfold okI; omega) | exact ⟨wr_lo _, wr_hi _⟩ | (simp only [List.length_cons, List.length_nil]; omega) | (rw [uni_len]; omega)) (by first | omega | assumption | (unfold okI; omega) | exact ⟨wr_lo _, wr_hi _⟩ | (simp only [List.length_cons, List.length_nil]; omega) | (rw [uni_len]; omega)) (by first | omega | assumption | (unfold okI; omega) | exact ⟨wr_lo _, wr_hi _⟩ | (simp only [List.length_cons, List.length_nil]; omega) | (rw [uni_len]; omega)) (by first | omega | assumption | (unfold okI; omega) | exact ⟨wr_lo _, wr_hi _⟩ | (simp only [List.length_cons, List.length_nil]; omega) | (rw [uni_len]; omega)) (by first | omega | assumption | (unfold okI; omega) | exact ⟨wr_lo _, wr_hi _⟩ | (simp only [List.length_cons, List.length_nil]; omega) | (rw [uni_len]; omega))) rfl rfl (.cur rfl (.cons rfl .nil)) rfl (fun ⟨_, _, _⟩ => rfl) (fun _ => rfl) (fun ⟨_, _, _⟩ => rfl) rfl rfl) (osX (o_litS 9 (e := 3) (sz := 1) (zs := [.int .i64 (0)]) rfl rfl (by kernel_rfl) rfl rfl rfl rfl rfl)) ?_ ?_ ?_
      ·
        rintro ⟨⟩
        refine d_twoX 4 6 rfl rfl (by kernel_rfl) rfl rfl (o_callGM 0 9 10 (pv := some (v0)) (Go.Proofs.enters_of Try.func42 (by kernel_rfl) rfl) (c_spec_l1Below ((code)) ((i251)) ((h252)) (IntKind.i64.wrap (1 + (x1))) (by first | omega | assumption | (unfold okI; omega) | exact ⟨wr_lo _, wr_hi _⟩ | (simp only [List.length_cons, List.length_nil]; omega) | (rw [uni_len]; omega)) (by first | omega | assumption | (unfold okI; omega) | exact ⟨wr_lo _, wr_hi _⟩ | (simp only [List.length_cons, List.length_nil]; omega) | (rw [uni_len]; omega)) (by first | omega | assumption | (unfold okI; omega) | exact ⟨wr_lo _, wr_hi _⟩ | (simp only [List.length_cons, List.length_nil]; omega) | (rw [uni_len]; omega)) (by first | omega | assumption | (unfold okI; omega) | exact ⟨wr_lo _, wr_hi _⟩ | (simp only [List.length_cons, List.length_nil]; omega) | (rw [uni_len]; omega)) (by first | omega | assumption | (unfold okI; omega) | exact ⟨wr_lo _, wr_hi _⟩ | (simp only [List.length_cons, List.length_nil]; omega) | (rw [uni_len]; omega))) rfl rfl (.cur rfl (.cons rfl .nil)) rfl (fun ⟨_, _, _⟩ => rfl) (fun _ => rfl) (fun ⟨_, _, _⟩ => rfl) rfl rfl) (osX (o_litS 9 (e := 3) (sz := 1) (zs := [.int .i64 (0)]) rfl rfl (by kernel_rfl) rfl rfl rfl rfl rfl)) ?_ ?_
        ·
          rintro ⟨⟨x62, i263, h264⟩, hq65⟩
          try dsimp only at hq65
          try dsimp only
          obtain ⟨q66, q67⟩ := hq65
          refine d_only 6 rfl (by kernel_rfl) rfl (o_litS 10 (e := 3) (sz := 1) (zs := [.int .i64 (0)]) rfl rfl (by kernel_rfl) rfl rfl rfl rfl rfl) ?_
          refine d_freezeB 10 (enc := encI) ([10, -6, 0, -1, -41]) rfl (.cons (.cons (.cons (.cons (.cons .nil))))) (frz_cur (i := 10) hM rfl rfl rfl) ?_
          refine d_onlyX 7 rfl (by kernel_rfl) rfl (o_callGM 0 11 12 (pv := some (v0)) (Go.Proofs.enters_of Try.func45 (by kernel_rfl) rfl) (c_spec_l1PickInt (((code))) ((i263)) ((h264)) ([10, -6, 0, -1, -41]) (by first | omega | assumption | (unfold okI; omega) | exact ⟨wr_lo _, wr_hi _⟩ | (simp only [List.length_cons, List.length_nil]; omega) | (rw [uni_len]; omega)) (by first | omega | assumption | (unfold okI; omega) | exact ⟨wr_lo _, wr_hi _⟩ | (simp only [List.length_cons, List.length_nil]; omega) | (rw [uni_len]; omega)) (by first | omega | assumption | (unfold okI; omega) | exact ⟨wr_lo _, wr_hi _⟩ | (simp only [List.length_cons, List.length_nil]; omega) | (rw [uni_len]; omega)) (by first | omega | assumption | (unfold okI; omega) | exact ⟨wr_lo _, wr_hi _⟩ | (simp only [List.length_cons, List.length_nil]; omega) | (rw [uni_len]; omega)) (by first | omega | assumption | (unfold okI; omega) | exact ⟨wr_lo _, wr_hi _⟩ | (simp only [List.length_cons, List.length_nil]; omega) | (rw [uni_len]; omega))) rfl rfl (.cur rfl (.cons rfl .nil)) rfl (fun ⟨_, _, _⟩ => rfl) (fun _ => rfl) (fun ⟨_, _, _⟩ => rfl) rfl rfl) ?_
          rintro ⟨⟨x68, i269, h270⟩, hq71⟩
          try dsimp only at hq71
          try dsimp only
          obtain ⟨q72, q73⟩ := hq71
          obtain ⟨z74, hz75, b76⟩ := at_get (xs := us) (n := (x62)) (by first | omega | assumption | (unfold okI; omega) | exact ⟨wr_lo _, wr_hi _⟩ | (simp only [List.length_cons, List.length_nil]; omega) | (rw [uni_len]; omega)) (by first | omega | assumption | (unfold okI; omega) | exact ⟨wr_lo _, wr_hi _⟩ | (simp only [List.length_cons, List.length_nil]; omega) | (rw [uni_len]; omega))
          refine d_take 8 rfl rfl (by kernel_rfl) (by kernel_rfl) (by kernel_rfl) (p_indexo (by kernel_rfl) rfl rfl rfl b76 (at_lt b76 hz75)) ?_
          refine d_only 9 rfl (by kernel_rfl) rfl (o_storeo ((x68)) (n := 1) (by kernel_rfl) rfl rfl hz75 rfl rfl rfl rfl (.cons .sc .nil) rfl (fun j h1 h2 => by simp at h1 h2; omega)) ?_
          refine d_end (by kernel_rfl) ?_
          refine t_seq ?_
          refine t_region ?_
          refine r_op (o_loadAb rfl (n := 1) (by kernel_rfl) (by kernel_rfl) rfl rfl rfl) ?_
          refine r_op (o_storeb (n := 1) (by kernel_rfl) rfl rfl rfl rfl rfl rfl) ?_
          refine r_end ?_
          refine gt_freeze 5 rfl (frz_cur (i := 5) hM rfl rfl rfl) ?_
          refine t_ret Try.func24 (.cells (n := 1) (by kernel_rfl) (by kernel_rfl) rfl rfl rfl .nil) rfl fun E S w u hI hd => ?_
          refine post_mkG (⟨(us).set ((x62)).toNat ((x68)), (i269), (h270)⟩) ?_ hI hd ?_ ⟨rfl, trivial⟩ rfl rfl <;> clear hI hd <;> (try clear ih0)
          · (try dsimp only) <;> (first | exact ⟨by omega, j3, by omega⟩ | (refine ⟨by (simp only [List.length_set]; omega), set_ok j3 ?_, by omega⟩; exact pick5 (by assumption)))
          · rfl
        ·
          rintro ⟨⟩
          refine d_onlyX 4 rfl (by kernel_rfl) rfl (o_callGM 0 10 11 (pv := some (v0)) (Go.Proofs.enters_of Try.func42 (by kernel_rfl) rfl) (c_spec_l1Below ((code)) ((i251)) ((h252)) (IntKind.i64.wrap (1 + (x1))) (by first | omega | assumption | (unfold okI; omega) | exact ⟨wr_lo _, wr_hi _⟩ | (simp only [List.length_cons, List.length_nil]; omega) | (rw [uni_len]; omega)) (by first | omega | assumption | (unfold okI; omega) | exact ⟨wr_lo _, wr_hi _⟩ | (simp only [List.length_cons, List.length_nil]; omega) | (rw [uni_len]; omega)) (by first | omega | assumption | (unfold okI; omega) | exact ⟨wr_lo _, wr_hi _⟩ | (simp only [List.length_cons, List.length_nil]; omega) | (rw [uni_len]; omega)) (by first | omega | assumption | (unfold okI; omega) | exact ⟨wr_lo _, wr_hi _⟩ | (simp only [List.length_cons, List.length_nil]; omega) | (rw [uni_len]; omega)) (by first | omega | assumption | (unfold okI; omega) | exact ⟨wr_lo _, wr_hi _⟩ | (simp only [List.length_cons, List.length_nil]; omega) | (rw [uni_len]; omega))) rfl rfl (.cur rfl (.cons rfl .nil)) rfl (fun ⟨_, _, _⟩ => rfl) (fun _ => rfl) (fun ⟨_, _, _⟩ => rfl) rfl rfl) ?_
          rintro ⟨⟨x77, i278, h279⟩, hq80⟩
          try dsimp only at hq80
          try dsimp only
          obtain ⟨q81, q82⟩ := hq80
          refine d_freezeB 9 (enc := encI) ([10, -6, 0, -1, -41]) rfl (.cons (.cons (.cons (.cons (.cons .nil))))) (frz_cur (i := 9) hM rfl rfl rfl) ?_
          refine d_onlyX 7 rfl (by kernel_rfl) rfl (o_callGM 0 11 12 (pv := some (v0)) (Go.Proofs.enters_of Try.func45 (by kernel_rfl) rfl) (c_spec_l1PickInt (((code))) ((i278)) ((h279)) ([10, -6, 0, -1, -41]) (by first | omega | assumption | (unfold okI; omega) | exact ⟨wr_lo _, wr_hi _⟩ | (simp only [List.length_cons, List.length_nil]; omega) | (rw [uni_len]; omega)) (by first | omega | assumption | (unfold okI; omega) | exact ⟨wr_lo _, wr_hi _⟩ | (simp only [List.length_cons, List.length_nil]; omega) | (rw [uni_len]; omega)) (by first | omega | assumption | (unfold okI; omega) | exact ⟨wr_lo _, wr_hi _⟩ | (simp only [List.length_cons, List.length_nil]; omega) | (rw [uni_len]; omega)) (by first | omega | assumption | (unfold okI; omega) | exact ⟨wr_lo _, wr_hi _⟩ | (simp only [List.length_cons, List.length_nil]; omega) | (rw [uni_len]; omega)) (by first | omega | assumption | (unfold okI; omega) | exact ⟨wr_lo _, wr_hi _⟩ | (simp only [List.length_cons, List.length_nil]; omega) | (rw [uni_len]; omega))) rfl rfl (.cur rfl (.cons rfl .nil)) rfl (fun ⟨_, _, _⟩ => rfl) (fun _ => rfl) (fun ⟨_, _, _⟩ => rfl) rfl rfl) ?_
          rintro ⟨⟨x83, i284, h285⟩, hq86⟩
          try dsimp only at hq86
          try dsimp only
          obtain ⟨q87, q88⟩ := hq86
          obtain ⟨z89, hz90, b91⟩ := at_get (xs := us) (n := (x77)) (by first | omega | assumption | (unfold okI; omega) | exact ⟨wr_lo _, wr_hi _⟩ | (simp only [List.length_cons, List.length_nil]; omega) | (rw [uni_len]; omega)) (by first | omega | assumption | (unfold okI; omega) | exact ⟨wr_lo _, wr_hi _⟩ | (simp only [List.length_cons, List.length_nil]; omega) | (rw [uni_len]; omega))
          refine d_take 8 rfl rfl (by kernel_rfl) (by kernel_rfl) (by kernel_rfl) (p_indexo (by kernel_rfl) rfl rfl rfl b91 (at_lt b91 hz90)) ?_
          refine d_only 9 rfl (by kernel_rfl) rfl (o_storeo ((x83)) (n := 1) (by kernel_rfl) rfl rfl hz90 rfl rfl rfl rfl (.cons .sc .nil) rfl (fun j h1 h2 => by simp at h1 h2; omega)) ?_
          refine d_end (by kernel_rfl) ?_
          refine t_seq ?_
          refine t_region ?_
          refine r_op (o_loadAb rfl (n := 1) (by kernel_rfl) (by kernel_rfl) rfl rfl rfl) ?_
          refine r_op (o_storeb (n := 1) (by kernel_rfl) rfl rfl rfl rfl rfl rfl) ?_
          refine r_end ?_
          refine gt_freeze 5 rfl (frz_cur (i := 5) hM rfl rfl rfl) ?_
          refine t_ret Try.func24 (.cells (n := 1) (by kernel_rfl) (by kernel_rfl) rfl rfl rfl .nil) rfl fun E S w u hI hd => ?_
          refine post_mkG (⟨(us).set ((x77)).toNat ((x83)), (i284), (h285)⟩) ?_ hI hd ?_ ⟨rfl, trivial⟩ rfl rfl <;> clear hI hd <;> (try clear ih0)
          · (try dsimp only) <;> (first | exact ⟨by omega, j3, by omega⟩ | (refine ⟨by (simp only [List.length_set]; omega), set_ok j3 ?_, by omega⟩; exact pick5 (by assumption)))
          · rfl
      ·
        rintro ⟨⟨x56, i257, h258⟩, hq59⟩
        try dsimp only at hq59
        try dsimp only
        obtain ⟨q60, q61⟩ := hq59
        refine d_two 1 6 rfl rfl (by kernel_rfl) rfl rfl (o_load1b rfl (by kernel_rfl) rfl rfl rfl) (o_litS 10 (e := 3) (sz := 1) (zs := [.int .i64 (0)]) rfl rfl (by kernel_rfl) rfl rfl rfl rfl rfl) ?_ ?_
        ·
          refine d_only 6 rfl (by kernel_rfl) rfl (o_litS 10 (e := 3) (sz := 1) (zs := [.int .i64 (0)]) rfl rfl (by kernel_rfl) rfl rfl rfl rfl rfl) ?_
          refine d_freezeB 10 (enc := encI) ([10, -6, 0, -1, -41]) rfl (.cons (.cons (.cons (.cons (.cons .nil))))) (frz_cur (i := 10) hM rfl rfl rfl) ?_
          refine d_onlyX 7 rfl (by kernel_rfl) rfl (o_callGM 0 11 12 (pv := some (v0)) (Go.Proofs.enters_of Try.func45 (by kernel_rfl) rfl) (c_spec_l1PickInt (((code))) ((i257)) ((h258)) ([10, -6, 0, -1, -41]) (by first | omega | assumption | (unfold okI; omega) | exact ⟨wr_lo _, wr_hi _⟩ | (simp only [List.length_cons, List.length_nil]; omega) | (rw [uni_len]; omega)) (by first | omega | assumption | (unfold okI; omega) | exact ⟨wr_lo _, wr_hi _⟩ | (simp only [List.length_cons, List.length_nil]; omega) | (rw [uni_len]; omega)) (by first | omega | assumption | (unfold okI; omega) | exact ⟨wr_lo _, wr_hi _⟩ | (simp only [List.length_cons, List.length_nil]; omega) | (rw [uni_len]; omega)) (by first | omega | assumption | (unfold okI; omega) | exact ⟨wr_lo _, wr_hi _⟩ | (simp only [List.length_cons, List.length_nil]; omega) | (rw [uni_len]; omega)) (by first | omega | assumption | (unfold okI; omega) | exact ⟨wr_lo _, wr_hi _⟩ | (simp only [List.length_cons, List.length_nil]; omega) | (rw [uni_len]; omega))) rfl rfl (.cur rfl (.cons rfl .nil)) rfl (fun ⟨_, _, _⟩ => rfl) (fun _ => rfl) (fun ⟨_, _, _⟩ => rfl) rfl rfl) ?_
          rintro ⟨⟨x92, i293, h294⟩, hq95⟩
          try dsimp only at hq95
          try dsimp only
          obtain ⟨q96, q97⟩ := hq95
          obtain ⟨z98, hz99, b100⟩ := at_get (xs := us) (n := (x56)) (by first | omega | assumption | (unfold okI; omega) | exact ⟨wr_lo _, wr_hi _⟩ | (simp only [List.length_cons, List.length_nil]; omega) | (rw [uni_len]; omega)) (by first | omega | assumption | (unfold okI; omega) | exact ⟨wr_lo _, wr_hi _⟩ | (simp only [List.length_cons, List.length_nil]; omega) | (rw [uni_len]; omega))
          refine d_take 8 rfl rfl (by kernel_rfl) (by kernel_rfl) (by kernel_rfl) (p_indexo (by kernel_rfl) rfl rfl rfl b100 (at_lt b100 hz99)) ?_
          refine d_only 9 rfl (by kernel_rfl) rfl (o_storeo ((x92)) (n := 1) (by kernel_rfl) rfl rfl hz99 rfl rfl rfl rfl (.cons .sc .nil) rfl (fun j h1 h2 => by simp at h1 h2; omega)) ?_
          refine d_end (by kernel_rfl) ?_
          refine t_seq ?_
          refine t_region ?_
          refine r_op (o_loadAb rfl (n := 1) (by kernel_rfl) (by kernel_rfl) rfl rfl rfl) ?_
          refine r_op (o_storeb (n := 1) (by kernel_rfl) rfl rfl rfl rfl rfl rfl) ?_
          refine r_end ?_
          refine gt_freeze 5 rfl (frz_cur (i := 5) hM rfl rfl rfl) ?_
          refine t_ret Try.func24 (.cells (n := 1) (by kernel_rfl) (by kernel_rfl) rfl rfl rfl .nil) rfl fun E S w u hI hd => ?_
          refine post_mkG (⟨(us).set ((x56)).toNat ((x92)), (i293), (h294)⟩) ?_ hI hd ?_ ⟨rfl, trivial⟩ rfl rfl <;> clear hI hd <;> (try clear ih0)
          · (try dsimp only) <;> (first | exact ⟨by omega, j3, by omega⟩ | (refine ⟨by (simp only [List.length_set]; omega), set_ok j3 ?_, by omega⟩; exact pick5 (by assumption)))
          · rfl
        ·
          refine d_freezeB 10 (enc := encI) ([10, -6, 0, -1, -41]) rfl (.cons (.cons (.cons (.cons (.cons .nil))))) (frz_cur (i := 10) hM rfl rfl rfl) ?_
          refine d_twoX 1 7 rfl rfl (by kernel_rfl) rfl rfl (osX (o_load1b rfl (by kernel_rfl) rfl rfl rfl)) (o_callGM 0 11 12 (pv := some (v0)) (Go.Proofs.enters_of Try.func45 (by kernel_rfl) rfl) (c_spec_l1PickInt (((code))) ((i257)) ((h258)) ([10, -6, 0, -1, -41]) (by first | omega | assumption | (unfold okI; omega) | exact ⟨wr_lo _, wr_hi _⟩ | (simp only [List.length_cons, List.length_nil]; omega) | (rw [uni_len]; omega)) (by first | omega | assumption | (unfold okI; omega) | exact ⟨wr_lo _, wr_hi _⟩ | (simp only [List.length_cons, List.length_nil]; omega) | (rw [uni_len]; omega)) (by first | omega | assumption | (unfold okI; omega) | exact ⟨wr_lo _, wr_hi _⟩ | (simp only [List.length_cons, List.length_nil]; omega) | (rw [uni_len]; omega)) (by first | omega | assumption | (unfold okI; omega) | exact ⟨wr_lo _, wr_hi _⟩ | (simp only [List.length_cons, List.length_nil]; omega) | (rw [uni_len]; omega)) (by first | omega | assumption | (unfold okI; omega) | exact ⟨wr_lo _, wr_hi _⟩ | (simp only [List.length_cons, List.length_nil]; omega) | (rw [uni_len]; omega))) rfl rfl (.cur rfl (.cons rfl .nil)) rfl (fun ⟨_, _, _⟩ => rfl) (fun _ => rfl) (fun ⟨_, _, _⟩ => rfl) rfl rfl) ?_ ?_
          ·
            rintro ⟨⟩
            refine d_onlyX 7 rfl (by kernel_rfl) rfl (o_callGM 0 11 12 (pv := some (v0)) (Go.Proofs.enters_of Try.func45 (by kernel_rfl) rfl) (c_spec_l1PickInt (((code))) ((i257)) ((h258)) ([10, -6, 0, -1, -41]) (by first | omega | assumption | (unfold okI; omega) | exact ⟨wr_lo _, wr_hi _⟩ | (simp only [List.length_cons, List.length_nil]; omega) | (rw [uni_len]; omega)) (by first | omega | assumption | (unfold okI; omega) | exact ⟨wr_lo _, wr_hi _⟩ | (simp only [List.length_cons, List.length_nil]; omega) | (rw [uni_len]; omega)) (by first | omega | assumption | (unfold okI; omega) | exact ⟨wr_lo _, wr_hi _⟩ | (simp only [List.length_cons, List.length_nil]; omega) | (rw [uni_len]; omega)) (by first | omega | assumption | (unfold okI; omega) | exact ⟨wr_lo _, wr_hi _⟩ | (simp only [List.length_cons, List.length_nil]; omega) | (rw [uni_len]; omega)) (by first | omega | assumption | (unfold okI; omega) | exact ⟨wr_lo _, wr_hi _⟩ | (simp only [List.length_cons, List.length_nil]; omega) | (rw [uni_len]; omega))) rfl rfl (.cur rfl (.cons rfl .nil)) rfl (fun ⟨_, _, _⟩ => rfl) (fun _ => rfl) (fun ⟨_, _, _⟩ => rfl) rfl rfl) ?_
            rintro ⟨⟨x107, i2108, h2109⟩, hq110⟩
            try dsimp only at hq110
            try dsimp only
            obtain ⟨q111, q112⟩ := hq110
            obtain ⟨z113, hz114, b115⟩ := at_get (xs := us) (n := (x56)) (by first | omega | assumption | (unfold okI; omega) | exact ⟨wr_lo _, wr_hi _⟩ | (simp only [List.length_cons, List.length_nil]; omega) | (rw [uni_len]; omega)) (by first | omega | assumption | (unfold okI; omega) | exact ⟨wr_lo _, wr_hi _⟩ | (simp only [List.length_cons, List.length_nil]; omega) | (rw [uni_len]; omega))
            refine d_take 8 rfl rfl (by kernel_rfl) (by kernel_rfl) (by kernel_rfl) (p_indexo (by kernel_rfl) rfl rfl rfl b115 (at_lt b115 hz114)) ?_
            refine d_only 9 rfl (by kernel_rfl) rfl (o_storeo ((x107)) (n := 1) (by kernel_rfl) rfl rfl hz114 rfl rfl rfl rfl (.cons .sc .nil) rfl (fun j h1 h2 => by simp at h1 h2; omega)) ?_
            refine d_end (by kernel_rfl) ?_
            refine t_seq ?_
            refine t_region ?_
            refine r_op (o_loadAb rfl (n := 1) (by kernel_rfl) (by kernel_rfl) rfl rfl rfl) ?_
            refine r_op (o_storeb (n := 1) (by kernel_rfl) rfl rfl rfl rfl rfl rfl) ?_
            refine r_end ?_
            refine gt_freeze 5 rfl (frz_cur (i := 5) hM rfl rfl rfl) ?_
            refine t_ret Try.func24 (.cells (n := 1) (by kernel_rfl) (by kernel_rfl) rfl rfl rfl .nil) rfl fun E S w u hI hd => ?_
            refine post_mkG (⟨(us).set ((x56)).toNat ((x107)), (i2108), (h2109)⟩) ?_ hI hd ?_ ⟨rfl, trivial⟩ rfl rfl <;> clear hI hd <;> (try clear ih0)
            · (try dsimp only) <;> (first | exact ⟨by omega, j3, by omega⟩ | (refine ⟨by (simp only [List.length_set]; omega), set_ok j3 ?_, by omega⟩; exact pick5 (by assumption)))
            · rfl
          ·
            rintro ⟨⟨x101, i2102, h2103⟩, hq104⟩
            try dsimp only at hq104
            try dsimp only
            obtain ⟨q105, q106⟩ := hq104
            refine d_take 1 rfl rfl (by kernel_rfl) (by kernel_rfl) (by kernel_rfl) (p_load1b (by kernel_rfl) rfl rfl rfl) ?_
            obtain ⟨z116, hz117, b118⟩ := at_get (xs := us) (n := (x56)) (by first | omega | assumption | (unfold okI; omega) | exact ⟨wr_lo _, wr_hi _⟩ | (simp only [List.length_cons, List.length_nil]; omega) | (rw [uni_len]; omega)) (by first | omega | assumption | (unfold okI; omega) | exact ⟨wr_lo _, wr_hi _⟩ | (simp only [List.length_cons, List.length_nil]; omega) | (rw [uni_len]; omega))
            refine d_take 8 rfl rfl (by kernel_rfl) (by kernel_rfl) (by kernel_rfl) (p_indexo (by kernel_rfl) rfl rfl rfl b118 (at_lt b118 hz117)) ?_
            refine d_only 9 rfl (by kernel_rfl) rfl (o_storeo ((x101)) (n := 1) (by kernel_rfl) rfl rfl hz117 rfl rfl rfl rfl (.cons .sc .nil) rfl (fun j h1 h2 => by simp at h1 h2; omega)) ?_
            refine d_end (by kernel_rfl) ?_
            refine t_seq ?_
            refine t_region ?_
            refine r_op (o_loadAb rfl (n := 1) (by kernel_rfl) (by kernel_rfl) rfl rfl rfl) ?_
            refine r_op (o_storeb (n := 1) (by kernel_rfl) rfl rfl rfl rfl rfl rfl) ?_
            refine r_end ?_
            refine gt_freeze 5 rfl (frz_cur (i := 5) hM rfl rfl rfl) ?_
            refine t_ret Try.func24 (.cells (n := 1) (by kernel_rfl) (by kernel_rfl) rfl rfl rfl .nil) rfl fun E S w u hI hd => ?_
            refine post_mkG (⟨(us).set ((x56)).toNat ((x101)), (i2102), (h2103)⟩) ?_ hI hd ?_ ⟨rfl, trivial⟩ rfl rfl <;> clear hI hd <;> (try clear ih0)
            · (try dsimp only) <;> (first | exact ⟨by omega, j3, by omega⟩ | (refine ⟨by (simp only [List.length_set]; omega), set_ok j3 ?_, by omega⟩; exact pick5 (by assumption)))
            · rfl
      ·
        rintro ⟨⟩
        refine d_twoX 1 4 rfl rfl (by kernel_rfl) rfl rfl (osX (o_load1b rfl (by kernel_rfl) rfl rfl rfl)) (o_callGM 0 10 11 (pv := some (v0)) (Go.Proofs.enters_of Try.func42 (by kernel_rfl) rfl) (c_spec_l1Below ((code)) ((i251)) ((h252)) (IntKind.i64.wrap (1 + (x1))) (by first | omega | assumption | (unfold okI; omega) | exact ⟨wr_lo _, wr_hi _⟩ | (simp only [List.length_cons, List.length_nil]; omega) | (rw [uni_len]; omega)) (by first | omega | assumption | (unfold okI; omega) | exact ⟨wr_lo _, wr_hi _⟩ | (simp only [List.length_cons, List.length_nil]; omega) | (rw [uni_len]; omega)) (by first | omega | assumption | (unfold okI; omega) | exact ⟨wr_lo _, wr_hi _⟩ | (simp only [List.length_cons, List.length_nil]; omega) | (rw [uni_len]; omega)) (by first | omega | assumption | (unfold okI; omega) | exact ⟨wr_lo _, wr_hi _⟩ | (simp only [List.length_cons, List.length_nil]; omega) | (rw [uni_len]; omega)) (by first | omega | assumption | (unfold okI; omega) | exact ⟨wr_lo _, wr_hi _⟩ | (simp only [List.length_cons, List.length_nil]; omega) | (rw [uni_len]; omega))) rfl rfl (.cur rfl (.cons rfl .nil)) rfl (fun ⟨_, _, _⟩ => rfl) (fun _ => rfl) (fun ⟨_, _, _⟩ => rfl) rfl rfl) ?_ ?_
        ·
          rintro ⟨⟩
          refine d_onlyX 4 rfl (by kernel_rfl) rfl (o_callGM 0 10 11 (pv := some (v0)) (Go.Proofs.enters_of Try.func42 (by kernel_rfl) rfl) (c_spec_l1Below ((code)) ((i251)) ((h252)) (IntKind.i64.wrap (1 + (x1))) (by first | omega | assumption | (unfold okI; omega) | exact ⟨wr_lo _, wr_hi _⟩ | (simp only [List.length_cons, List.length_nil]; omega) | (rw [uni_len]; omega)) (by first | omega | assumption | (unfold okI; omega) | exact ⟨wr_lo _, wr_hi _⟩ | (simp only [List.length_cons, List.length_nil]; omega) | (rw [uni_len]; omega)) (by first | omega | assumption | (unfold okI; omega) | exact ⟨wr_lo _, wr_hi _⟩ | (simp only [List.length_cons, List.length_nil]; omega) | (rw [uni_len]; omega)) (by first | omega | assumption | (unfold okI; omega) | exact ⟨wr_lo _, wr_hi _⟩ | (simp only [List.length_cons, List.length_nil]; omega) | (rw [uni_len]; omega)) (by first | omega | assumption | (unfold okI; omega) | exact ⟨wr_lo _, wr_hi _⟩ | (simp only [List.length_cons, List.length_nil]; omega) | (rw [uni_len]; omega))) rfl rfl (.cur rfl (.cons rfl .nil)) rfl (fun ⟨_, _, _⟩ => rfl) (fun _ => rfl) (fun ⟨_, _, _⟩ => rfl) rfl rfl) ?_
          rintro ⟨⟨x125, i2126, h2127⟩, hq128⟩
          try dsimp only at hq128
          try dsimp only
          obtain ⟨q129, q130⟩ := hq128
          refine d_freezeB 9 (enc := encI) ([10, -6, 0, -1, -41]) rfl (.cons (.cons (.cons (.cons (.cons .nil))))) (frz_cur (i := 9) hM rfl rfl rfl) ?_
          refine d_onlyX 7 rfl (by kernel_rfl) rfl (o_callGM 0 11 12 (pv := some (v0)) (Go.Proofs.enters_of Try.func45 (by kernel_rfl) rfl) (c_spec_l1PickInt (((code))) ((i2126)) ((h2127)) ([10, -6, 0, -1, -41]) (by first | omega | assumption | (unfold okI; omega) | exact ⟨wr_lo _, wr_hi _⟩ | (simp only [List.length_cons, List.length_nil]; omega) | (rw [uni_len]; omega)) (by first | omega | assumption | (unfold okI; omega) | exact ⟨wr_lo _, wr_hi _⟩ | (simp only [List.length_cons, List.length_nil]; omega) | (rw [uni_len]; omega)) (by first | omega | assumption | (unfold okI; omega) | exact ⟨wr_lo _, wr_hi _⟩ | (simp only [List.length_cons, List.length_nil]; omega) | (rw [uni_len]; omega)) (by first | omega | assumption | (unfold okI; omega) | exact ⟨wr_lo _, wr_hi _⟩ | (simp only [List.length_cons, List.length_nil]; omega) | (rw [uni_len]; omega)) (by first | omega | assumption | (unfold okI; omega) | exact ⟨wr_lo _, wr_hi _⟩ | (simp only [List.length_cons, List.length_nil]; omega) | (rw [uni_len]; omega))) rfl rfl (.cur rfl (.cons rfl .nil)) rfl (fun ⟨_, _, _⟩ => rfl) (fun _ => rfl) (fun ⟨_, _, _⟩ => rfl) rfl rfl) ?_
          rintro ⟨⟨x131, i2132, h2133⟩, hq134⟩
          try dsimp only at hq134
          try dsimp only
          obtain ⟨q135, q136⟩ := hq134
          obtain ⟨z137, hz138, b139⟩ := at_get (xs := us) (n := (x125)) (by first | omega | assumption | (unfold okI; omega) | exact ⟨wr_lo _, wr_hi _⟩ | (simp only [List.length_cons, List.length_nil]; omega) | (rw [uni_len]; omega)) (by first | omega | assumption | (unfold okI; omega) | exact ⟨wr_lo _, wr_hi _⟩ | (simp only [List.length_cons, List.length_nil]; omega) | (rw [uni_len]; omega))
          refine d_take 8 rfl rfl (by kernel_rfl) (by kernel_rfl) (by kernel_rfl) (p_indexo (by kernel_rfl) rfl rfl rfl b139 (at_lt b139 hz138)) ?_
          refine d_only 9 rfl (by kernel_rfl) rfl (o_storeo ((x131)) (n := 1) (by kernel_rfl) rfl rfl hz138 rfl rfl rfl rfl (.cons .sc .nil) rfl (fun j h1 h2 => by simp at h1 h2; omega)) ?_
          refine d_end (by kernel_rfl) ?_
          refine t_seq ?_
          refine t_region ?_
          refine r_op (o_loadAb rfl (n := 1) (by kernel_rfl) (by kernel_rfl) rfl rfl rfl) ?_
          refine r_op (o_storeb (n := 1) (by kernel_rfl) rfl rfl rfl rfl rfl rfl) ?_
          refine r_end ?_
          refine gt_freeze 5 rfl (frz_cur (i := 5) hM rfl rfl rfl) ?_
          refine t_ret Try.func24 (.cells (n := 1) (by kernel_rfl) (by kernel_rfl) rfl rfl rfl .nil) rfl fun E S w u hI hd => ?_
          refine post_mkG (⟨(us).set ((x125)).toNat ((x131)), (i2132), (h2133)⟩) ?_ hI hd ?_ ⟨rfl, trivial⟩ rfl rfl <;> clear hI hd <;> (try clear ih0)
          · (try dsimp only) <;> (first | exact ⟨by omega, j3, by omega⟩ | (refine ⟨by (simp only [List.length_set]; omega), set_ok j3 ?_, by omega⟩; exact pick5 (by assumption)))
          · rfl
        ·
          rintro ⟨⟨x119, i2120, h2121⟩, hq122⟩
          try dsimp only at hq122
          try dsimp only
          obtain ⟨q123, q124⟩ := hq122
          refine d_freezeB 9 (enc := encI) ([10, -6, 0, -1, -41]) rfl (.cons (.cons (.cons (.cons (.cons .nil))))) (frz_cur (i := 9) hM rfl rfl rfl) ?_
          refine d_twoX 1 7 rfl rfl (by kernel_rfl) rfl rfl (osX (o_load1b rfl (by kernel_rfl) rfl rfl rfl)) (o_callGM 0 11 12 (pv := some (v0)) (Go.Proofs.enters_of Try.func45 (by kernel_rfl) rfl) (c_spec_l1PickInt (((code))) ((i2120)) ((h2121)) ([10, -6, 0, -1, -41]) (by first | omega | assumption | (unfold okI; omega) | exact ⟨wr_lo _, wr_hi _⟩ | (simp only [List.length_cons, List.length_nil]; omega) | (rw [uni_len]; omega)) (by first | omega | assumption | (unfold okI; omega) | exact ⟨wr_lo _, wr_hi _⟩ | (simp only [List.length_cons, List.length_nil]; omega) | (rw [uni_len]; omega)) (by first | omega | assumption | (unfold okI; omega) | exact ⟨wr_lo _, wr_hi _⟩ | (simp only [List.length_cons, List.length_nil]; omega) | (rw [uni_len]; omega)) (by first | omega | assumption | (unfold okI; omega) | exact ⟨wr_lo _, wr_hi _⟩ | (simp only [List.length_cons, List.length_nil]; omega) | (rw [uni_len]; omega)) (by first | omega | assumption | (unfold okI; omega) | exact ⟨wr_lo _, wr_hi _⟩ | (simp only [List.length_cons, List.length_nil]; omega) | (rw [uni_len]; omega))) rfl rfl (.cur rfl (.cons rfl .nil)) rfl (fun ⟨_, _, _⟩ => rfl) (fun _ => rfl) (fun ⟨_, _, _⟩ => rfl) rfl rfl) ?_ ?_
          ·
            rintro ⟨⟩
            refine d_onlyX 7 rfl (by kernel_rfl) rfl (o_callGM 0 11 12 (pv := some (v0)) (Go.Proofs.enters_of Try.func45 (by kernel_rfl) rfl) (c_spec_l1PickInt (((code))) ((i2120)) ((h2121)) ([10, -6, 0, -1, -41]) (by first | omega | assumption | (unfold okI; omega) | exact ⟨wr_lo _, wr_hi _⟩ | (simp only [List.length_cons, List.length_nil]; omega) | (rw [uni_len]; omega)) (by first | omega | assumption | (unfold okI; omega) | exact ⟨wr_lo _, wr_hi _⟩ | (simp only [List.length_cons, List.length_nil]; omega) | (rw [uni_len]; omega)) (by first | omega | assumption | (unfold okI; omega) | exact ⟨wr_lo _, wr_hi _⟩ | (simp only [List.length_cons, List.length_nil]; omega) | (rw [uni_len]; omega)) (by first | omega | assumption | (unfold okI; omega) | exact ⟨wr_lo _, wr_hi _⟩ | (simp only [List.length_cons, List.length_nil]; omega) | (rw [uni_len]; omega)) (by first | omega | assumption | (unfold okI; omega) | exact ⟨wr_lo _, wr_hi _⟩ | (simp only [List.length_cons, List.length_nil]; omega) | (rw [uni_len]; omega))) rfl rfl (.cur rfl (.cons rfl .nil)) rfl (fun ⟨_, _, _⟩ => rfl) (fun _ => rfl) (fun ⟨_, _, _⟩ => rfl) rfl rfl) ?_
            rintro ⟨⟨x146, i2147, h2148⟩, hq149⟩
            try dsimp only at hq149
            try dsimp only
            obtain ⟨q150, q151⟩ := hq149
            obtain ⟨z152, hz153, b154⟩ := at_get (xs := us) (n := (x119)) (by first | omega | assumption | (unfold okI; omega) | exact ⟨wr_lo _, wr_hi _⟩ | (simp only [List.length_cons, List.length_nil]; omega) | (rw [uni_len]; omega)) (by first | omega | assumption | (unfold okI; omega) | exact ⟨wr_lo _, wr_hi _⟩ | (simp only [List.length_cons, List.length_nil]; omega) | (rw [uni_len]; omega))
            refine d_take 8 rfl rfl (by kernel_rfl) (by kernel_rfl) (by kernel_rfl) (p_indexo (by kernel_rfl) rfl rfl rfl b154 (at_lt b154 hz153)) ?_
            refine d_only 9 rfl (by kernel_rfl) rfl (o_storeo ((x146)) (n := 1) (by kernel_rfl) rfl rfl hz153 rfl rfl rfl rfl (.cons .sc .nil) rfl (fun j h1 h2 => by simp at h1 h2; omega)) ?_
            refine d_end (by kernel_rfl) ?_
            refine t_seq ?_
            refine t_region ?_
            refine r_op (o_loadAb rfl (n := 1) (by kernel_rfl) (by kernel_rfl) rfl rfl rfl) ?_
            refine r_op (o_storeb (n := 1) (by kernel_rfl) rfl rfl rfl rfl rfl rfl) ?_
            refine r_end ?_
            refine gt_freeze 5 rfl (frz_cur (i := 5) hM rfl rfl rfl) ?_
            refine t_ret Try.func24 (.cells (n := 1) (by kernel_rfl) (by kernel_rfl) rfl rfl rfl .nil) rfl fun E S w u hI hd => ?_
            refine post_mkG (⟨(us).set ((x119)).toNat ((x146)), (i2147), (h2148)⟩) ?_ hI hd ?_ ⟨rfl, trivial⟩ rfl rfl <;> clear hI hd <;> (try clear ih0)
            · (try dsimp only) <;> (first | exact ⟨by omega, j3, by omega⟩ | (refine ⟨by (simp only [List.length_set]; omega), set_ok j3 ?_, by omega⟩; exact pick5 (by assumption)))
            · rfl
          ·
            rintro ⟨⟨x140, i2141, h2142⟩, hq143⟩
            try dsimp only at hq143
            try dsimp only
            obtain ⟨q144, q145⟩ := hq143
            refine d_take 1 rfl rfl (by kernel_rfl) (by kernel_rfl) (by kernel_rfl) (p_load1b (by kernel_rfl) rfl rfl rfl) ?_
            obtain ⟨z155, hz156, b157⟩ := at_get (xs := us) (n := (x119)) (by first | omega | assumption | (unfold okI; omega) | exact ⟨wr_lo _, wr_hi _⟩ | (simp only [List.length_cons, List.length_nil]; omega) | (rw [uni_len]; omega)) (by first | omega | assumption | (unfold okI; omega) | exact ⟨wr_lo _, wr_hi _⟩ | (simp only [List.length_cons, List.length_nil]; omega) | (rw [uni_len]; omega))
            refine d_take 8 rfl rfl (by kernel_rfl) (by kernel_rfl) (by kernel_rfl) (p_indexo (by kernel_rfl) rfl rfl rfl b157 (at_lt b157 hz156)) ?_
            refine d_only 9 rfl (by kernel_rfl) rfl (o_storeo ((x140)) (n := 1) (by kernel_rfl) rfl rfl hz156 rfl rfl rfl rfl (.cons .sc .nil) rfl (fun j h1 h2 => by simp at h1 h2; omega)) ?_
            refine d_end (by kernel_rfl) ?_
            refine t_seq ?_
            refine t_region ?_
            refine r_op (o_loadAb rfl (n := 1) (by kernel_rfl) (by kernel_rfl) rfl rfl rfl) ?_
            refine r_op (o_storeb (n := 1) (by kernel_rfl) rfl rfl rfl rfl rfl rfl) ?_
            refine r_end ?_
            refine gt_freeze 5 rfl (frz_cur (i := 5) hM rfl rfl rfl) ?_
            refine t_ret Try.func24 (.cells (n := 1) (by kernel_rfl) (by kernel_rfl) rfl rfl rfl .nil) rfl fun E S w u hI hd => ?_
            refine post_mkG (⟨(us).set ((x119)).toNat ((x140)), (i2141), (h2142)⟩) ?_ hI hd ?_ ⟨rfl, trivial⟩ rfl rfl <;> clear hI hd <;> (try clear ih0)
            · (try dsimp only) <;> (first | exact ⟨by omega, j3, by omega⟩ | (refine ⟨by (simp only [List.length_set]; omega), set_ok j3 ?_, by omega⟩; exact pick5 (by assumption)))
            · rfl
    ·
      have h55' := h55
      refine t_skip ?_
      refine t_seq ?_
      refine t_region ?_
      refine r_op (o_loadAb rfl (n := 1) (by kernel_rfl) (by kernel_rfl) rfl rfl rfl) ?_
      refine r_op (o_storeb (n := 1) (by kernel_rfl) rfl rfl rfl rfl rfl rfl) ?_
      refine r_end ?_
      refine gt_freeze 5 rfl (frz_cur (i := 5) hM rfl rfl rfl) ?_
      refine t_ret Try.func24 (.cells (n := 1) (by kernel_rfl) (by kernel_rfl) rfl rfl rfl .nil) rfl fun E S w u hI hd => ?_
      refine post_mkG (⟨us, (i251), (h252)⟩) ?_ hI hd ?_ ⟨rfl, trivial⟩ rfl rfl <;> clear hI hd <;> (try clear ih0)
      · (try dsimp only) <;> (first | exact ⟨by omega, j3, by omega⟩ | (refine ⟨by (simp only [List.length_set]; omega), set_ok j3 ?_, by omega⟩; exact pick5 (by assumption)))
      · rfl
set_option maxHeartbeats 1000000 in
set_option maxRecDepth 10000 in
theorem c_spec_DrawUnion (code : List Int) (hc : code.length ≤ 1048576) : PuG Try.prog 14 [.c (.t none (.sl 1 encU (code)))] (fun (⟨us, a, b⟩ : (List Int) × Int × Int) => (1 ≤ us.length ∧ us.length ≤ 6) ∧ (∀ x ∈ us, okI x) ∧ okI a ∧ okI b) (fun (⟨us, a, b⟩ : (List Int) × Int × Int) => []) 0 (fun (⟨us, a, b⟩ : (List Int) × Int × Int) => .tup [(true, [.t none (.sl 1 encI (us))]), (false, [.t none (.v (.int .i64 (a)))]), (false, [.t none (.v (.int .i64 (b)))])]) := by
  refine pu_enterG Try.func14 rfl (Nat.le_of_ble_eq_true rfl) fun w S => ?_
  refine t_seq ?_
  refine t_region ?_
  refine r_op (o_alloc 0 (zs := [.slice none 0 0]) rfl rfl (by kernel_rfl) rfl) ?_
  refine r_op (o_assign rfl rfl) ?_
  refine r_op (o_assign rfl rfl) ?_
  refine r_end ?_
  refine t_seq ?_
  refine t_region ?_
  refine r_op (o_move rfl rfl) ?_
  refine r_opX (o_callG 1 2 (Go.Proofs.enters_of Try.func25 (by kernel_rfl) rfl) (c_spec_l1New (code) (by first | omega | assumption | (unfold okI; omega) | (rw [uni_len]; omega))) rfl (.cons rfl (.c .t0) .nil) rfl rfl) ?_
  rintro ⟨h1, hq2⟩
  try dsimp only at hq2
  try dsimp only
  refine r_op (o_assign rfl rfl) ?_
  refine r_end ?_
  refine t_seq ?_
  refine t_region ?_
  refine r_op (o_move rfl rfl) ?_
  refine r_opX (o_callGM 1 2 3 (pv := none) (Go.Proofs.enters_of Try.func24 (by kernel_rfl) rfl) (c_spec_l8Uf ((code)) (0) ((h1)) (by first | omega | assumption | (unfold okI; omega) | (rw [uni_len]; omega)) (by first | omega | assumption | (unfold okI; omega) | (rw [uni_len]; omega)) (by first | omega | assumption | (unfold okI; omega) | (rw [uni_len]; omega))) rfl rfl (.cur rfl .nil) rfl (fun ⟨_, _, _⟩ => rfl) (fun _ => rfl) (fun ⟨_, _, _⟩ => rfl) rfl rfl) ?_
  rintro ⟨⟨us4, i25, h26⟩, hq7⟩
  try dsimp only at hq7
  try dsimp only
  obtain ⟨q8, q9, q10⟩ := hq7
  refine r_op (o_alloc 3 (zs := [.slice none 0 0]) rfl rfl (by kernel_rfl) rfl) ?_
  refine r_op (o_storeb (n := 1) (by kernel_rfl) rfl rfl rfl rfl rfl rfl) ?_
  refine r_end ?_
  refine t_seq ?_
  refine t_draw (fun i => !(Nat.beq i 2 || Nat.beq i 7 || Nat.beq i 8)) (by kernel_rfl) ?_
  refine d_take 1 rfl rfl (by kernel_rfl) (by kernel_rfl) (by kernel_rfl) (p_move rfl) ?_
  refine d_takeP 3 rfl rfl (by kernel_rfl) (by kernel_rfl) (by kernel_rfl) (pw_move rfl) ?_
  refine d_takeP 4 rfl rfl (by kernel_rfl) (by kernel_rfl) (by kernel_rfl) (pw_fieldb (off := 0) (by kernel_rfl) rfl) ?_
  refine d_threeX 0 2 5 rfl rfl rfl (by kernel_rfl) rfl rfl rfl (osX (o_loadAb rfl (n := 1) (by kernel_rfl) (by kernel_rfl) rfl rfl rfl)) (o_callGM 1 4 5 (pv := none) (Go.Proofs.enters_of Try.func33 (by kernel_rfl) rfl) (c_spec_l4Value (((code))) ((i25)) ((h26)) (7) (by first | omega | assumption | (unfold okI; omega) | (rw [uni_len]; omega)) (by first | omega | assumption | (unfold okI; omega) | (rw [uni_len]; omega)) (by first | omega | assumption | (unfold okI; omega) | (rw [uni_len]; omega)) (by first | omega | assumption | (unfold okI; omega) | (rw [uni_len]; omega)) (by first | omega | assumption | (unfold okI; omega) | (rw [uni_len]; omega))) rfl rfl (.cur rfl (.cons rfl .nil)) rfl (fun ⟨_, _, _⟩ => rfl) (fun _ => rfl) (fun ⟨_, _, _⟩ => rfl) rfl rfl) (osX (o_load1b rfl (by kernel_rfl) rfl rfl rfl)) ?_ ?_ ?_
  ·
    rintro ⟨⟩
    refine d_twoX 2 5 rfl rfl (by kernel_rfl) rfl rfl (o_callGM 1 4 5 (pv := none) (Go.Proofs.enters_of Try.func33 (by kernel_rfl) rfl) (c_spec_l4Value (((code))) ((i25)) ((h26)) (7) (by first | omega | assumption | (unfold okI; omega) | (rw [uni_len]; omega)) (by first | omega | assumption | (unfold okI; omega) | (rw [uni_len]; omega)) (by first | omega | assumption | (unfold okI; omega) | (rw [uni_len]; omega)) (by first | omega | assumption | (unfold okI; omega) | (rw [uni_len]; omega)) (by first | omega | assumption | (unfold okI; omega) | (rw [uni_len]; omega))) rfl rfl (.cur rfl (.cons rfl .nil)) rfl (fun ⟨_, _, _⟩ => rfl) (fun _ => rfl) (fun ⟨_, _, _⟩ => rfl) rfl rfl) (osX (o_load1b rfl (by kernel_rfl) rfl rfl rfl)) ?_ ?_
    ·
      rintro ⟨⟨x17, i218, h219⟩, hq20⟩
      try dsimp only at hq20
      try dsimp only
      obtain ⟨q21, q22⟩ := hq20
      refine d_take 5 rfl rfl (by kernel_rfl) (by kernel_rfl) (by kernel_rfl) (p_load1b (by kernel_rfl) rfl rfl rfl) ?_
      refine d_take 6 rfl rfl (by kernel_rfl) (by kernel_rfl) (by kernel_rfl) (p_len rfl rfl) ?_
      refine d_onlyX 7 rfl (by kernel_rfl) rfl (o_callGM 1 5 6 (pv := none) (Go.Proofs.enters_of Try.func33 (by kernel_rfl) rfl) (c_spec_l4Value ((((code)))) ((i218)) ((h219)) ((((us4)).length : Int)) (by first | omega | assumption | (unfold okI; omega) | (rw [uni_len]; omega)) (by first | omega | assumption | (unfold okI; omega) | (rw [uni_len]; omega)) (by first | omega | assumption | (unfold okI; omega) | (rw [uni_len]; omega)) (by first | omega | assumption | (unfold okI; omega) | (rw [uni_len]; omega)) (by first | omega | assumption | (unfold okI; omega) | (rw [uni_len]; omega))) rfl rfl (.cur rfl (.cons rfl .nil)) rfl (fun ⟨_, _, _⟩ => rfl) (fun _ => rfl) (fun ⟨_, _, _⟩ => rfl) rfl rfl) ?_
      rintro ⟨⟨x23, i224, h225⟩, hq26⟩
      try dsimp only at hq26
      try dsimp only
      obtain ⟨q27, q28⟩ := hq26
      refine d_only 8 rfl (by kernel_rfl) rfl (o_storeb (n := 1) (by kernel_rfl) rfl rfl rfl rfl rfl rfl) ?_
      refine d_take 9 rfl rfl (by kernel_rfl) (by kernel_rfl) (by kernel_rfl) (p_assign rfl) ?_
      refine d_take 10 rfl rfl (by kernel_rfl) (by kernel_rfl) (by kernel_rfl) (p_assign rfl) ?_
      refine d_end (by kernel_rfl) ?_
      refine t_ret Try.func14 (.cells (n := 1) (by kernel_rfl) (by kernel_rfl) rfl rfl rfl (.tmp rfl (.tmp rfl .nil))) rfl fun E S w u hI hd => ?_
      refine post_mkG (⟨(us4), (x17), (x23)⟩) ?_ hI hd ?_ trivial rfl rfl <;> clear hI hd
      · (try dsimp only) <;> (exact ⟨by omega, by assumption, by unfold okI; omega, by unfold okI; omega⟩)
      · rfl
    ·
      rintro ⟨⟩
      refine d_twoX 2 6 rfl rfl (by kernel_rfl) rfl rfl (o_callGM 1 4 5 (pv := none) (Go.Proofs.enters_of Try.func33 (by kernel_rfl) rfl) (c_spec_l4Value (((code))) ((i25)) ((h26)) (7) (by first | omega | assumption | (unfold okI; omega) | (rw [uni_len]; omega)) (by first | omega | assumption | (unfold okI; omega) | (rw [uni_len]; omega)) (by first | omega | assumption | (unfold okI; omega) | (rw [uni_len]; omega)) (by first | omega | assumption | (unfold okI; omega) | (rw [uni_len]; omega)) (by first | omega | assumption | (unfold okI; omega) | (rw [uni_len]; omega))) rfl rfl (.cur rfl (.cons rfl .nil)) rfl (fun ⟨_, _, _⟩ => rfl) (fun _ => rfl) (fun ⟨_, _, _⟩ => rfl) rfl rfl) (osX (o_len rfl rfl rfl)) ?_ ?_
      ·
        rintro ⟨⟨x29, i230, h231⟩, hq32⟩
        try dsimp only at hq32
        try dsimp only
        obtain ⟨q33, q34⟩ := hq32
        refine d_take 6 rfl rfl (by kernel_rfl) (by kernel_rfl) (by kernel_rfl) (p_len rfl rfl) ?_
        refine d_onlyX 7 rfl (by kernel_rfl) rfl (o_callGM 1 5 6 (pv := none) (Go.Proofs.enters_of Try.func33 (by kernel_rfl) rfl) (c_spec_l4Value ((((code)))) ((i230)) ((h231)) ((((us4)).length : Int)) (by first | omega | assumption | (unfold okI; omega) | (rw [uni_len]; omega)) (by first | omega | assumption | (unfold okI; omega) | (rw [uni_len]; omega)) (by first | omega | assumption | (unfold okI; omega) | (rw [uni_len]; omega)) (by first | omega | assumption | (unfold okI; omega) | (rw [uni_len]; omega)) (by first | omega | assumption | (unfold okI; omega) | (rw [uni_len]; omega))) rfl rfl (.cur rfl (.cons rfl .nil)) rfl (fun ⟨_, _, _⟩ => rfl) (fun _ => rfl) (fun ⟨_, _, _⟩ => rfl) rfl rfl) ?_
        rintro ⟨⟨x35, i236, h237⟩, hq38⟩
        try dsimp only at hq38
        try dsimp only
        obtain ⟨q39, q40⟩ := hq38
        refine d_only 8 rfl (by kernel_rfl) rfl (o_storeb (n := 1) (by kernel_rfl) rfl rfl rfl rfl rfl rfl) ?_
        refine d_take 9 rfl rfl (by kernel_rfl) (by kernel_rfl) (by kernel_rfl) (p_assign rfl) ?_
        refine d_take 10 rfl rfl (by kernel_rfl) (by kernel_rfl) (by kernel_rfl) (p_assign rfl) ?_
        refine d_end (by kernel_rfl) ?_
        refine t_ret Try.func14 (.cells (n := 1) (by kernel_rfl) (by kernel_rfl) rfl rfl rfl (.tmp rfl (.tmp rfl .nil))) rfl fun E S w u hI hd => ?_
        refine post_mkG (⟨(us4), (x29), (x35)⟩) ?_ hI hd ?_ trivial rfl rfl <;> clear hI hd
        · (try dsimp only) <;> (exact ⟨by omega, by assumption, by unfold okI; omega, by unfold okI; omega⟩)
        · rfl
      ·
        rintro ⟨⟩
        refine d_onlyX 2 rfl (by kernel_rfl) rfl (o_callGM 1 4 5 (pv := none) (Go.Proofs.enters_of Try.func33 (by kernel_rfl) rfl) (c_spec_l4Value (((code))) ((i25)) ((h26)) (7) (by first | omega | assumption | (unfold okI; omega) | (rw [uni_len]; omega)) (by first | omega | assumption | (unfold okI; omega) | (rw [uni_len]; omega)) (by first | omega | assumption | (unfold okI; omega) | (rw [uni_len]; omega)) (by first | omega | assumption | (unfold okI; omega) | (rw [uni_len]; omega)) (by first | omega | assumption | (unfold okI; omega) | (rw [uni_len]; omega))) rfl rfl (.cur rfl (.cons rfl .nil)) rfl (fun ⟨_, _, _⟩ => rfl) (fun _ => rfl) (fun ⟨_, _, _⟩ => rfl) rfl rfl) ?_
        rintro ⟨⟨x41, i242, h243⟩, hq44⟩
        try dsimp only at hq44
        try dsimp only
        obtain ⟨q45, q46⟩ := hq44
        refine d_onlyX 7 rfl (by kernel_rfl) rfl (o_callGM 1 5 6 (pv := none) (Go.Proofs.enters_of Try.func33 (by kernel_rfl) rfl) (c_spec_l4Value ((((code)))) ((i242)) ((h243)) ((((us4)).length : Int)) (by first | omega | assumption | (unfold okI; omega) | (rw [uni_len]; omega)) (by first | omega | assumption | (unfold okI; omega) | (rw [uni_len]; omega)) (by first | omega | assumption | (unfold okI; omega) | (rw [uni_len]; omega)) (by first | omega | assumption | (unfold okI; omega) | (rw [uni_len]; omega)) (by first | omega | assumption | (unfold okI; omega) | (rw [uni_len]; omega))) rfl rfl (.cur rfl (.cons rfl .nil)) rfl (fun ⟨_, _, _⟩ => rfl) (fun _ => rfl) (fun ⟨_, _, _⟩ => rfl) rfl rfl) ?_
        rintro ⟨⟨x47, i248, h249⟩, hq50⟩
        try dsimp only at hq50
        try dsimp only
        obtain ⟨q51, q52⟩ := hq50
        refine d_only 8 rfl (by kernel_rfl) rfl (o_storeb (n := 1) (by kernel_rfl) rfl rfl rfl rfl rfl rfl) ?_
        refine d_take 9 rfl rfl (by kernel_rfl) (by kernel_rfl) (by kernel_rfl) (p_assign rfl) ?_
        refine d_take 10 rfl rfl (by kernel_rfl) (by kernel_rfl) (by kernel_rfl) (p_assign rfl) ?_
        refine d_end (by kernel_rfl) ?_
        refine t_ret Try.func14 (.cells (n := 1) (by kernel_rfl) (by kernel_rfl) rfl rfl rfl (.tmp rfl (.tmp rfl .nil))) rfl fun E S w u hI hd => ?_
        refine post_mkG (⟨(us4), (x41), (x47)⟩) ?_ hI hd ?_ trivial rfl rfl <;> clear hI hd
        · (try dsimp only) <;> (exact ⟨by omega, by assumption, by unfold okI; omega, by unfold okI; omega⟩)
        · rfl
  ·
    rintro ⟨⟨x11, i212, h213⟩, hq14⟩
    try dsimp only at hq14
    try dsimp only
    obtain ⟨q15, q16⟩ := hq14
    refine d_take 5 rfl rfl (by kernel_rfl) (by kernel_rfl) (by kernel_rfl) (p_load1b (by kernel_rfl) rfl rfl rfl) ?_
    refine d_take 6 rfl rfl (by kernel_rfl) (by kernel_rfl) (by kernel_rfl) (p_len rfl rfl) ?_
    refine d_twoX 0 7 rfl rfl (by kernel_rfl) rfl rfl (osX (o_loadAb rfl (n := 1) (by kernel_rfl) (by kernel_rfl) rfl rfl rfl)) (o_callGM 1 5 6 (pv := none) (Go.Proofs.enters_of Try.func33 (by kernel_rfl) rfl) (c_spec_l4Value ((((code)))) ((i212)) ((h213)) ((((us4)).length : Int)) (by first | omega | assumption | (unfold okI; omega) | (rw [uni_len]; omega)) (by first | omega | assumption | (unfold okI; omega) | (rw [uni_len]; omega)) (by first | omega | assumption | (unfold okI; omega) | (rw [uni_len]; omega)) (by first | omega | assumption | (unfold okI; omega) | (rw [uni_len]; omega)) (by first | omega | assumption | (unfold okI; omega) | (rw [uni_len]; omega))) rfl rfl (.cur rfl (.cons rfl .nil)) rfl (fun ⟨_, _, _⟩ => rfl) (fun _ => rfl) (fun ⟨_, _, _⟩ => rfl) rfl rfl) ?_ ?_
    ·
      rintro ⟨⟩
      refine d_onlyX 7 rfl (by kernel_rfl) rfl (o_callGM 1 5 6 (pv := none) (Go.Proofs.enters_of Try.func33 (by kernel_rfl) rfl) (c_spec_l4Value ((((code)))) ((i212)) ((h213)) ((((us4)).length : Int)) (by first | omega | assumption | (unfold okI; omega) | (rw [uni_len]; omega)) (by first | omega | assumption | (unfold okI; omega) | (rw [uni_len]; omega)) (by first | omega | assumption | (unfold okI; omega) | (rw [uni_len]; omega)) (by first | omega | assumption | (unfold okI; omega) | (rw [uni_len]; omega)) (by first | omega | assumption | (unfold okI; omega) | (rw [uni_len]; omega))) rfl rfl (.cur rfl (.cons rfl .nil)) rfl (fun ⟨_, _, _⟩ => rfl) (fun _ => rfl) (fun ⟨_, _, _⟩ => rfl) rfl rfl) ?_
      rintro ⟨⟨x59, i260, h261⟩, hq62⟩
      try dsimp only at hq62
      try dsimp only
      obtain ⟨q63, q64⟩ := hq62
      refine d_only 8 rfl (by kernel_rfl) rfl (o_storeb (n := 1) (by kernel_rfl) rfl rfl rfl rfl rfl rfl) ?_
      refine d_take 9 rfl rfl (by kernel_rfl) (by kernel_rfl) (by kernel_rfl) (p_assign rfl) ?_
      refine d_take 10 rfl rfl (by kernel_rfl) (by kernel_rfl) (by kernel_rfl) (p_assign rfl) ?_
      refine d_end (by kernel_rfl) ?_
      refine t_ret Try.func14 (.cells (n := 1) (by kernel_rfl) (by kernel_rfl) rfl rfl rfl (.tmp rfl (.tmp rfl .nil))) rfl fun E S w u hI hd => ?_
      refine post_mkG (⟨(us4), (x11), (x59)⟩) ?_ hI hd ?_ trivial rfl rfl <;> clear hI hd
      · (try dsimp only) <;> (exact ⟨by omega, by assumption, by unfold okI; omega, by unfold okI; omega⟩)
      · rfl
    ·
      rintro ⟨⟨x53, i254, h255⟩, hq56⟩
      try dsimp only at hq56
      try dsimp only
      obtain ⟨q57, q58⟩ := hq56
      refine d_take 0 rfl rfl (by kernel_rfl) (by kernel_rfl) (by kernel_rfl) (p_loadAb (n := 1) (by kernel_rfl) (by kernel_rfl) rfl rfl rfl) ?_
      refine d_only 8 rfl (by kernel_rfl) rfl (o_storeb (n := 1) (by kernel_rfl) rfl rfl rfl rfl rfl rfl) ?_
      refine d_take 9 rfl rfl (by kernel_rfl) (by kernel_rfl) (by kernel_rfl) (p_assign rfl) ?_
      refine d_take 10 rfl rfl (by kernel_rfl) (by kernel_rfl) (by kernel_rfl) (p_assign rfl) ?_
      refine d_end (by kernel_rfl) ?_
      refine t_ret Try.func14 (.cells (n := 1) (by kernel_rfl) (by kernel_rfl) rfl rfl rfl (.tmp rfl (.tmp rfl .nil))) rfl fun E S w u hI hd => ?_
      refine post_mkG (⟨(us4), (x11), (x53)⟩) ?_ hI hd ?_ trivial rfl rfl <;> clear hI hd
      · (try dsimp only) <;> (exact ⟨by omega, by assumption, by unfold okI; omega, by unfold okI; omega⟩)
      · rfl
  ·
    rintro ⟨⟩
    refine d_threeX 0 2 6 rfl rfl rfl (by kernel_rfl) rfl rfl rfl (osX (o_loadAb rfl (n := 1) (by kernel_rfl) (by kernel_rfl) rfl rfl rfl)) (o_callGM 1 4 5 (pv := none) (Go.Proofs.enters_of Try.func33 (by kernel_rfl) rfl) (c_spec_l4Value (((code))) ((i25)) ((h26)) (7) (by first | omega | assumption | (unfold okI; omega) | (rw [uni_len]; omega)) (by first | omega | assumption | (unfold okI; omega) | (rw [uni_len]; omega)) (by first | omega | assumption | (unfold okI; omega) | (rw [uni_len]; omega)) (by first | omega | assumption | (unfold okI; omega) | (rw [uni_len]; omega)) (by first | omega | assumption | (unfold okI; omega) | (rw [uni_len]; omega))) rfl rfl (.cur rfl (.cons rfl .nil)) rfl (fun ⟨_, _, _⟩ => rfl) (fun _ => rfl) (fun ⟨_, _, _⟩ => rfl) rfl rfl) (osX (o_len rfl rfl rfl)) ?_ ?_ ?_
    ·
      rintro ⟨⟩
      refine d_twoX 2 6 rfl rfl (by kernel_rfl) rfl rfl (o_callGM 1 4 5 (pv := none) (Go.Proofs.enters_of Try.func33 (by kernel_rfl) rfl) (c_spec_l4Value (((code))) ((i25)) ((h26)) (7) (by first | omega | assumption | (unfold okI; omega) | (rw [uni_len]; omega)) (by first | omega | assumption | (unfold okI; omega) | (rw [uni_len]; omega)) (by first | omega | assumption | (unfold okI; omega) | (rw [uni_len]; omega)) (by first | omega | assumption | (unfold okI; omega) | (rw [uni_len]; omega)) (by first | omega | assumption | (unfold okI; omega) | (rw [uni_len]; omega))) rfl rfl (.cur rfl (.cons rfl .nil)) rfl (fun ⟨_, _, _⟩ => rfl) (fun _ => rfl) (fun ⟨_, _, _⟩ => rfl) rfl rfl) (osX (o_len rfl rfl rfl)) ?_ ?_
      ·
        rintro ⟨⟨x71, i272, h273⟩, hq74⟩
        try dsimp only at hq74
        try dsimp only
        obtain ⟨q75, q76⟩ := hq74
        refine d_take 6 rfl rfl (by kernel_rfl) (by kernel_rfl) (by kernel_rfl) (p_len rfl rfl) ?_
        refine d_onlyX 7 rfl (by kernel_rfl) rfl (o_callGM 1 5 6 (pv := none) (Go.Proofs.enters_of Try.func33 (by kernel_rfl) rfl) (c_spec_l4Value ((((code)))) ((i272)) ((h273)) ((((us4)).length : Int)) (by first | omega | assumption | (unfold okI; omega) | (rw [uni_len]; omega)) (by first | omega | assumption | (unfold okI; omega) | (rw [uni_len]; omega)) (by first | omega | assumption | (unfold okI; omega) | (rw [uni_len]; omega)) (by first | omega | assumption | (unfold okI; omega) | (rw [uni_len]; omega)) (by first | omega | assumption | (unfold okI; omega) | (rw [uni_len]; omega))) rfl rfl (.cur rfl (.cons rfl .nil)) rfl (fun ⟨_, _, _⟩ => rfl) (fun _ => rfl) (fun ⟨_, _, _⟩ => rfl) rfl rfl) ?_
        rintro ⟨⟨x77, i278, h279⟩, hq80⟩
        try dsimp only at hq80
        try dsimp only
        obtain ⟨q81, q82⟩ := hq80
        refine d_only 8 rfl (by kernel_rfl) rfl (o_storeb (n := 1) (by kernel_rfl) rfl rfl rfl rfl rfl rfl) ?_
        refine d_take 9 rfl rfl (by kernel_rfl) (by kernel_rfl) (by kernel_rfl) (p_assign rfl) ?_
        refine d_take 10 rfl rfl (by kernel_rfl) (by kernel_rfl) (by kernel_rfl) (p_assign rfl) ?_
        refine d_end (by kernel_rfl) ?_
        refine t_ret Try.func14 (.cells (n := 1) (by kernel_rfl) (by kernel_rfl) rfl rfl rfl (.tmp rfl (.tmp rfl .nil))) rfl fun E S w u hI hd => ?_
        refine post_mkG (⟨(us4), (x71), (x77)⟩) ?_ hI hd ?_ trivial rfl rfl <;> clear hI hd
        · (try dsimp only) <;> (exact ⟨by omega, by assumption, by unfold okI; omega, by unfold okI; omega⟩)
        · rfl
      ·
        rintro ⟨⟩
        refine d_onlyX 2 rfl (by kernel_rfl) rfl (o_callGM 1 4 5 (pv := none) (Go.Proofs.enters_of Try.func33 (by kernel_rfl) rfl) (c_spec_l4Value (((code))) ((i25)) ((h26)) (7) (by first | omega | assumption | (unfold okI; omega) | (rw [uni_len]; omega)) (by first | omega | assumption | (unfold okI; omega) | (rw [uni_len]; omega)) (by first | omega | assumption | (unfold okI; omega) | (rw [uni_len]; omega)) (by first | omega | assumption | (unfold okI; omega) | (rw [uni_len]; omega)) (by first | omega | assumption | (unfold okI; omega) | (rw [uni_len]; omega))) rfl rfl (.cur rfl (.cons rfl .nil)) rfl (fun ⟨_, _, _⟩ => rfl) (fun _ => rfl) (fun ⟨_, _, _⟩ => rfl) rfl rfl) ?_
        rintro ⟨⟨x83, i284, h285⟩, hq86⟩
        try dsimp only at hq86
        try dsimp only
        obtain ⟨q87, q88⟩ := hq86
        refine d_onlyX 7 rfl (by kernel_rfl) rfl (o_callGM 1 5 6 (pv := none) (Go.Proofs.enters_of Try.func33 (by kernel_rfl) rfl) (c_spec_l4Value ((((code)))) ((i284)) ((h285)) ((((us4)).length : Int)) (by first | omega | assumption | (unfold okI; omega) | (rw [uni_len]; omega)) (by first | omega | assumption | (unfold okI; omega) | (rw [uni_len]; omega)) (by first | omega | assumption | (unfold okI; omega) | (rw [uni_len]; omega)) (by first | omega | assumption | (unfold okI; omega) | (rw [uni_len]; omega)) (by first | omega | assumption | (unfold okI; omega) | (rw [uni_len]; omega))) rfl rfl (.cur rfl (.cons rfl .nil)) rfl (fun ⟨_, _, _⟩ => rfl) (fun _ => rfl) (fun ⟨_, _, _⟩ => rfl) rfl rfl) ?_
        rintro ⟨⟨x89, i290, h291⟩, hq92⟩
        try dsimp only at hq92
        try dsimp only
        obtain ⟨q93, q94⟩ := hq92
        refine d_only 8 rfl (by kernel_rfl) rfl (o_storeb (n := 1) (by kernel_rfl) rfl rfl rfl rfl rfl rfl) ?_
        refine d_take 9 rfl rfl (by kernel_rfl) (by kernel_rfl) (by kernel_rfl) (p_assign rfl) ?_
        refine d_take 10 rfl rfl (by kernel_rfl) (by kernel_rfl) (by kernel_rfl) (p_assign rfl) ?_
        refine d_end (by kernel_rfl) ?_
        refine t_ret Try.func14 (.cells (n := 1) (by kernel_rfl) (by kernel_rfl) rfl rfl rfl (.tmp rfl (.tmp rfl .nil))) rfl fun E S w u hI hd => ?_
        refine post_mkG (⟨(us4), (x83), (x89)⟩) ?_ hI hd ?_ trivial rfl rfl <;> clear hI hd
        · (try dsimp only) <;> (exact ⟨by omega, by assumption, by unfold okI; omega, by unfold okI; omega⟩)
        · rfl
    ·
      rintro ⟨⟨x65, i266, h267⟩, hq68⟩
      try dsimp only at hq68
      try dsimp only
      obtain ⟨q69, q70⟩ := hq68
      refine d_take 6 rfl rfl (by kernel_rfl) (by kernel_rfl) (by kernel_rfl) (p_len rfl rfl) ?_
      refine d_twoX 0 7 rfl rfl (by kernel_rfl) rfl rfl (osX (o_loadAb rfl (n := 1) (by kernel_rfl) (by kernel_rfl) rfl rfl rfl)) (o_callGM 1 5 6 (pv := none) (Go.Proofs.enters_of Try.func33 (by kernel_rfl) rfl) (c_spec_l4Value ((((code)))) ((i266)) ((h267)) ((((us4)).length : Int)) (by first | omega | assumption | (unfold okI; omega) | (rw [uni_len]; omega)) (by first | omega | assumption | (unfold okI; omega) | (rw [uni_len]; omega)) (by first | omega | assumption | (unfold okI; omega) | (rw [uni_len]; omega)) (by first | omega | assumption | (unfold okI; omega) | (rw [uni_len]; omega)) (by first | omega | assumption | (unfold okI; omega) | (rw [uni_len]; omega))) rfl rfl (.cur rfl (.cons rfl .nil)) rfl (fun ⟨_, _, _⟩ => rfl) (fun _ => rfl) (fun ⟨_, _, _⟩ => rfl) rfl rfl) ?_ ?_
      ·
        rintro ⟨⟩
        refine d_onlyX 7 rfl (by kernel_rfl) rfl (o_callGM 1 5 6 (pv := none) (Go.Proofs.enters_of Try.func33 (by kernel_rfl) rfl) (c_spec_l4Value ((((code)))) ((i266)) ((h267)) ((((us4)).length : Int)) (by first | omega | assumption | (unfold okI; omega) | (rw [uni_len]; omega)) (by first | omega | assumption | (unfold okI; omega) | (rw [uni_len]; omega)) (by first | omega | assumption | (unfold okI; omega) | (rw [uni_len]; omega)) (by first | omega | assumption | (unfold okI; omega) | (rw [uni_len]; omega)) (by first | omega | assumption | (unfold okI; omega) | (rw [uni_len]; omega))) rfl rfl (.cur rfl (.cons rfl .nil)) rfl (fun ⟨_, _, _⟩ => rfl) (fun _ => rfl) (fun ⟨_, _, _⟩ => rfl) rfl rfl) ?_
        rintro ⟨⟨x101, i2102, h2103⟩, hq104⟩
        try dsimp only at hq104
        try dsimp only
        obtain ⟨q105, q106⟩ := hq104
        refine d_only 8 rfl (by kernel_rfl) rfl (o_storeb (n := 1) (by kernel_rfl) rfl rfl rfl rfl rfl rfl) ?_
        refine d_take 9 rfl rfl (by kernel_rfl) (by kernel_rfl) (by kernel_rfl) (p_assign rfl) ?_
        refine d_take 10 rfl rfl (by kernel_rfl) (by kernel_rfl) (by kernel_rfl) (p_assign rfl) ?_
        refine d_end (by kernel_rfl) ?_
        refine t_ret Try.func14 (.cells (n := 1) (by kernel_rfl) (by kernel_rfl) rfl rfl rfl (.tmp rfl (.tmp rfl .nil))) rfl fun E S w u hI hd => ?_
        refine post_mkG (⟨(us4), (x65), (x101)⟩) ?_ hI hd ?_ trivial rfl rfl <;> clear hI hd
        · (try dsimp only) <;> (exact ⟨by omega, by assumption, by unfold okI; omega, by unfold okI; omega⟩)
        · rfl
      ·
        rintro ⟨⟨x95, i296, h297⟩, hq98⟩
        try dsimp only at hq98
        try dsimp only
        obtain ⟨q99, q100⟩ := hq98
        refine d_take 0 rfl rfl (by kernel_rfl) (by kernel_rfl) (by kernel_rfl) (p_loadAb (n := 1) (by kernel_rfl) (by kernel_rfl) rfl rfl rfl) ?_
        refine d_only 8 rfl (by kernel_rfl) rfl (o_storeb (n := 1) (by kernel_rfl) rfl rfl rfl rfl rfl rfl) ?_
        refine d_take 9 rfl rfl (by kernel_rfl) (by kernel_rfl) (by kernel_rfl) (p_assign rfl) ?_
        refine d_take 10 rfl rfl (by kernel_rfl) (by kernel_rfl) (by kernel_rfl) (p_assign rfl) ?_
        refine d_end (by kernel_rfl) ?_
        refine t_ret Try.func14 (.cells (n := 1) (by kernel_rfl) (by kernel_rfl) rfl rfl rfl (.tmp rfl (.tmp rfl .nil))) rfl fun E S w u hI hd => ?_
        refine post_mkG (⟨(us4), (x65), (x95)⟩) ?_ hI hd ?_ trivial rfl rfl <;> clear hI hd
        · (try dsimp only) <;> (exact ⟨by omega, by assumption, by unfold okI; omega, by unfold okI; omega⟩)
        · rfl
    ·
      rintro ⟨⟩
      refine d_twoX 0 2 rfl rfl (by kernel_rfl) rfl rfl (osX (o_loadAb rfl (n := 1) (by kernel_rfl) (by kernel_rfl) rfl rfl rfl)) (o_callGM 1 4 5 (pv := none) (Go.Proofs.enters_of Try.func33 (by kernel_rfl) rfl) (c_spec_l4Value (((code))) ((i25)) ((h26)) (7) (by first | omega | assumption | (unfold okI; omega) | (rw [uni_len]; omega)) (by first | omega | assumption | (unfold okI; omega) | (rw [uni_len]; omega)) (by first | omega | assumption | (unfold okI; omega) | (rw [uni_len]; omega)) (by first | omega | assumption | (unfold okI; omega) | (rw [uni_len]; omega)) (by first | omega | assumption | (unfold okI; omega) | (rw [uni_len]; omega))) rfl rfl (.cur rfl (.cons rfl .nil)) rfl (fun ⟨_, _, _⟩ => rfl) (fun _ => rfl) (fun ⟨_, _, _⟩ => rfl) rfl rfl) ?_ ?_
      ·
        rintro ⟨⟩
        refine d_onlyX 2 rfl (by kernel_rfl) rfl (o_callGM 1 4 5 (pv := none) (Go.Proofs.enters_of Try.func33 (by kernel_rfl) rfl) (c_spec_l4Value (((code))) ((i25)) ((h26)) (7) (by first | omega | assumption | (unfold okI; omega) | (rw [uni_len]; omega)) (by first | omega | assumption | (unfold okI; omega) | (rw [uni_len]; omega)) (by first | omega | assumption | (unfold okI; omega) | (rw [uni_len]; omega)) (by first | omega | assumption | (unfold okI; omega) | (rw [uni_len]; omega)) (by first | omega | assumption | (unfold okI; omega) | (rw [uni_len]; omega))) rfl rfl (.cur rfl (.cons rfl .nil)) rfl (fun ⟨_, _, _⟩ => rfl) (fun _ => rfl) (fun ⟨_, _, _⟩ => rfl) rfl rfl) ?_
        rintro ⟨⟨x113, i2114, h2115⟩, hq116⟩
        try dsimp only at hq116
        try dsimp only
        obtain ⟨q117, q118⟩ := hq116
        refine d_onlyX 7 rfl (by kernel_rfl) rfl (o_callGM 1 5 6 (pv := none) (Go.Proofs.enters_of Try.func33 (by kernel_rfl) rfl) (c_spec_l4Value ((((code)))) ((i2114)) ((h2115)) ((((us4)).length : Int)) (by first | omega | assumption | (unfold okI; omega) | (rw [uni_len]; omega)) (by first | omega | assumption | (unfold okI; omega) | (rw [uni_len]; omega)) (by first | omega | assumption | (unfold okI; omega) | (rw [uni_len]; omega)) (by first | omega | assumption | (unfold okI; omega) | (rw [uni_len]; omega)) (by first | omega | assumption | (unfold okI; omega) | (rw [uni_len]; omega))) rfl rfl (.cur rfl (.cons rfl .nil)) rfl (fun ⟨_, _, _⟩ => rfl) (fun _ => rfl) (fun ⟨_, _, _⟩ => rfl) rfl rfl) ?_
        rintro ⟨⟨x119, i2120, h2121⟩, hq122⟩
        try dsimp only at hq122
        try dsimp only
        obtain ⟨q123, q124⟩ := hq122
        refine d_only 8 rfl (by kernel_rfl) rfl (o_storeb (n := 1) (by kernel_rfl) rfl rfl rfl rfl rfl rfl) ?_
        refine d_take 9 rfl rfl (by kernel_rfl) (by kernel_rfl) (by kernel_rfl) (p_assign rfl) ?_
        refine d_take 10 rfl rfl (by kernel_rfl) (by kernel_rfl) (by kernel_rfl) (p_assign rfl) ?_
        refine d_end (by kernel_rfl) ?_
        refine t_ret Try.func14 (.cells (n := 1) (by kernel_rfl) (by kernel_rfl) rfl rfl rfl (.tmp rfl (.tmp rfl .nil))) rfl fun E S w u hI hd => ?_
        refine post_mkG (⟨(us4), (x113), (x119)⟩) ?_ hI hd ?_ trivial rfl rfl <;> clear hI hd
        · (try dsimp only) <;> (exact ⟨by omega, by assumption, by unfold okI; omega, by unfold okI; omega⟩)
        · rfl
      ·
        rintro ⟨⟨x107, i2108, h2109⟩, hq110⟩
        try dsimp only at hq110
        try dsimp only
        obtain ⟨q111, q112⟩ := hq110
        refine d_twoX 0 7 rfl rfl (by kernel_rfl) rfl rfl (osX (o_loadAb rfl (n := 1) (by kernel_rfl) (by kernel_rfl) rfl rfl rfl)) (o_callGM 1 5 6 (pv := none) (Go.Proofs.enters_of Try.func33 (by kernel_rfl) rfl) (c_spec_l4Value ((((code)))) ((i2108)) ((h2109)) ((((us4)).length : Int)) (by first | omega | assumption | (unfold okI; omega) | (rw [uni_len]; omega)) (by first | omega | assumption | (unfold okI; omega) | (rw [uni_len]; omega)) (by first | omega | assumption | (unfold okI; omega) | (rw [uni_len]; omega)) (by first | omega | assumption | (unfold okI; omega) | (rw [uni_len]; omega)) (by first | omega | assumption | (unfold okI; omega) | (rw [uni_len]; omega))) rfl rfl (.cur rfl (.cons rfl .nil)) rfl (fun ⟨_, _, _⟩ => rfl) (fun _ => rfl) (fun ⟨_, _, _⟩ => rfl) rfl rfl) ?_ ?_
        ·
          rintro ⟨⟩
          refine d_onlyX 7 rfl (by kernel_rfl) rfl (o_callGM 1 5 6 (pv := none) (Go.Proofs.enters_of Try.func33 (by kernel_rfl) rfl) (c_spec_l4Value ((((code)))) ((i2108)) ((h2109)) ((((us4)).length : Int)) (by first | omega | assumption | (unfold okI; omega) | (rw [uni_len]; omega)) (by first | omega | assumption | (unfold okI; omega) | (rw [uni_len]; omega)) (by first | omega | assumption | (unfold okI; omega) | (rw [uni_len]; omega)) (by first | omega | assumption | (unfold okI; omega) | (rw [uni_len]; omega)) (by first | omega | assumption | (unfold okI; omega) | (rw [uni_len]; omega))) rfl rfl (.cur rfl (.cons rfl .nil)) rfl (fun ⟨_, _, _⟩ => rfl) (fun _ => rfl) (fun ⟨_, _, _⟩ => rfl) rfl rfl) ?_
          rintro ⟨⟨x131, i2132, h2133⟩, hq134⟩
          try dsimp only at hq134
          try dsimp only
          obtain ⟨q135, q136⟩ := hq134
          refine d_only 8 rfl (by kernel_rfl) rfl (o_storeb (n := 1) (by kernel_rfl) rfl rfl rfl rfl rfl rfl) ?_
          refine d_take 9 rfl rfl (by kernel_rfl) (by kernel_rfl) (by kernel_rfl) (p_assign rfl) ?_
          refine d_take 10 rfl rfl (by kernel_rfl) (by kernel_rfl) (by kernel_rfl) (p_assign rfl) ?_
          refine d_end (by kernel_rfl) ?_
          refine t_ret Try.func14 (.cells (n := 1) (by kernel_rfl) (by kernel_rfl) rfl rfl rfl (.tmp rfl (.tmp rfl .nil))) rfl fun E S w u hI hd => ?_
          refine post_mkG (⟨(us4), (x107), (x131)⟩) ?_ hI hd ?_ trivial rfl rfl <;> clear hI hd
          · (try dsimp only) <;> (exact ⟨by omega, by assumption, by unfold okI; omega, by unfold okI; omega⟩)
          · rfl
        ·
          rintro ⟨⟨x125, i2126, h2127⟩, hq128⟩
          try dsimp only at hq128
          try dsimp only
          obtain ⟨q129, q130⟩ := hq128
          refine d_take 0 rfl rfl (by kernel_rfl) (by kernel_rfl) (by kernel_rfl) (p_loadAb (n := 1) (by kernel_rfl) (by kernel_rfl) rfl rfl rfl) ?_
          refine d_only 8 rfl (by kernel_rfl) rfl (o_storeb (n := 1) (by kernel_rfl) rfl rfl rfl rfl rfl rfl) ?_
          refine d_take 9 rfl rfl (by kernel_rfl) (by kernel_rfl) (by kernel_rfl) (p_assign rfl) ?_
          refine d_take 10 rfl rfl (by kernel_rfl) (by kernel_rfl) (by kernel_rfl) (p_assign rfl) ?_
          refine d_end (by kernel_rfl) ?_
          refine t_ret Try.func14 (.cells (n := 1) (by kernel_rfl) (by kernel_rfl) rfl rfl rfl (.tmp rfl (.tmp rfl .nil))) rfl fun E S w u hI hd => ?_
          refine post_mkG (⟨(us4), (x107), (x125)⟩) ?_ hI hd ?_ trivial rfl rfl <;> clear hI hd
          · (try dsimp only) <;> (exact ⟨by omega, by assumption, by unfold okI; omega, by unfold okI; omega⟩)
          · rfl
set_option maxHeartbeats 1000000 in
set_option maxRecDepth 10000 in
theorem c_slices_Clone___int_int_ (l : List Int) (hl : l.length ≤ 1099511627776) : Pu Try.prog 34 [.c (.t none (.sl 1 encI (l)))] [(0, some (.row none 3 true 1 encI (l)))] 1 (.c (.own 0)) := by
  refine pu_enter Try.func34 rfl (Nat.le_of_ble_eq_true rfl) fun w S => ?_
  refine t_seq ?_
  refine t_region ?_
  refine r_op (o_assign rfl rfl) ?_
  refine r_end ?_
  refine t_seq ?_
  refine t_seq ?_
  refine t_region ?_
  refine r_op (o_move rfl rfl) ?_
  refine r_eqnil rfl rfl rfl (fun en1 => ?_) ?_
  ·
    refine r_end ?_
    refine t_cond rfl (fun _ => ?_) (nc rfl)
    refine t_seq ?_
    refine t_region ?_
    refine r_op (o_assign rfl rfl) ?_
    refine r_end ?_
    refine gt_nil 0 (t := 2) (et := 3) (sz := 1) true encI rfl rfl ?_
    refine t_ret Try.func34 (.tmp rfl .nil) rfl fun E S w u hI hd => ?_
    refine post_mk hI hd ?_ ⟨eqR ?_, trivial⟩ rfl rfl rfl <;> clear hI hd
    all_goals first | rfl | (first | exact en1.symm | simp)
  ·
    refine r_end ?_
    refine t_cond rfl (ncf rfl) (fun _ => ?_)
    refine t_skip ?_
    refine t_seq ?_
    refine t_region ?_
    refine r_op (o_lit0 0 (e := 3) (sz := 1) (zs := [.int .i64 (0)]) encI rfl rfl (by kernel_rfl) rfl) ?_
    refine r_op (o_move rfl rfl) ?_
    refine r_op (o_appendS 0 (e := 3) (sz := 1) (by' := 8) rfl (by kernel_rfl) rfl rfl rfl rfl (fun _ _ => ⟨_, rfl⟩) (by first | omega | (simp; omega)) (by first | omega | (simp; omega))) ?_
    refine r_op (o_assign rfl rfl) ?_
    refine r_end ?_
    refine t_ret Try.func34 (.tmp rfl .nil) rfl fun E S w u hI hd => ?_
    refine post_mk hI hd ?_ ⟨eqR ?_, trivial⟩ rfl rfl rfl <;> clear hI hd
    all_goals first | rfl | (first | exact en1.symm | simp)
set_option maxHeartbeats 1000000 in
set_option maxRecDepth 10000 in
theorem c_impl_within (a0 a1 a2 : Int) : Pu Try.prog 41 [.c (.t none (.v (.int .i64 (a0)))), .c (.t none (.v (.int .i64 (a1)))), .c (.t none (.v (.int .i64 (a2))))] [] 0 (.c (.t none (.v (.bool (decide (a1 ≤ a0 ∧ a0 ≤ a2)))))) := by
  refine pu_enter Try.func41 rfl (Nat.le_of_ble_eq_true rfl) fun w S => ?_
  refine t_seq ?_
  refine t_region ?_
  refine r_op (o_assign rfl rfl) ?_
  refine r_end ?_
  refine t_seq ?_
  refine t_region ?_
  refine r_op (o_move rfl rfl) ?_
  refine r_op (o_move rfl rfl) ?_
  refine r_op (o_bin rfl rfl rfl rfl) ?_
  refine r_op (o_move rfl rfl) ?_
  refine r_guard rfl rfl rfl (fun g1 => ?_) (fun g1 => ?_)
  ·
    have g1' := of_decide_eq_true g1
    refine r_op (o_move rfl rfl) ?_
    refine r_guard rfl rfl rfl (fun _ => ?_) (nc g1)
    refine r_op (o_move rfl rfl) ?_
    refine r_guard rfl rfl rfl (fun _ => ?_) (nc g1)
    refine r_op (o_bin rfl rfl rfl rfl) ?_
    refine r_op (o_pickT rfl rfl g1 rfl) ?_
    refine r_op (o_assign rfl rfl) ?_
    refine r_end ?_
    refine t_ret Try.func41 (.tmp rfl .nil) rfl fun E S w u hI hd => ?_
    refine post_mk hI hd ?_ trivial rfl rfl rfl <;> clear hI hd
    all_goals first | rfl | (simp_all <;> omega)
  ·
    have g1' := of_decide_eq_false g1
    refine r_guard rfl rfl rfl (ncf g1) (fun _ => ?_)
    refine r_guard rfl rfl rfl (ncf g1) (fun _ => ?_)
    refine r_op (o_pickF rfl rfl g1 rfl) ?_
    refine r_op (o_assign rfl rfl) ?_
    refine r_end ?_
    refine t_ret Try.func41 (.tmp rfl .nil) rfl fun E S w u hI hd => ?_
    refine post_mk hI hd ?_ trivial rfl rfl rfl <;> clear hI hd
    all_goals first | rfl | (simp_all <;> omega)
set_option maxHeartbeats 1000000 in
set_option maxRecDepth 10000 in
theorem c_impl_NullNumber (v : Int) (hv : -9223372036854775808 ≤ v) (hv2 : v ≤ 9223372036854775807) : Pu Try.prog 29 [.c (.t none (.v (.int .i64 (v))))] [] 0 (.tup [(false, [.t none (.v (.int .i64 (if -40 ≤ v ∧ v ≤ -1 then -1 - v else 0)))]), (false, [.t none (.v (.bool (decide (-40 ≤ v ∧ v ≤ -1))))])]) := by
  refine pu_enter Try.func29 rfl (Nat.le_of_ble_eq_true rfl) fun w S => ?_
  refine t_seq ?_
  refine t_region ?_
  refine r_op (o_assign rfl rfl) ?_
  refine r_op (o_assign rfl rfl) ?_
  refine r_end ?_
  refine t_seq ?_
  refine t_seq ?_
  refine t_region ?_
  refine r_op (o_move rfl rfl) ?_
  refine r_op (o_bin rfl rfl rfl rfl) ?_
  refine r_op (o_call 0 0 false (Go.Proofs.enters_of Try.func41 (by kernel_rfl) rfl) (c_impl_within (IntKind.i64.wrap ((-1) - v)) (0) (39)) rfl (.cons rfl (.c .t0) (.cons rfl (.c .t0) (.cons rfl (.c .t0) .nil))) rfl rfl rfl) ?_
  refine r_op (o_not rfl rfl) ?_
  refine r_end ?_
  refine t_cond rfl (fun h1 => ?_) (fun h1 => ?_)
  ·
    have h1' := of_decide_eq_false (bnt h1)
    refine t_seq ?_
    refine t_region ?_
    refine r_op (o_assign rfl rfl) ?_
    refine r_op (o_assign rfl rfl) ?_
    refine r_end ?_
    refine t_ret Try.func29 (.tmp rfl (.tmp rfl .nil)) rfl fun E S w u hI hd => ?_
    refine post_mk hI hd ?_ trivial rfl rfl rfl <;> clear hI hd
    all_goals first | rfl | (first | (have hn : ¬(-40 ≤ v ∧ v ≤ -1) := by (simp only [IntKind.wrap_i64] at *; omega)); (simp [hn]; done) | (have hn : (-40 ≤ v ∧ v ≤ -1) := by (simp only [IntKind.wrap_i64] at *; omega)); (have e : IntKind.i64.wrap (-1 - v) = -1 - v := wr64 (by omega) (by omega)); (simp [hn, e]; done))
  ·
    have h1' := of_decide_eq_true (bnf h1)
    refine t_skip ?_
    refine t_seq ?_
    refine t_region ?_
    refine r_op (o_move rfl rfl) ?_
    refine r_op (o_bin rfl rfl rfl rfl) ?_
    refine r_op (o_assign rfl rfl) ?_
    refine r_op (o_assign rfl rfl) ?_
    refine r_end ?_
    refine t_ret Try.func29 (.tmp rfl (.tmp rfl .nil)) rfl fun E S w u hI hd => ?_
    refine post_mk hI hd ?_ trivial rfl rfl rfl <;> clear hI hd
    all_goals first | rfl | (first | (have hn : ¬(-40 ≤ v ∧ v ≤ -1) := by (simp only [IntKind.wrap_i64] at *; omega)); (simp [hn]; done) | (have hn : (-40 ≤ v ∧ v ≤ -1) := by (simp only [IntKind.wrap_i64] at *; omega)); (have e : IntKind.i64.wrap (-1 - v) = -1 - v := wr64 (by omega) (by omega)); (simp [hn, e]; done))
set_option maxHeartbeats 1000000 in
set_option maxRecDepth 10000 in
theorem c_impl_IsValidValue (v : Int) : Pu Try.prog 39 [.c (.t none (.v (.int .i64 (v))))] [] 0 (.c (.t none (.v (.bool (decide (-40 ≤ v ∧ v ≤ 9)))))) := by
  refine pu_enter Try.func39 rfl (Nat.le_of_ble_eq_true rfl) fun w S => ?_
  refine t_seq ?_
  refine t_region ?_
  refine r_op (o_assign rfl rfl) ?_
  refine r_end ?_
  refine t_seq ?_
  refine t_region ?_
  refine r_op (o_move rfl rfl) ?_
  refine r_op (o_call 0 0 false (Go.Proofs.enters_of Try.func41 (by kernel_rfl) rfl) (c_impl_within (v) (-40) (9)) rfl (.cons rfl (.c .t0) (.cons rfl (.c .t0) (.cons rfl (.c .t0) .nil))) rfl rfl rfl) ?_
  refine r_op (o_assign rfl rfl) ?_
  refine r_end ?_
  refine t_ret Try.func39 (.tmp rfl .nil) rfl fun E S w u hI hd => ?_
  refine post_mk hI hd ?_ trivial rfl rfl rfl <;> clear hI hd
  all_goals first | rfl | (rfl)
set_option maxHeartbeats 1000000 in
set_option maxRecDepth 10000 in
theorem c_impl_IsValidUnionFind (l : List Int) (hl : l.length ≤ 4611686018427387904) (ho : ∀ x ∈ l, okI x) : Pu Try.prog 19 [.agg [.t none (.sl 1 encI (l))]] [] 0 (.c (.t none (.v (.bool (ufOk l))))) := by
  refine pu_enter Try.func19 rfl (Nat.le_of_ble_eq_true rfl) fun w S => ?_
  refine t_seq ?_
  refine t_region ?_
  refine r_op (o_box 0 rfl rfl rfl rfl) ?_
  refine r_op (o_assign rfl rfl) ?_
  refine r_end ?_
  refine t_seq ?_
  refine t_seq ?_
  refine t_region ?_
  refine r_op (o_fieldb rfl (off := 0) (by kernel_rfl) rfl) ?_
  refine r_op (o_load1b rfl (by kernel_rfl) rfl rfl rfl) ?_
  refine r_op (o_len rfl rfl rfl) ?_
  refine r_op (o_move rfl rfl) ?_
  refine r_end ?_
  refine t_block ?_
  refine t_loopL (fun m => ⟨[(1, some (.c (.ptr 0 0))), (8, some (.c (.t none (.sl 1 encI (l))))), (9, some (.c (.t none (.v (.int .i64 (((l).length : Int))))))), (10, some (.c (.t none (.v (.int .i64 ((m : Int)))))))], [(0, some (.box [.t none (.sl 1 encI (l))]))], 1⟩ : Nat → St) (fun m => m ≤ l.length ∧ ∀ j, j < m → ufStep l j = true) (fun m => l.length - m) 0 ⟨⟨rfl, ⟨rfl, ⟨rfl, ⟨rfl, trivial⟩⟩⟩⟩, ⟨rfl, trivial⟩, rfl⟩ (by exact ⟨Nat.zero_le _, fun j h => by omega⟩) ?_
  rintro m hI ih0
  try dsimp only at hI ih0
  obtain ⟨i1, i2⟩ := hI
  refine t_seq ?_
  refine t_region ?_
  refine r_op (o_bin rfl rfl rfl rfl) ?_
  refine r_end ?_
  refine t_seq ?_
  refine t_cond rfl (fun h1 => ?_) (fun h1 => ?_)
  ·
    have h1' := of_decide_eq_true h1
    refine t_skip ?_
    refine t_seq ?_
    refine t_block ?_
    refine t_seq ?_
    refine t_region ?_
    refine r_op (o_move rfl rfl) ?_
    obtain ⟨z2, hz3, b4⟩ := at_get (xs := l) (n := (m : Int)) (by first | omega | exact (ho _ (List.mem_of_getElem? (by assumption))).1 | exact (ho _ (List.mem_of_getElem? (by assumption))).2 | (split at * <;> omega)) (by first | omega | exact (ho _ (List.mem_of_getElem? (by assumption))).1 | exact (ho _ (List.mem_of_getElem? (by assumption))).2 | (split at * <;> omega))
    refine r_op (o_index rfl (by kernel_rfl) rfl rfl b4 hz3) ?_
    refine r_op (o_load1 rfl (by kernel_rfl) rfl rfl) ?_
    refine r_op (o_assign rfl rfl) ?_
    refine r_op (o_assign rfl rfl) ?_
    refine r_end ?_
    refine t_seq ?_
    refine t_region ?_
    refine r_op (o_move rfl rfl) ?_
    refine r_op (o_call 1 1 false (Go.Proofs.enters_of Try.func29 (by kernel_rfl) rfl) (c_impl_NullNumber (z2) (by first | omega | exact (ho _ (List.mem_of_getElem? (by assumption))).1 | exact (ho _ (List.mem_of_getElem? (by assumption))).2 | (split at * <;> omega)) (by first | omega | exact (ho _ (List.mem_of_getElem? (by assumption))).1 | exact (ho _ (List.mem_of_getElem? (by assumption))).2 | (split at * <;> omega))) rfl (.cons rfl (.c .t0) .nil) rfl rfl rfl) ?_
    refine r_op (o_move rfl rfl) ?_
    refine r_op (o_extract rfl rfl rfl rfl) ?_
    refine r_op (o_extract rfl rfl rfl rfl) ?_
    refine r_op (o_assign rfl rfl) ?_
    refine r_op (o_assign rfl rfl) ?_
    refine r_end ?_
    refine t_seq ?_
    refine t_region ?_
    refine r_op (o_move rfl rfl) ?_
    refine r_op (o_call 1 1 false (Go.Proofs.enters_of Try.func39 (by kernel_rfl) rfl) (c_impl_IsValidValue (z2)) rfl (.cons rfl (.c .t0) .nil) rfl rfl rfl) ?_
    refine r_op (o_not rfl rfl) ?_
    refine r_op (o_move rfl rfl) ?_
    refine r_guard rfl rfl rfl (fun g5 => ?_) (fun g5 => ?_)
    ·
      have g5' := of_decide_eq_true (bnf g5)
      refine r_op (o_move rfl rfl) ?_
      refine r_guard rfl rfl rfl (fun _ => ?_) (ncf g5)
      refine r_op (o_move rfl rfl) ?_
      refine r_guard rfl rfl rfl (fun g6 => ?_) (fun g6 => ?_)
      ·
        have g6' := of_decide_eq_true g6
        refine r_op (o_move rfl rfl) ?_
        refine r_guard rfl rfl rfl (fun _ => ?_) (nc g6)
        refine r_op (o_move rfl rfl) ?_
        refine r_guard rfl rfl rfl (fun _ => ?_) (nc g6)
        refine r_op (o_bin rfl rfl rfl rfl) ?_
        refine r_guard rfl rfl rfl (fun _ => ?_) (nc g6)
        refine r_op (o_move rfl rfl) ?_
        refine r_guard rfl rfl rfl (fun g7 => ?_) (fun g7 => ?_)
        ·
          have g7' := of_decide_eq_false g7
          refine r_op (o_fieldb rfl (off := 0) (by kernel_rfl) rfl) ?_
          refine r_guard rfl rfl rfl (fun _ => ?_) (ncf g7)
          refine r_op (o_load1b rfl (by kernel_rfl) rfl rfl rfl) ?_
          refine r_guard rfl rfl rfl (fun _ => ?_) (ncf g7)
          refine r_op (o_move rfl rfl) ?_
          refine r_guard rfl rfl rfl (fun _ => ?_) (ncf g7)
          obtain ⟨z8, hz9, b10⟩ := at_get (xs := l) (n := if -40 ≤ (z2) ∧ (z2) ≤ -1 then -1 - (z2) else 0) (by first | omega | exact (ho _ (List.mem_of_getElem? (by assumption))).1 | exact (ho _ (List.mem_of_getElem? (by assumption))).2 | (split at * <;> omega)) (by first | omega | exact (ho _ (List.mem_of_getElem? (by assumption))).1 | exact (ho _ (List.mem_of_getElem? (by assumption))).2 | (split at * <;> omega))
          refine r_op (o_index rfl (by kernel_rfl) rfl rfl b10 hz9) ?_
          refine r_guard rfl rfl rfl (fun _ => ?_) (ncf g7)
          refine r_op (o_load1 rfl (by kernel_rfl) rfl rfl) ?_
          refine r_guard rfl rfl rfl (fun _ => ?_) (ncf g7)
          refine r_op (o_move rfl rfl) ?_
          refine r_guard rfl rfl rfl (fun _ => ?_) (ncf g7)
          refine r_op (o_bin rfl rfl rfl rfl) ?_
          refine r_guard rfl rfl rfl (fun _ => ?_) (nc g6)
          refine r_op (o_pickF rfl rfl g7 rfl) ?_
          refine r_guard rfl rfl rfl (fun _ => ?_) (ncf g5)
          refine r_op (o_pickT rfl rfl g6 rfl) ?_
          refine r_op (o_pickF rfl rfl g5 rfl) ?_
          refine r_end ?_
          refine t_cond rfl (fun h11 => ?_) (fun h11 => ?_)
          ·
            have h11' := of_decide_eq_true h11
            refine t_seq ?_
            refine t_region ?_
            refine r_op (o_assign rfl rfl) ?_
            refine r_end ?_
            refine t_ret Try.func19 (.tmp rfl .nil) rfl fun E S w u hI hd => ?_
            refine post_mk hI hd ?_ trivial rfl rfl rfl <;> clear hI hd <;> (try clear ih0)
            all_goals first | rfl | (refine scB ?_; first | (rw [ufOk_not (m := m) (by omega) (by first | exact ufStep_bad (m := m) (by assumption) (by omega) | exact ufStep_far (m := m) (by assumption) (by omega) (by omega) | exact ufStep_const (m := m) (by assumption) (by omega) (by omega) | (rw [ufStep_rep (m := m) (by assumption) (by assumption) (by omega) (by omega) (by omega) (by omega)]; first | exact decide_eq_true (by omega) | exact decide_eq_false (by omega)))]; done) | (rw [ufOk_end (m := m) i2 (by omega)]; exact decide_eq_decide.2 (by omega)))
          ·
            have h11' := of_decide_eq_false h11
            refine t_skip ?_
            refine t_endblock ?_
            refine t_region ?_
            refine r_op (o_bin rfl rfl rfl rfl) ?_
            refine r_op (o_move rfl rfl) ?_
            refine r_end ?_
            refine t_le ?_ (ih0 (m + 1) (by (try dsimp only); omega) (by (try dsimp only); exact ⟨by omega, step_all i2 (by first | exact ufStep_bad (m := m) (by assumption) (by omega) | exact ufStep_far (m := m) (by assumption) (by omega) (by omega) | exact ufStep_const (m := m) (by assumption) (by omega) (by omega) | (rw [ufStep_rep (m := m) (by assumption) (by assumption) (by omega) (by omega) (by omega) (by omega)]; first | exact decide_eq_true (by omega) | exact decide_eq_false (by omega)))⟩))
            exact ⟨⟨rfl, ⟨rfl, ⟨rfl, ⟨(eqI (wr64 (by omega) (by omega))), trivial⟩⟩⟩⟩, ⟨rfl, trivial⟩, rfl⟩
        ·
          have g7' := of_decide_eq_true g7
          refine r_guard rfl rfl rfl (nc g7) (fun _ => ?_)
          refine r_guard rfl rfl rfl (nc g7) (fun _ => ?_)
          refine r_guard rfl rfl rfl (nc g7) (fun _ => ?_)
          refine r_guard rfl rfl rfl (nc g7) (fun _ => ?_)
          refine r_guard rfl rfl rfl (nc g7) (fun _ => ?_)
          refine r_guard rfl rfl rfl (nc g7) (fun _ => ?_)
          refine r_guard rfl rfl rfl (fun _ => ?_) (nc g6)
          refine r_op (o_pickT rfl rfl g7 rfl) ?_
          refine r_guard rfl rfl rfl (fun _ => ?_) (ncf g5)
          refine r_op (o_pickT rfl rfl g6 rfl) ?_
          refine r_op (o_pickF rfl rfl g5 rfl) ?_
          refine r_end ?_
          refine t_cond rfl (fun _ => ?_) (nc rfl)
          refine t_seq ?_
          refine t_region ?_
          refine r_op (o_assign rfl rfl) ?_
          refine r_end ?_
          refine t_ret Try.func19 (.tmp rfl .nil) rfl fun E S w u hI hd => ?_
          refine post_mk hI hd ?_ trivial rfl rfl rfl <;> clear hI hd <;> (try clear ih0)
          all_goals first | rfl | (refine scB ?_; first | (rw [ufOk_not (m := m) (by omega) (by first | exact ufStep_bad (m := m) (by assumption) (by omega) | exact ufStep_far (m := m) (by assumption) (by omega) (by omega) | exact ufStep_const (m := m) (by assumption) (by omega) (by omega) | (rw [ufStep_rep (m := m) (by assumption) (by assumption) (by omega) (by omega) (by omega) (by omega)]; first | exact decide_eq_true (by omega) | exact decide_eq_false (by omega)))]; done) | (rw [ufOk_end (m := m) i2 (by omega)]; exact decide_eq_decide.2 (by omega)))
      ·
        have g6' := of_decide_eq_false g6
        refine r_guard rfl rfl rfl (ncf g6) (fun _ => ?_)
        refine r_guard rfl rfl rfl (ncf g6) (fun _ => ?_)
        refine r_guard rfl rfl rfl (ncf g6) (fun _ => ?_)
        refine r_skip rfl rfl rfl ?_
        refine r_skip rfl rfl rfl ?_
        refine r_skip rfl rfl rfl ?_
        refine r_skip rfl rfl rfl ?_
        refine r_skip rfl rfl rfl ?_
        refine r_skip rfl rfl rfl ?_
        refine r_skip rfl rfl rfl ?_
        refine r_guard rfl rfl rfl (ncf g6) (fun _ => ?_)
        refine r_guard rfl rfl rfl (fun _ => ?_) (ncf g5)
        refine r_op (o_pickF rfl rfl g6 rfl) ?_
        refine r_op (o_pickF rfl rfl g5 rfl) ?_
        refine r_end ?_
        refine t_cond rfl (ncf rfl) (fun _ => ?_)
        refine t_skip ?_
        refine t_endblock ?_
        refine t_region ?_
        refine r_op (o_bin rfl rfl rfl rfl) ?_
        refine r_op (o_move rfl rfl) ?_
        refine r_end ?_
        refine t_le ?_ (ih0 (m + 1) (by (try dsimp only); omega) (by (try dsimp only); exact ⟨by omega, step_all i2 (by first | exact ufStep_bad (m := m) (by assumption) (by omega) | exact ufStep_far (m := m) (by assumption) (by omega) (by omega) | exact ufStep_const (m := m) (by assumption) (by omega) (by omega) | (rw [ufStep_rep (m := m) (by assumption) (by assumption) (by omega) (by omega) (by omega) (by omega)]; first | exact decide_eq_true (by omega) | exact decide_eq_false (by omega)))⟩))
        exact ⟨⟨rfl, ⟨rfl, ⟨rfl, ⟨(eqI (wr64 (by omega) (by omega))), trivial⟩⟩⟩⟩, ⟨rfl, trivial⟩, rfl⟩
    ·
      have g5' := of_decide_eq_false (bnt g5)
      refine r_guard rfl rfl rfl (nc g5) (fun _ => ?_)
      refine r_skip rfl rfl rfl ?_
      refine r_skip rfl rfl rfl ?_
      refine r_skip rfl rfl rfl ?_
      refine r_skip rfl rfl rfl ?_
      refine r_skip rfl rfl rfl ?_
      refine r_skip rfl rfl rfl ?_
      refine r_skip rfl rfl rfl ?_
      refine r_skip rfl rfl rfl ?_
      refine r_skip rfl rfl rfl ?_
      refine r_skip rfl rfl rfl ?_
      refine r_skip rfl rfl rfl ?_
      refine r_skip rfl rfl rfl ?_
      refine r_guard rfl rfl rfl (nc g5) (fun _ => ?_)
      refine r_op (o_pickT rfl rfl g5 rfl) ?_
      refine r_end ?_
      refine t_cond rfl (fun _ => ?_) (nc rfl)
      refine t_seq ?_
      refine t_region ?_
      refine r_op (o_assign rfl rfl) ?_
      refine r_end ?_
      refine t_ret Try.func19 (.tmp rfl .nil) rfl fun E S w u hI hd => ?_
      refine post_mk hI hd ?_ trivial rfl rfl rfl <;> clear hI hd <;> (try clear ih0)
      all_goals first | rfl | (refine scB ?_; first | (rw [ufOk_not (m := m) (by omega) (by first | exact ufStep_bad (m := m) (by assumption) (by omega) | exact ufStep_far (m := m) (by assumption) (by omega) (by omega) | exact ufStep_const (m := m) (by assumption) (by omega) (by omega) | (rw [ufStep_rep (m := m) (by assumption) (by assumption) (by omega) (by omega) (by omega) (by omega)]; first | exact decide_eq_true (by omega) | exact decide_eq_false (by omega)))]; done) | (rw [ufOk_end (m := m) i2 (by omega)]; exact decide_eq_decide.2 (by omega)))
  ·
    have h1' := of_decide_eq_false h1
    refine t_exit rfl ?_
    refine t_seq ?_
    refine t_region ?_
    refine r_op (o_fieldb rfl (off := 0) (by kernel_rfl) rfl) ?_
    refine r_op (o_load1b rfl (by kernel_rfl) rfl rfl rfl) ?_
    refine r_op (o_len rfl rfl rfl) ?_
    refine r_op (o_bin rfl rfl rfl rfl) ?_
    refine r_op (o_assign rfl rfl) ?_
    refine r_end ?_
    refine t_ret Try.func19 (.tmp rfl .nil) rfl fun E S w u hI hd => ?_
    refine post_mk hI hd ?_ trivial rfl rfl rfl <;> clear hI hd <;> (try clear ih0)
    all_goals first | rfl | (refine scB ?_; first | (rw [ufOk_not (m := m) (by omega) (by first | exact ufStep_bad (m := m) (by assumption) (by omega) | exact ufStep_far (m := m) (by assumption) (by omega) (by omega) | exact ufStep_const (m := m) (by assumption) (by omega) (by omega) | (rw [ufStep_rep (m := m) (by assumption) (by assumption) (by omega) (by omega) (by omega) (by omega)]; first | exact decide_eq_true (by omega) | exact decide_eq_false (by omega)))]; done) | (rw [ufOk_end (m := m) i2 (by omega)]; exact decide_eq_decide.2 (by omega)))
set_option maxHeartbeats 1000000 in
set_option maxRecDepth 10000 in
theorem c_impl_Find (l : List Int) (v : Int) (hl : l.length ≤ 4611686018427387904) (ho : ∀ x ∈ l, okI x) (hv : okI v) : Pu Try.prog 10 [.agg [.t none (.sl 1 encI (l))], .c (.t none (.v (.int .i64 (v))))] [] 0 (.c (.t none (.v (.int .i64 (findU l v))))) := by
  refine pu_enter Try.func10 rfl (Nat.le_of_ble_eq_true rfl) fun w S => ?_
  have hv1 := hv.1; have hv2 := hv.2
  refine t_seq ?_
  refine t_region ?_
  refine r_op (o_box 0 rfl rfl rfl rfl) ?_
  refine r_op (o_assign rfl rfl) ?_
  refine r_end ?_
  refine t_seq ?_
  refine t_region ?_
  refine r_op (o_move rfl rfl) ?_
  refine r_op (o_call 1 1 false (Go.Proofs.enters_of Try.func29 (by kernel_rfl) rfl) (c_impl_NullNumber (v) (by first | omega | assumption) (by first | omega | assumption)) rfl (.cons rfl (.c .t0) .nil) rfl rfl rfl) ?_
  refine r_op (o_move rfl rfl) ?_
  refine r_op (o_extract rfl rfl rfl rfl) ?_
  refine r_op (o_extract rfl rfl rfl rfl) ?_
  refine r_op (o_assign rfl rfl) ?_
  refine r_op (o_assign rfl rfl) ?_
  refine r_end ?_
  refine t_seq ?_
  refine t_seq ?_
  refine t_region ?_
  refine r_op (o_move rfl rfl) ?_
  refine r_op (o_not rfl rfl) ?_
  refine r_op (o_move rfl rfl) ?_
  refine r_guard rfl rfl rfl (fun g1 => ?_) (fun g1 => ?_)
  ·
    have g1' := of_decide_eq_true (bnf g1)
    refine r_op (o_move rfl rfl) ?_
    refine r_guard rfl rfl rfl (fun _ => ?_) (ncf g1)
    refine r_op (o_fieldb rfl (off := 0) (by kernel_rfl) rfl) ?_
    refine r_guard rfl rfl rfl (fun _ => ?_) (ncf g1)
    refine r_op (o_load1b rfl (by kernel_rfl) rfl rfl rfl) ?_
    refine r_guard rfl rfl rfl (fun _ => ?_) (ncf g1)
    refine r_op (o_len rfl rfl rfl) ?_
    refine r_guard rfl rfl rfl (fun _ => ?_) (ncf g1)
    refine r_op (o_bin rfl rfl rfl rfl) ?_
    refine r_op (o_pickF rfl rfl g1 rfl) ?_
    refine r_op (o_move rfl rfl) ?_
    refine r_guard rfl rfl rfl (fun g2 => ?_) (fun g2 => ?_)
    ·
      have g2' := of_decide_eq_false g2
      refine r_op (o_loadAb rfl (n := 1) (by kernel_rfl) (by kernel_rfl) rfl rfl rfl) ?_
      refine r_guard rfl rfl rfl (fun _ => ?_) (ncf g2)
      refine r_op (o_call 1 1 false (Go.Proofs.enters_of Try.func19 (by kernel_rfl) rfl) (c_impl_IsValidUnionFind (l) (by first | omega | assumption) (by first | omega | assumption)) rfl (.cons rfl (.agg (.cons .t0 .nil)) .nil) rfl rfl rfl) ?_
      refine r_guard rfl rfl rfl (fun _ => ?_) (ncf g2)
      refine r_op (o_not rfl rfl) ?_
      refine r_op (o_pickF rfl rfl g2 rfl) ?_
      refine r_end ?_
      refine t_cond rfl (fun h3 => ?_) (fun h3 => ?_)
      ·
        have h3' := (bnt h3)
        refine t_seq ?_
        refine t_region ?_
        refine r_op (o_move rfl rfl) ?_
        refine r_op (o_assign rfl rfl) ?_
        refine r_end ?_
        refine t_ret Try.func10 (.tmp rfl .nil) rfl fun E S w u hI hd => ?_
        refine post_mk hI hd ?_ trivial rfl rfl rfl <;> clear hI hd
        all_goals first | rfl | (refine scI ?_; first | (rw [findU_at (l := l) (v := v) (by omega) (by omega) (by assumption) (n := if -40 ≤ v ∧ v ≤ -1 then -1 - v else 0) (by omega) (by assumption)]; done) | (rw [findU_no]; intro q; first | omega | (have q3 := q.2.2; simp_all; done)))
      ·
        have h3' := (bnf h3)
        refine t_skip ?_
        refine t_seq ?_
        refine t_region ?_
        refine r_op (o_fieldb rfl (off := 0) (by kernel_rfl) rfl) ?_
        refine r_op (o_load1b rfl (by kernel_rfl) rfl rfl rfl) ?_
        refine r_op (o_move rfl rfl) ?_
        obtain ⟨z4, hz5, b6⟩ := at_get (xs := l) (n := if -40 ≤ (v) ∧ (v) ≤ -1 then -1 - (v) else 0) (by first | omega | assumption) (by first | omega | assumption)
        refine r_op (o_index rfl (by kernel_rfl) rfl rfl b6 hz5) ?_
        refine r_op (o_load1 rfl (by kernel_rfl) rfl rfl) ?_
        refine r_op (o_assign rfl rfl) ?_
        refine r_end ?_
        refine t_ret Try.func10 (.tmp rfl .nil) rfl fun E S w u hI hd => ?_
        refine post_mk hI hd ?_ trivial rfl rfl rfl <;> clear hI hd
        all_goals first | rfl | (refine scI ?_; first | (rw [findU_at (l := l) (v := v) (by omega) (by omega) (by assumption) (n := if -40 ≤ v ∧ v ≤ -1 then -1 - v else 0) (by omega) (by assumption)]; done) | (rw [findU_no]; intro q; first | omega | (have q3 := q.2.2; simp_all; done)))
    ·
      have g2' := of_decide_eq_true g2
      refine r_guard rfl rfl rfl (nc g2) (fun _ => ?_)
      refine r_guard rfl rfl rfl (nc g2) (fun _ => ?_)
      refine r_op (o_pickT rfl rfl g2 rfl) ?_
      refine r_end ?_
      refine t_cond rfl (fun _ => ?_) (nc rfl)
      refine t_seq ?_
      refine t_region ?_
      refine r_op (o_move rfl rfl) ?_
      refine r_op (o_assign rfl rfl) ?_
      refine r_end ?_
      refine t_ret Try.func10 (.tmp rfl .nil) rfl fun E S w u hI hd => ?_
      refine post_mk hI hd ?_ trivial rfl rfl rfl <;> clear hI hd
      all_goals first | rfl | (refine scI ?_; first | (rw [findU_at (l := l) (v := v) (by omega) (by omega) (by assumption) (n := if -40 ≤ v ∧ v ≤ -1 then -1 - v else 0) (by omega) (by assumption)]; done) | (rw [findU_no]; intro q; first | omega | (have q3 := q.2.2; simp_all; done)))
  ·
    have g1' := of_decide_eq_false (bnt g1)
    refine r_guard rfl rfl rfl (nc g1) (fun _ => ?_)
    refine r_guard rfl rfl rfl (nc g1) (fun _ => ?_)
    refine r_guard rfl rfl rfl (nc g1) (fun _ => ?_)
    refine r_guard rfl rfl rfl (nc g1) (fun _ => ?_)
    refine r_op (o_pickT rfl rfl g1 rfl) ?_
    refine r_op (o_move rfl rfl) ?_
    refine r_guard rfl rfl rfl (nc rfl) (fun _ => ?_)
    refine r_guard rfl rfl rfl (nc rfl) (fun _ => ?_)
    refine r_guard rfl rfl rfl (nc rfl) (fun _ => ?_)
    refine r_op (o_pickT rfl rfl rfl rfl) ?_
    refine r_end ?_
    refine t_cond rfl (fun _ => ?_) (nc rfl)
    refine t_seq ?_
    refine t_region ?_
    refine r_op (o_move rfl rfl) ?_
    refine r_op (o_assign rfl rfl) ?_
    refine r_end ?_
    refine t_ret Try.func10 (.tmp rfl .nil) rfl fun E S w u hI hd => ?_
    refine post_mk hI hd ?_ trivial rfl rfl rfl <;> clear hI hd
    all_goals first | rfl | (refine scI ?_; first | (rw [findU_at (l := l) (v := v) (by omega) (by omega) (by assumption) (n := if -40 ≤ v ∧ v ≤ -1 then -1 - v else 0) (by omega) (by assumption)]; done) | (rw [findU_no]; intro q; first | omega | (have q3 := q.2.2; simp_all; done)))
set_option maxHeartbeats 1000000 in
set_option maxRecDepth 10000 in
theorem c_impl_isMember (l : List Int) (v : Int) (hl : l.length ≤ 4611686018427387904) (ho : ∀ x ∈ l, okI x) (hv : okI v) : Pu Try.prog 35 [.agg [.t none (.sl 1 encI (l))], .c (.t none (.v (.int .i64 (v))))] [] 0 (.c (.t none (.v (.bool (memU l v))))) := by
  refine pu_enter Try.func35 rfl (Nat.le_of_ble_eq_true rfl) fun w S => ?_
  have hv1 := hv.1; have hv2 := hv.2
  refine t_seq ?_
  refine t_region ?_
  refine r_op (o_box 0 rfl rfl rfl rfl) ?_
  refine r_op (o_assign rfl rfl) ?_
  refine r_end ?_
  refine t_seq ?_
  refine t_region ?_
  refine r_op (o_move rfl rfl) ?_
  refine r_op (o_call 1 1 false (Go.Proofs.enters_of Try.func29 (by kernel_rfl) rfl) (c_impl_NullNumber (v) (by first | omega | assumption) (by first | omega | assumption)) rfl (.cons rfl (.c .t0) .nil) rfl rfl rfl) ?_
  refine r_op (o_move rfl rfl) ?_
  refine r_op (o_extract rfl rfl rfl rfl) ?_
  refine r_op (o_extract rfl rfl rfl rfl) ?_
  refine r_op (o_assign rfl rfl) ?_
  refine r_op (o_assign rfl rfl) ?_
  refine r_end ?_
  refine t_seq ?_
  refine t_region ?_
  refine r_op (o_move rfl rfl) ?_
  refine r_op (o_call 1 1 false (Go.Proofs.enters_of Try.func39 (by kernel_rfl) rfl) (c_impl_IsValidValue (v)) rfl (.cons rfl (.c .t0) .nil) rfl rfl rfl) ?_
  refine r_op (o_move rfl rfl) ?_
  refine r_guard rfl rfl rfl (fun g1 => ?_) (fun g1 => ?_)
  ·
    have g1' := of_decide_eq_true g1
    refine r_op (o_move rfl rfl) ?_
    refine r_guard rfl rfl rfl (fun _ => ?_) (nc g1)
    refine r_op (o_not rfl rfl) ?_
    refine r_guard rfl rfl rfl (fun _ => ?_) (nc g1)
    refine r_op (o_move rfl rfl) ?_
    refine r_guard rfl rfl rfl (fun g2 => ?_) (fun g2 => ?_)
    ·
      have g2' := of_decide_eq_true (bnf g2)
      refine r_op (o_move rfl rfl) ?_
      refine r_guard rfl rfl rfl (fun _ => ?_) (ncf g2)
      refine r_op (o_fieldb rfl (off := 0) (by kernel_rfl) rfl) ?_
      refine r_guard rfl rfl rfl (fun _ => ?_) (ncf g2)
      refine r_op (o_load1b rfl (by kernel_rfl) rfl rfl rfl) ?_
      refine r_guard rfl rfl rfl (fun _ => ?_) (ncf g2)
      refine r_op (o_len rfl rfl rfl) ?_
      refine r_guard rfl rfl rfl (fun _ => ?_) (ncf g2)
      refine r_op (o_bin rfl rfl rfl rfl) ?_
      refine r_guard rfl rfl rfl (fun _ => ?_) (nc g1)
      refine r_op (o_pickF rfl rfl g2 rfl) ?_
      refine r_op (o_pickT rfl rfl g1 rfl) ?_
      refine r_op (o_assign rfl rfl) ?_
      refine r_end ?_
      refine t_ret Try.func35 (.tmp rfl .nil) rfl fun E S w u hI hd => ?_
      refine post_mk hI hd ?_ trivial rfl rfl rfl <;> clear hI hd
      all_goals first | rfl | (refine scB ?_; first | (rw [memU_of (by omega) (by omega)]; done) | (rw [memU_not (by omega)]; done) | (unfold memU; grind))
    ·
      have g2' := of_decide_eq_false (bnt g2)
      refine r_guard rfl rfl rfl (nc g2) (fun _ => ?_)
      refine r_guard rfl rfl rfl (nc g2) (fun _ => ?_)
      refine r_guard rfl rfl rfl (nc g2) (fun _ => ?_)
      refine r_guard rfl rfl rfl (nc g2) (fun _ => ?_)
      refine r_guard rfl rfl rfl (fun _ => ?_) (nc g1)
      refine r_op (o_pickT rfl rfl g2 rfl) ?_
      refine r_op (o_pickT rfl rfl g1 rfl) ?_
      refine r_op (o_assign rfl rfl) ?_
      refine r_end ?_
      refine t_ret Try.func35 (.tmp rfl .nil) rfl fun E S w u hI hd => ?_
      refine post_mk hI hd ?_ trivial rfl rfl rfl <;> clear hI hd
      all_goals first | rfl | (refine scB ?_; first | (rw [memU_of (by omega) (by omega)]; done) | (rw [memU_not (by omega)]; done) | (unfold memU; grind))
  ·
    have g1' := of_decide_eq_false g1
    refine r_guard rfl rfl rfl (ncf g1) (fun _ => ?_)
    refine r_guard rfl rfl rfl (ncf g1) (fun _ => ?_)
    refine r_skip rfl rfl rfl ?_
    refine r_skip rfl rfl rfl ?_
    refine r_skip rfl rfl rfl ?_
    refine r_skip rfl rfl rfl ?_
    refine r_skip rfl rfl rfl ?_
    refine r_guard rfl rfl rfl (ncf g1) (fun _ => ?_)
    refine r_op (o_pickF rfl rfl g1 rfl) ?_
    refine r_op (o_assign rfl rfl) ?_
    refine r_end ?_
    refine t_ret Try.func35 (.tmp rfl .nil) rfl fun E S w u hI hd => ?_
    refine post_mk hI hd ?_ trivial rfl rfl rfl <;> clear hI hd
    all_goals first | rfl | (refine scB ?_; first | (rw [memU_of (by omega) (by omega)]; done) | (rw [memU_not (by omega)]; done) | (unfold memU; grind))
set_option maxHeartbeats 1000000 in
set_option maxRecDepth 10000 in
theorem c_impl_IsNull (v : Int) : Pu Try.prog 27 [.c (.t none (.v (.int .i64 (v))))] [] 0 (.c (.t none (.v (.bool (decide (v < 0)))))) := by
  refine pu_enter Try.func27 rfl (Nat.le_of_ble_eq_true rfl) fun w S => ?_
  refine t_seq ?_
  refine t_region ?_
  refine r_op (o_assign rfl rfl) ?_
  refine r_end ?_
  refine t_seq ?_
  refine t_region ?_
  refine r_op (o_move rfl rfl) ?_
  refine r_op (o_bin rfl rfl rfl rfl) ?_
  refine r_op (o_assign rfl rfl) ?_
  refine r_end ?_
  refine t_ret Try.func27 (.tmp rfl .nil) rfl fun E S w u hI hd => ?_
  refine post_mk hI hd ?_ trivial rfl rfl rfl <;> clear hI hd
  all_goals first | rfl | (rfl)
set_option maxHeartbeats 1000000 in
set_option maxRecDepth 10000 in
theorem c_impl_Union (l : List Int) (a b : Int) (hl : l.length ≤ 1048576) (ho : ∀ x ∈ l, okI x) (ha : okI a) (hb : okI b) : Pu Try.prog 15 [.agg [.t none (.sl 1 encI (l))], .c (.t none (.v (.int .i64 (a)))), .c (.t none (.v (.int .i64 (b))))] [(2, some (.row none 3 true 1 encI (uniL l a b)))] 3 (.tup [(true, [.own 2]), (false, [.t none (.v (.int .i64 (uniC l a b)))])]) := by
  refine pu_enter Try.func15 rfl (Nat.le_of_ble_eq_true rfl) fun w S => ?_
  have ha1 := ha.1; have ha2 := ha.2; have hb1 := hb.1; have hb2 := hb.2
  refine t_seq ?_
  refine t_region ?_
  refine r_op (o_box 0 rfl rfl rfl rfl) ?_
  refine r_op (o_alloc 1 (zs := [.slice none 0 0]) rfl rfl (by kernel_rfl) rfl) ?_
  refine r_op (o_assign rfl rfl) ?_
  refine r_end ?_
  refine t_seq ?_
  refine t_region ?_
  refine r_op (o_fieldb rfl (off := 0) (by kernel_rfl) rfl) ?_
  refine r_op (o_load1b rfl (by kernel_rfl) rfl rfl rfl) ?_
  refine r_op (o_call 2 3 false (Go.Proofs.enters_of Try.func34 (by kernel_rfl) rfl) (c_slices_Clone___int_int_ (l) (by first | omega | assumption | (simp; omega))) rfl (.cons rfl (.c .t0) .nil) rfl rfl rfl) ?_
  refine r_op (o_build rfl (pl := [(0, 1)]) (zs := [.slice none 0 0]) (by kernel_rfl) (by kernel_rfl) rfl rfl rfl) ?_
  refine r_op (o_alloc 3 (zs := [.slice none 0 0]) rfl rfl (by kernel_rfl) rfl) ?_
  refine r_op (o_storeb (n := 1) (by kernel_rfl) rfl rfl rfl rfl rfl rfl) ?_
  refine r_end ?_
  refine t_seq ?_
  refine t_draw (fun _ => true) (by kernel_rfl) ?_
  refine d_take 0 rfl rfl (by kernel_rfl) (by kernel_rfl) (by kernel_rfl) (p_loadAb (n := 1) (by kernel_rfl) (by kernel_rfl) rfl rfl rfl) ?_
  refine d_take 1 rfl rfl (by kernel_rfl) (by kernel_rfl) (by kernel_rfl) (p_move rfl) ?_
  refine d_take 3 rfl rfl (by kernel_rfl) (by kernel_rfl) (by kernel_rfl) (p_loadAb (n := 1) (by kernel_rfl) (by kernel_rfl) rfl rfl rfl) ?_
  refine d_take 4 rfl rfl (by kernel_rfl) (by kernel_rfl) (by kernel_rfl) (p_move rfl) ?_
  refine d_only 2 rfl (by kernel_rfl) rfl (o_call 4 4 false (Go.Proofs.enters_of Try.func10 (by kernel_rfl) rfl) (c_impl_Find (l) (a) (by first | omega | assumption | (simp; omega)) (by first | omega | assumption | (simp; omega)) (by first | omega | assumption | (simp; omega))) rfl (.cons rfl (.agg (.cons .t0 .nil)) (.cons rfl (.c .t0) .nil)) rfl rfl rfl) ?_
  refine d_only 5 rfl (by kernel_rfl) rfl (o_call 4 4 false (Go.Proofs.enters_of Try.func10 (by kernel_rfl) rfl) (c_impl_Find (l) (b) (by first | omega | assumption | (simp; omega)) (by first | omega | assumption | (simp; omega)) (by first | omega | assumption | (simp; omega))) rfl (.cons rfl (.agg (.cons .t0 .nil)) (.cons rfl (.c .t0) .nil)) rfl rfl rfl) ?_
  refine d_take 6 rfl rfl (by kernel_rfl) (by kernel_rfl) (by kernel_rfl) (p_assign rfl) ?_
  refine d_take 7 rfl rfl (by kernel_rfl) (by kernel_rfl) (by kernel_rfl) (p_assign rfl) ?_
  refine d_end (by kernel_rfl) ?_
  refine t_seq ?_
  refine t_block ?_
  refine t_seq ?_
  refine t_region ?_
  refine r_op (o_loadAb rfl (n := 1) (by kernel_rfl) (by kernel_rfl) rfl rfl rfl) ?_
  refine r_op (o_call 4 4 false (Go.Proofs.enters_of Try.func19 (by kernel_rfl) rfl) (c_impl_IsValidUnionFind (l) (by first | omega | assumption | (simp; omega)) (by first | omega | assumption | (simp; omega))) rfl (.cons rfl (.agg (.cons .t0 .nil)) .nil) rfl rfl rfl) ?_
  refine r_op (o_not rfl rfl) ?_
  refine r_op (o_move rfl rfl) ?_
  refine r_guard rfl rfl rfl (fun g1 => ?_) (fun g1 => ?_)
  ·
    have g1' := (bnf g1)
    refine r_op (o_loadAb rfl (n := 1) (by kernel_rfl) (by kernel_rfl) rfl rfl rfl) ?_
    refine r_guard rfl rfl rfl (fun _ => ?_) (ncf g1)
    refine r_op (o_move rfl rfl) ?_
    refine r_guard rfl rfl rfl (fun _ => ?_) (ncf g1)
    refine r_op (o_call 4 4 false (Go.Proofs.enters_of Try.func35 (by kernel_rfl) rfl) (c_impl_isMember (l) (a) (by first | omega | assumption | (simp; omega)) (by first | omega | assumption | (simp; omega)) (by first | omega | assumption | (simp; omega))) rfl (.cons rfl (.agg (.cons .t0 .nil)) (.cons rfl (.c .t0) .nil)) rfl rfl rfl) ?_
    refine r_guard rfl rfl rfl (fun _ => ?_) (ncf g1)
    refine r_op (o_not rfl rfl) ?_
    refine r_op (o_pickF rfl rfl g1 rfl) ?_
    refine r_op (o_move rfl rfl) ?_
    refine r_guard rfl rfl rfl (fun g2 => ?_) (fun g2 => ?_)
    ·
      have g2' := (bnf g2)
      refine r_op (o_loadAb rfl (n := 1) (by kernel_rfl) (by kernel_rfl) rfl rfl rfl) ?_
      refine r_guard rfl rfl rfl (fun _ => ?_) (ncf g2)
      refine r_op (o_move rfl rfl) ?_
      refine r_guard rfl rfl rfl (fun _ => ?_) (ncf g2)
      refine r_op (o_call 4 4 false (Go.Proofs.enters_of Try.func35 (by kernel_rfl) rfl) (c_impl_isMember (l) (b) (by first | omega | assumption | (simp; omega)) (by first | omega | assumption | (simp; omega)) (by first | omega | assumption | (simp; omega))) rfl (.cons rfl (.agg (.cons .t0 .nil)) (.cons rfl (.c .t0) .nil)) rfl rfl rfl) ?_
      refine r_guard rfl rfl rfl (fun _ => ?_) (ncf g2)
      refine r_op (o_not rfl rfl) ?_
      refine r_op (o_pickF rfl rfl g2 rfl) ?_
      refine r_op (o_assign rfl rfl) ?_
      refine r_end ?_
      refine t_cond rfl (fun h3 => ?_) (fun h3 => ?_)
      ·
        have h3' := (bnt h3)
        refine t_seq ?_
        refine t_region ?_
        refine r_op (o_loadAb rfl (n := 1) (by kernel_rfl) (by kernel_rfl) rfl rfl rfl) ?_
        refine r_op (o_storeb (n := 1) (by kernel_rfl) rfl rfl rfl rfl rfl rfl) ?_
        refine r_op (o_assign rfl rfl) ?_
        refine r_end ?_
        refine t_ret Try.func15 (.cells (n := 1) (by kernel_rfl) (by kernel_rfl) rfl rfl rfl (.tmp rfl .nil)) rfl fun E S w u hI hd => ?_
        refine post_mk hI hd ?_ ⟨eqR ?_, trivial⟩ rfl rfl rfl <;> clear hI hd <;> (try clear ih0)
        all_goals first | rfl | (clear ho ha hb; first | ((have UC : uniC l a b = 2 := by (first | exact uniC_bad (.inl (by assumption)) | exact uniC_bad (.inr (.inl (by first | assumption | exact memU_not (by omega)))) | exact uniC_bad (.inr (.inr (by first | assumption | exact memU_not (by omega)))) | exact uniC_same (by assumption) (by first | assumption | exact memU_of (by omega) (by omega)) (by first | assumption | exact memU_of (by omega) (by omega)) (by omega) | exact uniC_const (by assumption) (by first | assumption | exact memU_of (by omega) (by omega)) (by first | assumption | exact memU_of (by omega) (by omega)) (by omega) (by omega) | exact uniC_done (by assumption) (by first | assumption | exact memU_of (by omega) (by omega)) (by first | assumption | exact memU_of (by omega) (by omega)) (by omega) (by omega))); first | exact tupU UC | exact uniL_keep UC (by decide)) | ((have UC : uniC l a b = 0 := by (first | exact uniC_bad (.inl (by assumption)) | exact uniC_bad (.inr (.inl (by first | assumption | exact memU_not (by omega)))) | exact uniC_bad (.inr (.inr (by first | assumption | exact memU_not (by omega)))) | exact uniC_same (by assumption) (by first | assumption | exact memU_of (by omega) (by omega)) (by first | assumption | exact memU_of (by omega) (by omega)) (by omega) | exact uniC_const (by assumption) (by first | assumption | exact memU_of (by omega) (by omega)) (by first | assumption | exact memU_of (by omega) (by omega)) (by omega) (by omega) | exact uniC_done (by assumption) (by first | assumption | exact memU_of (by omega) (by omega)) (by first | assumption | exact memU_of (by omega) (by omega)) (by omega) (by omega))); first | exact tupU UC | exact uniL_keep UC (by decide)) | ((have UC : uniC l a b = 1 := by (first | exact uniC_bad (.inl (by assumption)) | exact uniC_bad (.inr (.inl (by first | assumption | exact memU_not (by omega)))) | exact uniC_bad (.inr (.inr (by first | assumption | exact memU_not (by omega)))) | exact uniC_same (by assumption) (by first | assumption | exact memU_of (by omega) (by omega)) (by first | assumption | exact memU_of (by omega) (by omega)) (by omega) | exact uniC_const (by assumption) (by first | assumption | exact memU_of (by omega) (by omega)) (by first | assumption | exact memU_of (by omega) (by omega)) (by omega) (by omega) | exact uniC_done (by assumption) (by first | assumption | exact memU_of (by omega) (by omega)) (by first | assumption | exact memU_of (by omega) (by omega)) (by omega) (by omega))); first | exact tupU UC | exact uniL_done UC (by omega)))
      ·
        have h3' := (bnf h3)
        refine t_seq ?_
        refine t_region ?_
        refine r_op (o_move rfl rfl) ?_
        refine r_op (o_move rfl rfl) ?_
        refine r_op (o_bin rfl rfl rfl rfl) ?_
        refine r_op (o_assign rfl rfl) ?_
        refine r_end ?_
        refine t_cond rfl (fun h4 => ?_) (fun h4 => ?_)
        ·
          have h4' := of_decide_eq_true h4
          refine t_seq ?_
          refine t_region ?_
          refine r_op (o_loadAb rfl (n := 1) (by kernel_rfl) (by kernel_rfl) rfl rfl rfl) ?_
          refine r_op (o_storeb (n := 1) (by kernel_rfl) rfl rfl rfl rfl rfl rfl) ?_
          refine r_op (o_assign rfl rfl) ?_
          refine r_end ?_
          refine t_ret Try.func15 (.cells (n := 1) (by kernel_rfl) (by kernel_rfl) rfl rfl rfl (.tmp rfl .nil)) rfl fun E S w u hI hd => ?_
          refine post_mk hI hd ?_ ⟨eqR ?_, trivial⟩ rfl rfl rfl <;> clear hI hd <;> (try clear ih0)
          all_goals first | rfl | (clear ho ha hb; first | ((have UC : uniC l a b = 2 := by (first | exact uniC_bad (.inl (by assumption)) | exact uniC_bad (.inr (.inl (by first | assumption | exact memU_not (by omega)))) | exact uniC_bad (.inr (.inr (by first | assumption | exact memU_not (by omega)))) | exact uniC_same (by assumption) (by first | assumption | exact memU_of (by omega) (by omega)) (by first | assumption | exact memU_of (by omega) (by omega)) (by omega) | exact uniC_const (by assumption) (by first | assumption | exact memU_of (by omega) (by omega)) (by first | assumption | exact memU_of (by omega) (by omega)) (by omega) (by omega) | exact uniC_done (by assumption) (by first | assumption | exact memU_of (by omega) (by omega)) (by first | assumption | exact memU_of (by omega) (by omega)) (by omega) (by omega))); first | exact tupU UC | exact uniL_keep UC (by decide)) | ((have UC : uniC l a b = 0 := by (first | exact uniC_bad (.inl (by assumption)) | exact uniC_bad (.inr (.inl (by first | assumption | exact memU_not (by omega)))) | exact uniC_bad (.inr (.inr (by first | assumption | exact memU_not (by omega)))) | exact uniC_same (by assumption) (by first | assumption | exact memU_of (by omega) (by omega)) (by first | assumption | exact memU_of (by omega) (by omega)) (by omega) | exact uniC_const (by assumption) (by first | assumption | exact memU_of (by omega) (by omega)) (by first | assumption | exact memU_of (by omega) (by omega)) (by omega) (by omega) | exact uniC_done (by assumption) (by first | assumption | exact memU_of (by omega) (by omega)) (by first | assumption | exact memU_of (by omega) (by omega)) (by omega) (by omega))); first | exact tupU UC | exact uniL_keep UC (by decide)) | ((have UC : uniC l a b = 1 := by (first | exact uniC_bad (.inl (by assumption)) | exact uniC_bad (.inr (.inl (by first | assumption | exact memU_not (by omega)))) | exact uniC_bad (.inr (.inr (by first | assumption | exact memU_not (by omega)))) | exact uniC_same (by assumption) (by first | assumption | exact memU_of (by omega) (by omega)) (by first | assumption | exact memU_of (by omega) (by omega)) (by omega) | exact uniC_const (by assumption) (by first | assumption | exact memU_of (by omega) (by omega)) (by first | assumption | exact memU_of (by omega) (by omega)) (by omega) (by omega) | exact uniC_done (by assumption) (by first | assumption | exact memU_of (by omega) (by omega)) (by first | assumption | exact memU_of (by omega) (by omega)) (by omega) (by omega))); first | exact tupU UC | exact uniL_done UC (by omega)))
        ·
          have h4' := of_decide_eq_false h4
          refine t_seq ?_
          refine t_region ?_
          refine r_op (o_move rfl rfl) ?_
          refine r_op (o_call 4 4 false (Go.Proofs.enters_of Try.func27 (by kernel_rfl) rfl) (c_impl_IsNull (findU (l) (a))) rfl (.cons rfl (.c .t0) .nil) rfl rfl rfl) ?_
          refine r_op (o_not rfl rfl) ?_
          refine r_op (o_move rfl rfl) ?_
          refine r_guard rfl rfl rfl (fun g5 => ?_) (fun g5 => ?_)
          ·
            have g5' := of_decide_eq_false (bnt g5)
            refine r_op (o_move rfl rfl) ?_
            refine r_guard rfl rfl rfl (fun _ => ?_) (nc g5)
            refine r_op (o_call 4 4 false (Go.Proofs.enters_of Try.func27 (by kernel_rfl) rfl) (c_impl_IsNull (findU (l) (b))) rfl (.cons rfl (.c .t0) .nil) rfl rfl rfl) ?_
            refine r_guard rfl rfl rfl (fun _ => ?_) (nc g5)
            refine r_op (o_not rfl rfl) ?_
            refine r_op (o_pickT rfl rfl g5 rfl) ?_
            refine r_op (o_assign rfl rfl) ?_
            refine r_end ?_
            refine t_cond rfl (fun h6 => ?_) (fun h6 => ?_)
            ·
              have h6' := of_decide_eq_false (bnt h6)
              refine t_seq ?_
              refine t_region ?_
              refine r_op (o_loadAb rfl (n := 1) (by kernel_rfl) (by kernel_rfl) rfl rfl rfl) ?_
              refine r_op (o_storeb (n := 1) (by kernel_rfl) rfl rfl rfl rfl rfl rfl) ?_
              refine r_op (o_assign rfl rfl) ?_
              refine r_end ?_
              refine t_ret Try.func15 (.cells (n := 1) (by kernel_rfl) (by kernel_rfl) rfl rfl rfl (.tmp rfl .nil)) rfl fun E S w u hI hd => ?_
              refine post_mk hI hd ?_ ⟨eqR ?_, trivial⟩ rfl rfl rfl <;> clear hI hd <;> (try clear ih0)
              all_goals first | rfl | (clear ho ha hb; first | ((have UC : uniC l a b = 2 := by (first | exact uniC_bad (.inl (by assumption)) | exact uniC_bad (.inr (.inl (by first | assumption | exact memU_not (by omega)))) | exact uniC_bad (.inr (.inr (by first | assumption | exact memU_not (by omega)))) | exact uniC_same (by assumption) (by first | assumption | exact memU_of (by omega) (by omega)) (by first | assumption | exact memU_of (by omega) (by omega)) (by omega) | exact uniC_const (by assumption) (by first | assumption | exact memU_of (by omega) (by omega)) (by first | assumption | exact memU_of (by omega) (by omega)) (by omega) (by omega) | exact uniC_done (by assumption) (by first | assumption | exact memU_of (by omega) (by omega)) (by first | assumption | exact memU_of (by omega) (by omega)) (by omega) (by omega))); first | exact tupU UC | exact uniL_keep UC (by decide)) | ((have UC : uniC l a b = 0 := by (first | exact uniC_bad (.inl (by assumption)) | exact uniC_bad (.inr (.inl (by first | assumption | exact memU_not (by omega)))) | exact uniC_bad (.inr (.inr (by first | assumption | exact memU_not (by omega)))) | exact uniC_same (by assumption) (by first | assumption | exact memU_of (by omega) (by omega)) (by first | assumption | exact memU_of (by omega) (by omega)) (by omega) | exact uniC_const (by assumption) (by first | assumption | exact memU_of (by omega) (by omega)) (by first | assumption | exact memU_of (by omega) (by omega)) (by omega) (by omega) | exact uniC_done (by assumption) (by first | assumption | exact memU_of (by omega) (by omega)) (by first | assumption | exact memU_of (by omega) (by omega)) (by omega) (by omega))); first | exact tupU UC | exact uniL_keep UC (by decide)) | ((have UC : uniC l a b = 1 := by (first | exact uniC_bad (.inl (by assumption)) | exact uniC_bad (.inr (.inl (by first | assumption | exact memU_not (by omega)))) | exact uniC_bad (.inr (.inr (by first | assumption | exact memU_not (by omega)))) | exact uniC_same (by assumption) (by first | assumption | exact memU_of (by omega) (by omega)) (by first | assumption | exact memU_of (by omega) (by omega)) (by omega) | exact uniC_const (by assumption) (by first | assumption | exact memU_of (by omega) (by omega)) (by first | assumption | exact memU_of (by omega) (by omega)) (by omega) (by omega) | exact uniC_done (by assumption) (by first | assumption | exact memU_of (by omega) (by omega)) (by first | assumption | exact memU_of (by omega) (by omega)) (by omega) (by omega))); first | exact tupU UC | exact uniL_done UC (by omega)))
            ·
              have h6' := of_decide_eq_true (bnf h6)
              refine t_skip ?_
              refine t_endblock ?_
              refine t_seq ?_
              refine t_region ?_
              refine r_op (o_move rfl rfl) ?_
              refine r_op (o_move rfl rfl) ?_
              refine r_op (o_min rfl rfl rfl) ?_
              refine r_op (o_move rfl rfl) ?_
              refine r_op (o_move rfl rfl) ?_
              refine r_op (o_max rfl rfl rfl) ?_
              refine r_op (o_assign rfl rfl) ?_
              refine r_op (o_assign rfl rfl) ?_
              refine r_end ?_
              refine t_seq ?_
              refine t_seq ?_
              refine t_region ?_
              refine r_op (o_fieldb rfl (off := 0) (by kernel_rfl) rfl) ?_
              refine r_op (o_load1b rfl (by kernel_rfl) rfl rfl rfl) ?_
              refine r_op (o_leno rfl rfl rfl rfl) ?_
              refine r_op (o_move rfl rfl) ?_
              refine r_end ?_
              refine t_block ?_
              refine t_loopL (fun m => ⟨[(6, some (.c (.ptr 1 0))), (7, some (.c (.t none (.v (.int .i64 (0)))))), (8, some (.c (.ptr 3 0))), (11, some (.c (.t none (.v (.int .i64 (if (findU (l) (b)) < (findU (l) (a)) then (findU (l) (b)) else (findU (l) (a)))))))), (12, some (.c (.t none (.v (.int .i64 (if (findU (l) (a)) < (findU (l) (b)) then (findU (l) (b)) else (findU (l) (a)))))))), (64, some (.c (.own 2))), (65, some (.c (.t none (.v (.int .i64 ((((l)).length : Int))))))), (66, some (.c (.t none (.v (.int .i64 ((m : Int)))))))], [(0, some (.box [.t none (.sl 1 encI (l))])), (1, some (.box [.t none (.v (.slice none 0 0))])), (2, some (.row none 3 true 1 encI ((l.take m).map (repU (findU l a) (findU l b)) ++ l.drop m))), (3, some (.box [.own 2]))], 4⟩ : Nat → St) (fun m => m ≤ l.length) (fun m => l.length - m) 0 ⟨⟨rfl, ⟨rfl, ⟨rfl, ⟨rfl, ⟨rfl, ⟨rfl, ⟨rfl, ⟨rfl, trivial⟩⟩⟩⟩⟩⟩⟩⟩, ⟨rfl, ⟨rfl, ⟨(eqR (by simp)), ⟨rfl, trivial⟩⟩⟩⟩, rfl⟩ (by exact Nat.zero_le _) ?_
              rintro m hI ih0
              try dsimp only at hI ih0
              have i1 := hI; have hlen : ((l.take m).map (repU (findU l a) (findU l b)) ++ l.drop m).length = l.length := by (simp; omega)
              refine t_seq ?_
              refine t_region ?_
              refine r_op (o_bin rfl rfl rfl rfl) ?_
              refine r_end ?_
              refine t_seq ?_
              refine t_cond rfl (fun h7 => ?_) (fun h7 => ?_)
              ·
                have h7' := of_decide_eq_true h7
                refine t_skip ?_
                refine t_seq ?_
                refine t_block ?_
                refine t_seq ?_
                refine t_region ?_
                refine r_op (o_move rfl rfl) ?_
                obtain ⟨z8, hz9, b10⟩ := at_get (xs := (l.take m).map (repU (findU l a) (findU l b)) ++ l.drop m) (n := (m : Int)) (by first | omega | assumption | (simp; omega)) (by first | omega | assumption | (simp; omega))
                refine r_op (o_indexo rfl (by kernel_rfl) rfl rfl rfl b10 (at_lt b10 hz9)) ?_
                refine r_op (o_load1o rfl (by kernel_rfl) rfl rfl rfl hz9) ?_
                refine r_op (o_assign rfl rfl) ?_
                refine r_op (o_assign rfl rfl) ?_
                refine r_end ?_
                refine t_seq ?_
                refine t_region ?_
                refine r_op (o_move rfl rfl) ?_
                refine r_op (o_move rfl rfl) ?_
                refine r_op (o_bin rfl rfl rfl rfl) ?_
                refine r_end ?_
                refine t_cond rfl (fun h11 => ?_) (fun h11 => ?_)
                ·
                  have h11' := of_decide_eq_true h11
                  refine t_region ?_
                  refine r_op (o_fieldb rfl (off := 0) (by kernel_rfl) rfl) ?_
                  refine r_op (o_load1b rfl (by kernel_rfl) rfl rfl rfl) ?_
                  refine r_op (o_move rfl rfl) ?_
                  refine r_op (o_move rfl rfl) ?_
                  refine r_op (o_indexo rfl (by kernel_rfl) rfl rfl rfl b10 (at_lt b10 hz9)) ?_
                  refine r_op (o_storeo (if (findU (l) (a)) < (findU (l) (b)) then (findU (l) (b)) else (findU (l) (a))) (n := 1) (by kernel_rfl) rfl rfl hz9 rfl rfl rfl rfl (.cons .sc .nil) rfl (fun j h1 h2 => by simp at h1 h2; omega)) ?_
                  refine r_end ?_
                  refine t_endblock ?_
                  refine t_region ?_
                  refine r_op (o_bin rfl rfl rfl rfl) ?_
                  refine r_op (o_move rfl rfl) ?_
                  refine r_end ?_
                  refine t_le ?_ (ih0 (m + 1) (by (try dsimp only); omega) (by (try dsimp only); omega))
                  exact ⟨⟨rfl, ⟨rfl, ⟨rfl, ⟨rfl, ⟨rfl, ⟨rfl, ⟨rfl, ⟨(eqI (wr64 (by omega) (by omega))), trivial⟩⟩⟩⟩⟩⟩⟩⟩, ⟨rfl, ⟨rfl, ⟨(eqR (by have ma := map_at (l := l) (m := m) hz9 i1; first | exact map_set (f := repU (findU l a) (findU l b)) ma (repU_hit (by assumption)) | exact map_skip (f := repU (findU l a) (findU l b)) ma (repU_miss (by assumption)))), ⟨rfl, trivial⟩⟩⟩⟩, rfl⟩
                ·
                  have h11' := of_decide_eq_false h11
                  refine t_skip ?_
                  refine t_endblock ?_
                  refine t_region ?_
                  refine r_op (o_bin rfl rfl rfl rfl) ?_
                  refine r_op (o_move rfl rfl) ?_
                  refine r_end ?_
                  refine t_le ?_ (ih0 (m + 1) (by (try dsimp only); omega) (by (try dsimp only); omega))
                  exact ⟨⟨rfl, ⟨rfl, ⟨rfl, ⟨rfl, ⟨rfl, ⟨rfl, ⟨rfl, ⟨(eqI (wr64 (by omega) (by omega))), trivial⟩⟩⟩⟩⟩⟩⟩⟩, ⟨rfl, ⟨rfl, ⟨(eqR (by have ma := map_at (l := l) (m := m) hz9 i1; first | exact map_set (f := repU (findU l a) (findU l b)) ma (repU_hit (by assumption)) | exact map_skip (f := repU (findU l a) (findU l b)) ma (repU_miss (by assumption)))), ⟨rfl, trivial⟩⟩⟩⟩, rfl⟩
              ·
                have h7' := of_decide_eq_false h7
                refine t_exit rfl ?_
                refine t_seq ?_
                refine t_region ?_
                refine r_op (o_loadAb rfl (n := 1) (by kernel_rfl) (by kernel_rfl) rfl rfl rfl) ?_
                refine r_op (o_storeb (n := 1) (by kernel_rfl) rfl rfl rfl rfl rfl rfl) ?_
                refine r_op (o_assign rfl rfl) ?_
                refine r_end ?_
                refine t_ret Try.func15 (.cells (n := 1) (by kernel_rfl) (by kernel_rfl) rfl rfl rfl (.tmp rfl .nil)) rfl fun E S w u hI hd => ?_
                refine post_mk hI hd ?_ ⟨eqR ?_, trivial⟩ rfl rfl rfl <;> clear hI hd <;> (try clear ih0)
                all_goals first | rfl | (clear ho ha hb; first | ((have UC : uniC l a b = 2 := by (first | exact uniC_bad (.inl (by assumption)) | exact uniC_bad (.inr (.inl (by first | assumption | exact memU_not (by omega)))) | exact uniC_bad (.inr (.inr (by first | assumption | exact memU_not (by omega)))) | exact uniC_same (by assumption) (by first | assumption | exact memU_of (by omega) (by omega)) (by first | assumption | exact memU_of (by omega) (by omega)) (by omega) | exact uniC_const (by assumption) (by first | assumption | exact memU_of (by omega) (by omega)) (by first | assumption | exact memU_of (by omega) (by omega)) (by omega) (by omega) | exact uniC_done (by assumption) (by first | assumption | exact memU_of (by omega) (by omega)) (by first | assumption | exact memU_of (by omega) (by omega)) (by omega) (by omega))); first | exact tupU UC | exact uniL_keep UC (by decide)) | ((have UC : uniC l a b = 0 := by (first | exact uniC_bad (.inl (by assumption)) | exact uniC_bad (.inr (.inl (by first | assumption | exact memU_not (by omega)))) | exact uniC_bad (.inr (.inr (by first | assumption | exact memU_not (by omega)))) | exact uniC_same (by assumption) (by first | assumption | exact memU_of (by omega) (by omega)) (by first | assumption | exact memU_of (by omega) (by omega)) (by omega) | exact uniC_const (by assumption) (by first | assumption | exact memU_of (by omega) (by omega)) (by first | assumption | exact memU_of (by omega) (by omega)) (by omega) (by omega) | exact uniC_done (by assumption) (by first | assumption | exact memU_of (by omega) (by omega)) (by first | assumption | exact memU_of (by omega) (by omega)) (by omega) (by omega))); first | exact tupU UC | exact uniL_keep UC (by decide)) | ((have UC : uniC l a b = 1 := by (first | exact uniC_bad (.inl (by assumption)) | exact uniC_bad (.inr (.inl (by first | assumption | exact memU_not (by omega)))) | exact uniC_bad (.inr (.inr (by first | assumption | exact memU_not (by omega)))) | exact uniC_same (by assumption) (by first | assumption | exact memU_of (by omega) (by omega)) (by first | assumption | exact memU_of (by omega) (by omega)) (by omega) | exact uniC_const (by assumption) (by first | assumption | exact memU_of (by omega) (by omega)) (by first | assumption | exact memU_of (by omega) (by omega)) (by omega) (by omega) | exact uniC_done (by assumption) (by first | assumption | exact memU_of (by omega) (by omega)) (by first | assumption | exact memU_of (by omega) (by omega)) (by omega) (by omega))); first | exact tupU UC | exact uniL_done UC (by omega)))
          ·
            have g5' := of_decide_eq_true (bnf g5)
            refine r_guard rfl rfl rfl (ncf g5) (fun _ => ?_)
            refine r_guard rfl rfl rfl (ncf g5) (fun _ => ?_)
            refine r_op (o_pickF rfl rfl g5 rfl) ?_
            refine r_op (o_assign rfl rfl) ?_
            refine r_end ?_
            refine t_cond rfl (ncf rfl) (fun _ => ?_)
            refine t_skip ?_
            refine t_endblock ?_
            refine t_seq ?_
            refine t_region ?_
            refine r_op (o_move rfl rfl) ?_
            refine r_op (o_move rfl rfl) ?_
            refine r_op (o_min rfl rfl rfl) ?_
            refine r_op (o_move rfl rfl) ?_
            refine r_op (o_move rfl rfl) ?_
            refine r_op (o_max rfl rfl rfl) ?_
            refine r_op (o_assign rfl rfl) ?_
            refine r_op (o_assign rfl rfl) ?_
            refine r_end ?_
            refine t_seq ?_
            refine t_seq ?_
            refine t_region ?_
            refine r_op (o_fieldb rfl (off := 0) (by kernel_rfl) rfl) ?_
            refine r_op (o_load1b rfl (by kernel_rfl) rfl rfl rfl) ?_
            refine r_op (o_leno rfl rfl rfl rfl) ?_
            refine r_op (o_move rfl rfl) ?_
            refine r_end ?_
            refine t_block ?_
            refine t_loopL (fun m => ⟨[(6, some (.c (.ptr 1 0))), (7, some (.c (.t none (.v (.int .i64 (0)))))), (8, some (.c (.ptr 3 0))), (11, some (.c (.t none (.v (.int .i64 (if (findU (l) (b)) < (findU (l) (a)) then (findU (l) (b)) else (findU (l) (a)))))))), (12, some (.c (.t none (.v (.int .i64 (if (findU (l) (a)) < (findU (l) (b)) then (findU (l) (b)) else (findU (l) (a)))))))), (64, some (.c (.own 2))), (65, some (.c (.t none (.v (.int .i64 ((((l)).length : Int))))))), (66, some (.c (.t none (.v (.int .i64 ((m : Int)))))))], [(0, some (.box [.t none (.sl 1 encI (l))])), (1, some (.box [.t none (.v (.slice none 0 0))])), (2, some (.row none 3 true 1 encI ((l.take m).map (repU (findU l a) (findU l b)) ++ l.drop m))), (3, some (.box [.own 2]))], 4⟩ : Nat → St) (fun m => m ≤ l.length) (fun m => l.length - m) 0 ⟨⟨rfl, ⟨rfl, ⟨rfl, ⟨rfl, ⟨rfl, ⟨rfl, ⟨rfl, ⟨rfl, trivial⟩⟩⟩⟩⟩⟩⟩⟩, ⟨rfl, ⟨rfl, ⟨(eqR (by simp)), ⟨rfl, trivial⟩⟩⟩⟩, rfl⟩ (by exact Nat.zero_le _) ?_
            rintro m hI ih0
            try dsimp only at hI ih0
            have i1 := hI; have hlen : ((l.take m).map (repU (findU l a) (findU l b)) ++ l.drop m).length = l.length := by (simp; omega)
            refine t_seq ?_
            refine t_region ?_
            refine r_op (o_bin rfl rfl rfl rfl) ?_
            refine r_end ?_
            refine t_seq ?_
            refine t_cond rfl (fun h12 => ?_) (fun h12 => ?_)
            ·
              have h12' := of_decide_eq_true h12
              refine t_skip ?_
              refine t_seq ?_
              refine t_block ?_
              refine t_seq ?_
              refine t_region ?_
              refine r_op (o_move rfl rfl) ?_
              obtain ⟨z13, hz14, b15⟩ := at_get (xs := (l.take m).map (repU (findU l a) (findU l b)) ++ l.drop m) (n := (m : Int)) (by first | omega | assumption | (simp; omega)) (by first | omega | assumption | (simp; omega))
              refine r_op (o_indexo rfl (by kernel_rfl) rfl rfl rfl b15 (at_lt b15 hz14)) ?_
              refine r_op (o_load1o rfl (by kernel_rfl) rfl rfl rfl hz14) ?_
              refine r_op (o_assign rfl rfl) ?_
              refine r_op (o_assign rfl rfl) ?_
              refine r_end ?_
              refine t_seq ?_
              refine t_region ?_
              refine r_op (o_move rfl rfl) ?_
              refine r_op (o_move rfl rfl) ?_
              refine r_op (o_bin rfl rfl rfl rfl) ?_
              refine r_end ?_
              refine t_cond rfl (fun h16 => ?_) (fun h16 => ?_)
              ·
                have h16' := of_decide_eq_true h16
                refine t_region ?_
                refine r_op (o_fieldb rfl (off := 0) (by kernel_rfl) rfl) ?_
                refine r_op (o_load1b rfl (by kernel_rfl) rfl rfl rfl) ?_
                refine r_op (o_move rfl rfl) ?_
                refine r_op (o_move rfl rfl) ?_
                refine r_op (o_indexo rfl (by kernel_rfl) rfl rfl rfl b15 (at_lt b15 hz14)) ?_
                refine r_op (o_storeo (if (findU (l) (a)) < (findU (l) (b)) then (findU (l) (b)) else (findU (l) (a))) (n := 1) (by kernel_rfl) rfl rfl hz14 rfl rfl rfl rfl (.cons .sc .nil) rfl (fun j h1 h2 => by simp at h1 h2; omega)) ?_
                refine r_end ?_
                refine t_endblock ?_
                refine t_region ?_
                refine r_op (o_bin rfl rfl rfl rfl) ?_
                refine r_op (o_move rfl rfl) ?_
                refine r_end ?_
                refine t_le ?_ (ih0 (m + 1) (by (try dsimp only); omega) (by (try dsimp only); omega))
                exact ⟨⟨rfl, ⟨rfl, ⟨rfl, ⟨rfl, ⟨rfl, ⟨rfl, ⟨rfl, ⟨(eqI (wr64 (by omega) (by omega))), trivial⟩⟩⟩⟩⟩⟩⟩⟩, ⟨rfl, ⟨rfl, ⟨(eqR (by have ma := map_at (l := l) (m := m) hz14 i1; first | exact map_set (f := repU (findU l a) (findU l b)) ma (repU_hit (by assumption)) | exact map_skip (f := repU (findU l a) (findU l b)) ma (repU_miss (by assumption)))), ⟨rfl, trivial⟩⟩⟩⟩, rfl⟩
              ·
                have h16' := of_decide_eq_false h16
                refine t_skip ?_
                refine t_endblock ?_
                refine t_region ?_
                refine r_op (o_bin rfl rfl rfl rfl) ?_
                refine r_op (o_move rfl rfl) ?_
                refine r_end ?_
                refine t_le ?_ (ih0 (m + 1) (by (try dsimp only); omega) (by (try dsimp only); omega))
                exact ⟨⟨rfl, ⟨rfl, ⟨rfl, ⟨rfl, ⟨rfl, ⟨rfl, ⟨rfl, ⟨(eqI (wr64 (by omega) (by omega))), trivial⟩⟩⟩⟩⟩⟩⟩⟩, ⟨rfl, ⟨rfl, ⟨(eqR (by have ma := map_at (l := l) (m := m) hz14 i1; first | exact map_set (f := repU (findU l a) (findU l b)) ma (repU_hit (by assumption)) | exact map_skip (f := repU (findU l a) (findU l b)) ma (repU_miss (by assumption)))), ⟨rfl, trivial⟩⟩⟩⟩, rfl⟩
            ·
              have h12' := of_decide_eq_false h12
              refine t_exit rfl ?_
              refine t_seq ?_
              refine t_region ?_
              refine r_op (o_loadAb rfl (n := 1) (by kernel_rfl) (by kernel_rfl) rfl rfl rfl) ?_
              refine r_op (o_storeb (n := 1) (by kernel_rfl) rfl rfl rfl rfl rfl rfl) ?_
              refine r_op (o_assign rfl rfl) ?_
              refine r_end ?_
              refine t_ret Try.func15 (.cells (n := 1) (by kernel_rfl) (by kernel_rfl) rfl rfl rfl (.tmp rfl .nil)) rfl fun E S w u hI hd => ?_
              refine post_mk hI hd ?_ ⟨eqR ?_, trivial⟩ rfl rfl rfl <;> clear hI hd <;> (try clear ih0)
              all_goals first | rfl | (clear ho ha hb; first | ((have UC : uniC l a b = 2 := by (first | exact uniC_bad (.inl (by assumption)) | exact uniC_bad (.inr (.inl (by first | assumption | exact memU_not (by omega)))) | exact uniC_bad (.inr (.inr (by first | assumption | exact memU_not (by omega)))) | exact uniC_same (by assumption) (by first | assumption | exact memU_of (by omega) (by omega)) (by first | assumption | exact memU_of (by omega) (by omega)) (by omega) | exact uniC_const (by assumption) (by first | assumption | exact memU_of (by omega) (by omega)) (by first | assumption | exact memU_of (by omega) (by omega)) (by omega) (by omega) | exact uniC_done (by assumption) (by first | assumption | exact memU_of (by omega) (by omega)) (by first | assumption | exact memU_of (by omega) (by omega)) (by omega) (by omega))); first | exact tupU UC | exact uniL_keep UC (by decide)) | ((have UC : uniC l a b = 0 := by (first | exact uniC_bad (.inl (by assumption)) | exact uniC_bad (.inr (.inl (by first | assumption | exact memU_not (by omega)))) | exact uniC_bad (.inr (.inr (by first | assumption | exact memU_not (by omega)))) | exact uniC_same (by assumption) (by first | assumption | exact memU_of (by omega) (by omega)) (by first | assumption | exact memU_of (by omega) (by omega)) (by omega) | exact uniC_const (by assumption) (by first | assumption | exact memU_of (by omega) (by omega)) (by first | assumption | exact memU_of (by omega) (by omega)) (by omega) (by omega) | exact uniC_done (by assumption) (by first | assumption | exact memU_of (by omega) (by omega)) (by first | assumption | exact memU_of (by omega) (by omega)) (by omega) (by omega))); first | exact tupU UC | exact uniL_keep UC (by decide)) | ((have UC : uniC l a b = 1 := by (first | exact uniC_bad (.inl (by assumption)) | exact uniC_bad (.inr (.inl (by first | assumption | exact memU_not (by omega)))) | exact uniC_bad (.inr (.inr (by first | assumption | exact memU_not (by omega)))) | exact uniC_same (by assumption) (by first | assumption | exact memU_of (by omega) (by omega)) (by first | assumption | exact memU_of (by omega) (by omega)) (by omega) | exact uniC_const (by assumption) (by first | assumption | exact memU_of (by omega) (by omega)) (by first | assumption | exact memU_of (by omega) (by omega)) (by omega) (by omega) | exact uniC_done (by assumption) (by first | assumption | exact memU_of (by omega) (by omega)) (by first | assumption | exact memU_of (by omega) (by omega)) (by omega) (by omega))); first | exact tupU UC | exact uniL_done UC (by omega)))
    ·
      have g2' := (bnt g2)
      refine r_guard rfl rfl rfl (nc g2) (fun _ => ?_)
      refine r_guard rfl rfl rfl (nc g2) (fun _ => ?_)
      refine r_guard rfl rfl rfl (nc g2) (fun _ => ?_)
      refine r_op (o_pickT rfl rfl g2 rfl) ?_
      refine r_op (o_assign rfl rfl) ?_
      refine r_end ?_
      refine t_cond rfl (fun _ => ?_) (nc rfl)
      refine t_seq ?_
      refine t_region ?_
      refine r_op (o_loadAb rfl (n := 1) (by kernel_rfl) (by kernel_rfl) rfl rfl rfl) ?_
      refine r_op (o_storeb (n := 1) (by kernel_rfl) rfl rfl rfl rfl rfl rfl) ?_
      refine r_op (o_assign rfl rfl) ?_
      refine r_end ?_
      refine t_ret Try.func15 (.cells (n := 1) (by kernel_rfl) (by kernel_rfl) rfl rfl rfl (.tmp rfl .nil)) rfl fun E S w u hI hd => ?_
      refine post_mk hI hd ?_ ⟨eqR ?_, trivial⟩ rfl rfl rfl <;> clear hI hd <;> (try clear ih0)
      all_goals first | rfl | (clear ho ha hb; first | ((have UC : uniC l a b = 2 := by (first | exact uniC_bad (.inl (by assumption)) | exact uniC_bad (.inr (.inl (by first | assumption | exact memU_not (by omega)))) | exact uniC_bad (.inr (.inr (by first | assumption | exact memU_not (by omega)))) | exact uniC_same (by assumption) (by first | assumption | exact memU_of (by omega) (by omega)) (by first | assumption | exact memU_of (by omega) (by omega)) (by omega) | exact uniC_const (by assumption) (by first | assumption | exact memU_of (by omega) (by omega)) (by first | assumption | exact memU_of (by omega) (by omega)) (by omega) (by omega) | exact uniC_done (by assumption) (by first | assumption | exact memU_of (by omega) (by omega)) (by first | assumption | exact memU_of (by omega) (by omega)) (by omega) (by omega))); first | exact tupU UC | exact uniL_keep UC (by decide)) | ((have UC : uniC l a b = 0 := by (first | exact uniC_bad (.inl (by assumption)) | exact uniC_bad (.inr (.inl (by first | assumption | exact memU_not (by omega)))) | exact uniC_bad (.inr (.inr (by first | assumption | exact memU_not (by omega)))) | exact uniC_same (by assumption) (by first | assumption | exact memU_of (by omega) (by omega)) (by first | assumption | exact memU_of (by omega) (by omega)) (by omega) | exact uniC_const (by assumption) (by first | assumption | exact memU_of (by omega) (by omega)) (by first | assumption | exact memU_of (by omega) (by omega)) (by omega) (by omega) | exact uniC_done (by assumption) (by first | assumption | exact memU_of (by omega) (by omega)) (by first | assumption | exact memU_of (by omega) (by omega)) (by omega) (by omega))); first | exact tupU UC | exact uniL_keep UC (by decide)) | ((have UC : uniC l a b = 1 := by (first | exact uniC_bad (.inl (by assumption)) | exact uniC_bad (.inr (.inl (by first | assumption | exact memU_not (by omega)))) | exact uniC_bad (.inr (.inr (by first | assumption | exact memU_not (by omega)))) | exact uniC_same (by assumption) (by first | assumption | exact memU_of (by omega) (by omega)) (by first | assumption | exact memU_of (by omega) (by omega)) (by omega) | exact uniC_const (by assumption) (by first | assumption | exact memU_of (by omega) (by omega)) (by first | assumption | exact memU_of (by omega) (by omega)) (by omega) (by omega) | exact uniC_done (by assumption) (by first | assumption | exact memU_of (by omega) (by omega)) (by first | assumption | exact memU_of (by omega) (by omega)) (by omega) (by omega))); first | exact tupU UC | exact uniL_done UC (by omega)))
  ·
    have g1' := (bnt g1)
    refine r_guard rfl rfl rfl (nc g1) (fun _ => ?_)
    refine r_guard rfl rfl rfl (nc g1) (fun _ => ?_)
    refine r_guard rfl rfl rfl (nc g1) (fun _ => ?_)
    refine r_op (o_pickT rfl rfl g1 rfl) ?_
    refine r_op (o_move rfl rfl) ?_
    refine r_guard rfl rfl rfl (nc rfl) (fun _ => ?_)
    refine r_guard rfl rfl rfl (nc rfl) (fun _ => ?_)
    refine r_guard rfl rfl rfl (nc rfl) (fun _ => ?_)
    refine r_guard rfl rfl rfl (nc rfl) (fun _ => ?_)
    refine r_op (o_pickT rfl rfl rfl rfl) ?_
    refine r_op (o_assign rfl rfl) ?_
    refine r_end ?_
    refine t_cond rfl (fun _ => ?_) (nc rfl)
    refine t_seq ?_
    refine t_region ?_
    refine r_op (o_loadAb rfl (n := 1) (by kernel_rfl) (by kernel_rfl) rfl rfl rfl) ?_
    refine r_op (o_storeb (n := 1) (by kernel_rfl) rfl rfl rfl rfl rfl rfl) ?_
    refine r_op (o_assign rfl rfl) ?_
    refine r_end ?_
    refine t_ret Try.func15 (.cells (n := 1) (by kernel_rfl) (by kernel_rfl) rfl rfl rfl (.tmp rfl .nil)) rfl fun E S w u hI hd => ?_
    refine post_mk hI hd ?_ ⟨eqR ?_, trivial⟩ rfl rfl rfl <;> clear hI hd <;> (try clear ih0)
    all_goals first | rfl | (clear ho ha hb; first | ((have UC : uniC l a b = 2 := by (first | exact uniC_bad (.inl (by assumption)) | exact uniC_bad (.inr (.inl (by first | assumption | exact memU_not (by omega)))) | exact uniC_bad (.inr (.inr (by first | assumption | exact memU_not (by omega)))) | exact uniC_same (by assumption) (by first | assumption | exact memU_of (by omega) (by omega)) (by first | assumption | exact memU_of (by omega) (by omega)) (by omega) | exact uniC_const (by assumption) (by first | assumption | exact memU_of (by omega) (by omega)) (by first | assumption | exact memU_of (by omega) (by omega)) (by omega) (by omega) | exact uniC_done (by assumption) (by first | assumption | exact memU_of (by omega) (by omega)) (by first | assumption | exact memU_of (by omega) (by omega)) (by omega) (by omega))); first | exact tupU UC | exact uniL_keep UC (by decide)) | ((have UC : uniC l a b = 0 := by (first | exact uniC_bad (.inl (by assumption)) | exact uniC_bad (.inr (.inl (by first | assumption | exact memU_not (by omega)))) | exact uniC_bad (.inr (.inr (by first | assumption | exact memU_not (by omega)))) | exact uniC_same (by assumption) (by first | assumption | exact memU_of (by omega) (by omega)) (by first | assumption | exact memU_of (by omega) (by omega)) (by omega) | exact uniC_const (by assumption) (by first | assumption | exact memU_of (by omega) (by omega)) (by first | assumption | exact memU_of (by omega) (by omega)) (by omega) (by omega) | exact uniC_done (by assumption) (by first | assumption | exact memU_of (by omega) (by omega)) (by first | assumption | exact memU_of (by omega) (by omega)) (by omega) (by omega))); first | exact tupU UC | exact uniL_keep UC (by decide)) | ((have UC : uniC l a b = 1 := by (first | exact uniC_bad (.inl (by assumption)) | exact uniC_bad (.inr (.inl (by first | assumption | exact memU_not (by omega)))) | exact uniC_bad (.inr (.inr (by first | assumption | exact memU_not (by omega)))) | exact uniC_same (by assumption) (by first | assumption | exact memU_of (by omega) (by omega)) (by first | assumption | exact memU_of (by omega) (by omega)) (by omega) | exact uniC_const (by assumption) (by first | assumption | exact memU_of (by omega) (by omega)) (by first | assumption | exact memU_of (by omega) (by omega)) (by omega) (by omega) | exact uniC_done (by assumption) (by first | assumption | exact memU_of (by omega) (by omega)) (by first | assumption | exact memU_of (by omega) (by omega)) (by omega) (by omega))); first | exact tupU UC | exact uniL_done UC (by omega)))
set_option maxHeartbeats 1000000 in
set_option maxRecDepth 10000 in
theorem c_spec_l4Ints (a b : List Int) (ha : a.length ≤ 4611686018427387904) (hb : b.length ≤ 4611686018427387904) : Pu Try.prog 37 [.c (.t none (.sl 1 encI (a))), .c (.t none (.sl 1 encI (b)))] [] 0 (.c (.t none (.v (.int .i64 (cmpL a b))))) := by
  refine pu_enter Try.func37 rfl (Nat.le_of_ble_eq_true rfl) fun w S => ?_
  refine t_seq ?_
  refine t_region ?_
  refine r_op (o_assign rfl rfl) ?_
  refine r_end ?_
  refine t_seq ?_
  refine t_seq ?_
  refine t_region ?_
  refine r_op (o_assign rfl rfl) ?_
  refine r_end ?_
  refine t_block ?_
  refine t_loopL (fun m => ⟨[(0, some (.c (.t none (.sl 1 encI (a))))), (1, some (.c (.t none (.sl 1 encI (b))))), (5, some (.c (.t none (.v (.int .i64 ((m : Int)))))))], [], 0⟩ : Nat → St) (fun m => m ≤ a.length ∧ m ≤ b.length ∧ a.take m = b.take m) (fun m => a.length - m) 0 ⟨⟨rfl, ⟨rfl, ⟨rfl, trivial⟩⟩⟩, trivial, rfl⟩ (by exact ⟨Nat.zero_le _, Nat.zero_le _, rfl⟩) ?_
  rintro m hI ih0
  try dsimp only at hI ih0
  obtain ⟨i1, i2, i3⟩ := hI
  refine t_seq ?_
  refine t_seq ?_
  refine t_region ?_
  refine r_op (o_move rfl rfl) ?_
  refine r_op (o_move rfl rfl) ?_
  refine r_op (o_len rfl rfl rfl) ?_
  refine r_op (o_bin rfl rfl rfl rfl) ?_
  refine r_op (o_move rfl rfl) ?_
  refine r_guard rfl rfl rfl (fun g1 => ?_) (fun g1 => ?_)
  ·
    have g1' := of_decide_eq_true g1
    refine r_op (o_move rfl rfl) ?_
    refine r_guard rfl rfl rfl (fun _ => ?_) (nc g1)
    refine r_op (o_move rfl rfl) ?_
    refine r_guard rfl rfl rfl (fun _ => ?_) (nc g1)
    refine r_op (o_len rfl rfl rfl) ?_
    refine r_guard rfl rfl rfl (fun _ => ?_) (nc g1)
    refine r_op (o_bin rfl rfl rfl rfl) ?_
    refine r_op (o_pickT rfl rfl g1 rfl) ?_
    refine r_end ?_
    refine t_cond rfl (fun h2 => ?_) (fun h2 => ?_)
    ·
      have h2' := of_decide_eq_true h2
      refine t_skip ?_
      refine t_seq ?_
      refine t_block ?_
      refine t_seq ?_
      refine t_seq ?_
      refine t_draw (fun _ => true) (by kernel_rfl) ?_
      refine d_take 0 rfl rfl (by kernel_rfl) (by kernel_rfl) (by kernel_rfl) (p_move rfl) ?_
      refine d_take 1 rfl rfl (by kernel_rfl) (by kernel_rfl) (by kernel_rfl) (p_move rfl) ?_
      obtain ⟨z3, hz4, b5⟩ := at_get (xs := a) (n := (m : Int)) (by first | omega | (simp; omega)) (by first | omega | (simp; omega))
      refine d_take 2 rfl rfl (by kernel_rfl) (by kernel_rfl) (by kernel_rfl) (p_index (by kernel_rfl) rfl rfl b5 hz4) ?_
      refine d_take 3 rfl rfl (by kernel_rfl) (by kernel_rfl) (by kernel_rfl) (p_load1 (by kernel_rfl) rfl rfl) ?_
      refine d_take 4 rfl rfl (by kernel_rfl) (by kernel_rfl) (by kernel_rfl) (p_move rfl) ?_
      refine d_take 5 rfl rfl (by kernel_rfl) (by kernel_rfl) (by kernel_rfl) (p_move rfl) ?_
      obtain ⟨z6, hz7, b8⟩ := at_get (xs := b) (n := (m : Int)) (by first | omega | (simp; omega)) (by first | omega | (simp; omega))
      refine d_take 6 rfl rfl (by kernel_rfl) (by kernel_rfl) (by kernel_rfl) (p_index (by kernel_rfl) rfl rfl b8 hz7) ?_
      refine d_take 7 rfl rfl (by kernel_rfl) (by kernel_rfl) (by kernel_rfl) (p_load1 (by kernel_rfl) rfl rfl) ?_
      refine d_take 8 rfl rfl (by kernel_rfl) (by kernel_rfl) (by kernel_rfl) (p_bin rfl rfl rfl) ?_
      refine d_end (by kernel_rfl) ?_
      refine t_cond rfl (fun h9 => ?_) (fun h9 => ?_)
      ·
        have h9' := of_decide_eq_true h9
        refine t_seq ?_
        refine t_region ?_
        refine r_op (o_assign rfl rfl) ?_
        refine r_end ?_
        refine t_ret Try.func37 (.tmp rfl .nil) rfl fun E S w u hI hd => ?_
        refine post_mk hI hd ?_ trivial rfl rfl rfl <;> clear hI hd <;> (try clear ih0)
        all_goals first | rfl | (refine scI ?_; first | (rw [(cmpL_at i3 (by assumption) (by assumption)).1 (by omega)]; done) | (rw [(cmpL_at i3 (by assumption) (by assumption)).2 (by omega)]; done) | (rw [(cmpL_end i3 i1 i2).1 (by omega) (by omega)]; done) | (rw [(cmpL_end i3 i1 i2).2.1 (by omega) (by omega)]; done) | (rw [(cmpL_end i3 i1 i2).2.2 (by omega) (by omega)]; done))
      ·
        have h9' := of_decide_eq_false h9
        refine t_skip ?_
        refine t_seq ?_
        refine t_draw (fun _ => true) (by kernel_rfl) ?_
        refine d_take 0 rfl rfl (by kernel_rfl) (by kernel_rfl) (by kernel_rfl) (p_move rfl) ?_
        refine d_take 1 rfl rfl (by kernel_rfl) (by kernel_rfl) (by kernel_rfl) (p_move rfl) ?_
        refine d_take 2 rfl rfl (by kernel_rfl) (by kernel_rfl) (by kernel_rfl) (p_index (by kernel_rfl) rfl rfl b5 hz4) ?_
        refine d_take 3 rfl rfl (by kernel_rfl) (by kernel_rfl) (by kernel_rfl) (p_load1 (by kernel_rfl) rfl rfl) ?_
        refine d_take 4 rfl rfl (by kernel_rfl) (by kernel_rfl) (by kernel_rfl) (p_move rfl) ?_
        refine d_take 5 rfl rfl (by kernel_rfl) (by kernel_rfl) (by kernel_rfl) (p_move rfl) ?_
        refine d_take 6 rfl rfl (by kernel_rfl) (by kernel_rfl) (by kernel_rfl) (p_index (by kernel_rfl) rfl rfl b8 hz7) ?_
        refine d_take 7 rfl rfl (by kernel_rfl) (by kernel_rfl) (by kernel_rfl) (p_load1 (by kernel_rfl) rfl rfl) ?_
        refine d_take 8 rfl rfl (by kernel_rfl) (by kernel_rfl) (by kernel_rfl) (p_bin rfl rfl rfl) ?_
        refine d_end (by kernel_rfl) ?_
        refine t_cond rfl (fun h10 => ?_) (fun h10 => ?_)
        ·
          have h10' := of_decide_eq_true h10
          refine t_seq ?_
          refine t_region ?_
          refine r_op (o_assign rfl rfl) ?_
          refine r_end ?_
          refine t_ret Try.func37 (.tmp rfl .nil) rfl fun E S w u hI hd => ?_
          refine post_mk hI hd ?_ trivial rfl rfl rfl <;> clear hI hd <;> (try clear ih0)
          all_goals first | rfl | (refine scI ?_; first | (rw [(cmpL_at i3 (by assumption) (by assumption)).1 (by omega)]; done) | (rw [(cmpL_at i3 (by assumption) (by assumption)).2 (by omega)]; done) | (rw [(cmpL_end i3 i1 i2).1 (by omega) (by omega)]; done) | (rw [(cmpL_end i3 i1 i2).2.1 (by omega) (by omega)]; done) | (rw [(cmpL_end i3 i1 i2).2.2 (by omega) (by omega)]; done))
        ·
          have h10' := of_decide_eq_false h10
          refine t_skip ?_
          refine t_endblock ?_
          refine t_region ?_
          refine r_op (o_move rfl rfl) ?_
          refine r_op (o_bin rfl rfl rfl rfl) ?_
          refine r_op (o_assign rfl rfl) ?_
          refine r_end ?_
          refine t_le ?_ (ih0 (m + 1) (by (try dsimp only); omega) (by (try dsimp only); exact ⟨by omega, by omega, take_same i3 (same_at (by assumption) (by assumption) (by omega))⟩))
          exact ⟨⟨rfl, ⟨rfl, ⟨(eqI (wr64 (by omega) (by omega))), trivial⟩⟩⟩, trivial, rfl⟩
    ·
      have h2' := of_decide_eq_false h2
      refine t_exit rfl ?_
      refine t_seq ?_
      refine t_seq ?_
      refine t_region ?_
      refine r_op (o_move rfl rfl) ?_
      refine r_op (o_len rfl rfl rfl) ?_
      refine r_op (o_move rfl rfl) ?_
      refine r_op (o_len rfl rfl rfl) ?_
      refine r_op (o_bin rfl rfl rfl rfl) ?_
      refine r_end ?_
      refine t_cond rfl (fun h11 => ?_) (fun h11 => ?_)
      ·
        have h11' := of_decide_eq_true h11
        refine t_seq ?_
        refine t_region ?_
        refine r_op (o_assign rfl rfl) ?_
        refine r_end ?_
        refine t_ret Try.func37 (.tmp rfl .nil) rfl fun E S w u hI hd => ?_
        refine post_mk hI hd ?_ trivial rfl rfl rfl <;> clear hI hd <;> (try clear ih0)
        all_goals first | rfl | (refine scI ?_; first | (rw [(cmpL_at i3 (by assumption) (by assumption)).1 (by omega)]; done) | (rw [(cmpL_at i3 (by assumption) (by assumption)).2 (by omega)]; done) | (rw [(cmpL_end i3 i1 i2).1 (by omega) (by omega)]; done) | (rw [(cmpL_end i3 i1 i2).2.1 (by omega) (by omega)]; done) | (rw [(cmpL_end i3 i1 i2).2.2 (by omega) (by omega)]; done))
      ·
        have h11' := of_decide_eq_false h11
        refine t_skip ?_
        refine t_seq ?_
        refine t_seq ?_
        refine t_region ?_
        refine r_op (o_move rfl rfl) ?_
        refine r_op (o_len rfl rfl rfl) ?_
        refine r_op (o_move rfl rfl) ?_
        refine r_op (o_len rfl rfl rfl) ?_
        refine r_op (o_bin rfl rfl rfl rfl) ?_
        refine r_end ?_
        refine t_cond rfl (fun h12 => ?_) (fun h12 => ?_)
        ·
          have h12' := of_decide_eq_true h12
          refine t_seq ?_
          refine t_region ?_
          refine r_op (o_assign rfl rfl) ?_
          refine r_end ?_
          refine t_ret Try.func37 (.tmp rfl .nil) rfl fun E S w u hI hd => ?_
          refine post_mk hI hd ?_ trivial rfl rfl rfl <;> clear hI hd <;> (try clear ih0)
          all_goals first | rfl | (refine scI ?_; first | (rw [(cmpL_at i3 (by assumption) (by assumption)).1 (by omega)]; done) | (rw [(cmpL_at i3 (by assumption) (by assumption)).2 (by omega)]; done) | (rw [(cmpL_end i3 i1 i2).1 (by omega) (by omega)]; done) | (rw [(cmpL_end i3 i1 i2).2.1 (by omega) (by omega)]; done) | (rw [(cmpL_end i3 i1 i2).2.2 (by omega) (by omega)]; done))
        ·
          have h12' := of_decide_eq_false h12
          refine t_skip ?_
          refine t_seq ?_
          refine t_region ?_
          refine r_op (o_assign rfl rfl) ?_
          refine r_end ?_
          refine t_ret Try.func37 (.tmp rfl .nil) rfl fun E S w u hI hd => ?_
          refine post_mk hI hd ?_ trivial rfl rfl rfl <;> clear hI hd <;> (try clear ih0)
          all_goals first | rfl | (refine scI ?_; first | (rw [(cmpL_at i3 (by assumption) (by assumption)).1 (by omega)]; done) | (rw [(cmpL_at i3 (by assumption) (by assumption)).2 (by omega)]; done) | (rw [(cmpL_end i3 i1 i2).1 (by omega) (by omega)]; done) | (rw [(cmpL_end i3 i1 i2).2.1 (by omega) (by omega)]; done) | (rw [(cmpL_end i3 i1 i2).2.2 (by omega) (by omega)]; done))
  ·
    have g1' := of_decide_eq_false g1
    refine r_guard rfl rfl rfl (ncf g1) (fun _ => ?_)
    refine r_guard rfl rfl rfl (ncf g1) (fun _ => ?_)
    refine r_guard rfl rfl rfl (ncf g1) (fun _ => ?_)
    refine r_op (o_pickF rfl rfl g1 rfl) ?_
    refine r_end ?_
    refine t_cond rfl (ncf rfl) (fun _ => ?_)
    refine t_exit rfl ?_
    refine t_seq ?_
    refine t_seq ?_
    refine t_region ?_
    refine r_op (o_move rfl rfl) ?_
    refine r_op (o_len rfl rfl rfl) ?_
    refine r_op (o_move rfl rfl) ?_
    refine r_op (o_len rfl rfl rfl) ?_
    refine r_op (o_bin rfl rfl rfl rfl) ?_
    refine r_end ?_
    refine t_cond rfl (fun h13 => ?_) (fun h13 => ?_)
    ·
      have h13' := of_decide_eq_true h13
      refine t_seq ?_
      refine t_region ?_
      refine r_op (o_assign rfl rfl) ?_
      refine r_end ?_
      refine t_ret Try.func37 (.tmp rfl .nil) rfl fun E S w u hI hd => ?_
      refine post_mk hI hd ?_ trivial rfl rfl rfl <;> clear hI hd <;> (try clear ih0)
      all_goals first | rfl | (refine scI ?_; first | (rw [(cmpL_at i3 (by assumption) (by assumption)).1 (by omega)]; done) | (rw [(cmpL_at i3 (by assumption) (by assumption)).2 (by omega)]; done) | (rw [(cmpL_end i3 i1 i2).1 (by omega) (by omega)]; done) | (rw [(cmpL_end i3 i1 i2).2.1 (by omega) (by omega)]; done) | (rw [(cmpL_end i3 i1 i2).2.2 (by omega) (by omega)]; done))
    ·
      have h13' := of_decide_eq_false h13
      refine t_skip ?_
      refine t_seq ?_
      refine t_seq ?_
      refine t_region ?_
      refine r_op (o_move rfl rfl) ?_
      refine r_op (o_len rfl rfl rfl) ?_
      refine r_op (o_move rfl rfl) ?_
      refine r_op (o_len rfl rfl rfl) ?_
      refine r_op (o_bin rfl rfl rfl rfl) ?_
      refine r_end ?_
      refine t_cond rfl (fun h14 => ?_) (fun h14 => ?_)
      ·
        have h14' := of_decide_eq_true h14
        refine t_seq ?_
        refine t_region ?_
        refine r_op (o_assign rfl rfl) ?_
        refine r_end ?_
        refine t_ret Try.func37 (.tmp rfl .nil) rfl fun E S w u hI hd => ?_
        refine post_mk hI hd ?_ trivial rfl rfl rfl <;> clear hI hd <;> (try clear ih0)
        all_goals first | rfl | (refine scI ?_; first | (rw [(cmpL_at i3 (by assumption) (by assumption)).1 (by omega)]; done) | (rw [(cmpL_at i3 (by assumption) (by assumption)).2 (by omega)]; done) | (rw [(cmpL_end i3 i1 i2).1 (by omega) (by omega)]; done) | (rw [(cmpL_end i3 i1 i2).2.1 (by omega) (by omega)]; done) | (rw [(cmpL_end i3 i1 i2).2.2 (by omega) (by omega)]; done))
      ·
        have h14' := of_decide_eq_false h14
        refine t_skip ?_
        refine t_seq ?_
        refine t_region ?_
        refine r_op (o_assign rfl rfl) ?_
        refine r_end ?_
        refine t_ret Try.func37 (.tmp rfl .nil) rfl fun E S w u hI hd => ?_
        refine post_mk hI hd ?_ trivial rfl rfl rfl <;> clear hI hd <;> (try clear ih0)
        all_goals first | rfl | (refine scI ?_; first | (rw [(cmpL_at i3 (by assumption) (by assumption)).1 (by omega)]; done) | (rw [(cmpL_at i3 (by assumption) (by assumption)).2 (by omega)]; done) | (rw [(cmpL_end i3 i1 i2).1 (by omega) (by omega)]; done) | (rw [(cmpL_end i3 i1 i2).2.1 (by omega) (by omega)]; done) | (rw [(cmpL_end i3 i1 i2).2.2 (by omega) (by omega)]; done))
set_option maxHeartbeats 1000000 in
set_option maxRecDepth 10000 in
theorem c_spec_EqualUnionFinds (a b : List Int) (ha : a.length ≤ 4611686018427387904) (hb : b.length ≤ 4611686018427387904) : Pu Try.prog 17 [.agg [.t none (.sl 1 encI (a))], .agg [.t none (.sl 1 encI (b))]] [] 0 (.c (.t none (.v (.bool (decide (a = b)))))) := by
  refine pu_enter Try.func17 rfl (Nat.le_of_ble_eq_true rfl) fun w S => ?_
  refine t_seq ?_
  refine t_region ?_
  refine r_op (o_box 0 rfl rfl rfl rfl) ?_
  refine r_op (o_box 1 rfl rfl rfl rfl) ?_
  refine r_op (o_assign rfl rfl) ?_
  refine r_end ?_
  refine t_seq ?_
  refine t_region ?_
  refine r_op (o_fieldb rfl (off := 0) (by kernel_rfl) rfl) ?_
  refine r_op (o_load1b rfl (by kernel_rfl) rfl rfl rfl) ?_
  refine r_op (o_fieldb rfl (off := 0) (by kernel_rfl) rfl) ?_
  refine r_op (o_load1b rfl (by kernel_rfl) rfl rfl rfl) ?_
  refine r_op (o_call 2 2 false (Go.Proofs.enters_of Try.func37 (by kernel_rfl) rfl) (c_spec_l4Ints (a) (b) (by first | omega | assumption) (by first | omega | assumption)) rfl (.cons rfl (.c .t0) (.cons rfl (.c .t0) .nil)) rfl rfl rfl) ?_
  refine r_op (o_bin rfl rfl rfl rfl) ?_
  refine r_op (o_assign rfl rfl) ?_
  refine r_end ?_
  refine t_ret Try.func17 (.tmp rfl .nil) rfl fun E S w u hI hd => ?_
  refine post_mk hI hd ?_ trivial rfl rfl rfl <;> clear hI hd
  all_goals first | rfl | (refine scB ?_; exact decide_eq_decide.2 (cmpL_zero a b))
set_option maxHeartbeats 1000000 in
set_option maxRecDepth 10000 in
theorem c_slices_Equal___int_int_ (a b : List Int) (ha : a.length ≤ 4611686018427387904) : Pu Try.prog 38 [.c (.t none (.sl 1 encI (a))), .c (.t none (.sl 1 encI (b)))] [] 0 (.c (.t none (.v (.bool (decide (a = b)))))) := by
  refine pu_enter Try.func38 rfl (Nat.le_of_ble_eq_true rfl) fun w S => ?_
  refine t_seq ?_
  refine t_region ?_
  refine r_op (o_assign rfl rfl) ?_
  refine r_end ?_
  refine t_seq ?_
  refine t_seq ?_
  refine t_region ?_
  refine r_op (o_move rfl rfl) ?_
  refine r_op (o_len rfl rfl rfl) ?_
  refine r_op (o_move rfl rfl) ?_
  refine r_op (o_len rfl rfl rfl) ?_
  refine r_op (o_bin rfl rfl rfl rfl) ?_
  refine r_end ?_
  refine t_cond rfl (fun h1 => ?_) (fun h1 => ?_)
  ·
    have h1' := of_decide_eq_true h1
    refine t_seq ?_
    refine t_region ?_
    refine r_op (o_assign rfl rfl) ?_
    refine r_end ?_
    refine t_ret Try.func38 (.tmp rfl .nil) rfl fun E S w u hI hd => ?_
    refine post_mk hI hd ?_ trivial rfl rfl rfl <;> clear hI hd <;> (try clear ih0)
    all_goals first | rfl | ((have : a ≠ b := by rintro rfl; simp at *); simp [this])
  ·
    have h1' := of_decide_eq_false h1
    refine t_skip ?_
    refine t_seq ?_
    refine t_seq ?_
    refine t_region ?_
    refine r_op (o_move rfl rfl) ?_
    refine r_op (o_len rfl rfl rfl) ?_
    refine r_op (o_move rfl rfl) ?_
    refine r_end ?_
    refine t_block ?_
    refine t_loopL (fun m => ⟨[(0, some (.c (.t none (.sl 1 encI (a))))), (1, some (.c (.t none (.sl 1 encI (b))))), (12, some (.c (.t none (.v (.int .i64 (((a).length : Int))))))), (13, some (.c (.t none (.v (.int .i64 ((m : Int)))))))], [], 0⟩ : Nat → St) (fun m => m ≤ a.length ∧ a.length = b.length ∧ a.take m = b.take m) (fun m => a.length - m) 0 ⟨⟨rfl, ⟨rfl, ⟨rfl, ⟨rfl, trivial⟩⟩⟩⟩, trivial, rfl⟩ (by exact ⟨Nat.zero_le _, by omega, rfl⟩) ?_
    rintro m hI ih0
    try dsimp only at hI ih0
    obtain ⟨i1, i2, i3⟩ := hI
    refine t_seq ?_
    refine t_region ?_
    refine r_op (o_bin rfl rfl rfl rfl) ?_
    refine r_end ?_
    refine t_seq ?_
    refine t_cond rfl (fun h2 => ?_) (fun h2 => ?_)
    ·
      have h2' := of_decide_eq_true h2
      refine t_skip ?_
      refine t_seq ?_
      refine t_block ?_
      refine t_seq ?_
      refine t_region ?_
      refine r_op (o_move rfl rfl) ?_
      refine r_op (o_assign rfl rfl) ?_
      refine r_end ?_
      refine t_seq ?_
      refine t_draw (fun _ => true) (by kernel_rfl) ?_
      refine d_take 0 rfl rfl (by kernel_rfl) (by kernel_rfl) (by kernel_rfl) (p_move rfl) ?_
      refine d_take 1 rfl rfl (by kernel_rfl) (by kernel_rfl) (by kernel_rfl) (p_move rfl) ?_
      obtain ⟨z3, hz4, b5⟩ := at_get (xs := a) (n := (m : Int)) (by first | omega | (simp; omega)) (by first | omega | (simp; omega))
      refine d_take 2 rfl rfl (by kernel_rfl) (by kernel_rfl) (by kernel_rfl) (p_index (by kernel_rfl) rfl rfl b5 hz4) ?_
      refine d_take 3 rfl rfl (by kernel_rfl) (by kernel_rfl) (by kernel_rfl) (p_load1 (by kernel_rfl) rfl rfl) ?_
      refine d_take 4 rfl rfl (by kernel_rfl) (by kernel_rfl) (by kernel_rfl) (p_move rfl) ?_
      refine d_take 5 rfl rfl (by kernel_rfl) (by kernel_rfl) (by kernel_rfl) (p_move rfl) ?_
      obtain ⟨z6, hz7, b8⟩ := at_get (xs := b) (n := (m : Int)) (by first | omega | (simp; omega)) (by first | omega | (simp; omega))
      refine d_take 6 rfl rfl (by kernel_rfl) (by kernel_rfl) (by kernel_rfl) (p_index (by kernel_rfl) rfl rfl b8 hz7) ?_
      refine d_take 7 rfl rfl (by kernel_rfl) (by kernel_rfl) (by kernel_rfl) (p_load1 (by kernel_rfl) rfl rfl) ?_
      refine d_take 8 rfl rfl (by kernel_rfl) (by kernel_rfl) (by kernel_rfl) (p_bin rfl rfl rfl) ?_
      refine d_end (by kernel_rfl) ?_
      refine t_cond rfl (fun h9 => ?_) (fun h9 => ?_)
      ·
        have h9' := of_decide_eq_true h9
        refine t_seq ?_
        refine t_region ?_
        refine r_op (o_assign rfl rfl) ?_
        refine r_end ?_
        refine t_ret Try.func38 (.tmp rfl .nil) rfl fun E S w u hI hd => ?_
        refine post_mk hI hd ?_ trivial rfl rfl rfl <;> clear hI hd <;> (try clear ih0)
        all_goals first | rfl | (have := ne_at (a := a) (b := b) (by assumption) (by assumption) (by assumption); simp_all)
      ·
        have h9' := of_decide_eq_false h9
        refine t_skip ?_
        refine t_endblock ?_
        refine t_region ?_
        refine r_op (o_bin rfl rfl rfl rfl) ?_
        refine r_op (o_move rfl rfl) ?_
        refine r_end ?_
        refine t_le ?_ (ih0 (m + 1) (by (try dsimp only); omega) (by (try dsimp only); exact ⟨by omega, i2, take_same i3 (same_at (by assumption) (by assumption) (by omega))⟩))
        exact ⟨⟨rfl, ⟨rfl, ⟨rfl, ⟨(eqI (wr64 (by omega) (by omega))), trivial⟩⟩⟩⟩, trivial, rfl⟩
    ·
      have h2' := of_decide_eq_false h2
      refine t_exit rfl ?_
      refine t_seq ?_
      refine t_region ?_
      refine r_op (o_assign rfl rfl) ?_
      refine r_end ?_
      refine t_ret Try.func38 (.tmp rfl .nil) rfl fun E S w u hI hd => ?_
      refine post_mk hI hd ?_ trivial rfl rfl rfl <;> clear hI hd <;> (try clear ih0)
      all_goals first | rfl | ((obtain rfl : m = a.length := by omega); rw [List.take_length, i2, List.take_length] at i3; simp [i3])
set_option maxHeartbeats 1000000 in
set_option maxRecDepth 10000 in
theorem c_impl_EqualUnionFinds (a b : List Int) (ha : a.length ≤ 4611686018427387904) (hb : b.length ≤ 4611686018427387904) : Pu Try.prog 18 [.agg [.t none (.sl 1 encI (a))], .agg [.t none (.sl 1 encI (b))]] [] 0 (.c (.t none (.v (.bool (decide (a = b)))))) := by
  refine pu_enter Try.func18 rfl (Nat.le_of_ble_eq_true rfl) fun w S => ?_
  refine t_seq ?_
  refine t_region ?_
  refine r_op (o_box 0 rfl rfl rfl rfl) ?_
  refine r_op (o_box 1 rfl rfl rfl rfl) ?_
  refine r_op (o_assign rfl rfl) ?_
  refine r_end ?_
  refine t_seq ?_
  refine t_region ?_
  refine r_op (o_fieldb rfl (off := 0) (by kernel_rfl) rfl) ?_
  refine r_op (o_load1b rfl (by kernel_rfl) rfl rfl rfl) ?_
  refine r_op (o_fieldb rfl (off := 0) (by kernel_rfl) rfl) ?_
  refine r_op (o_load1b rfl (by kernel_rfl) rfl rfl rfl) ?_
  refine r_op (o_call 2 2 false (Go.Proofs.enters_of Try.func38 (by kernel_rfl) rfl) (c_slices_Equal___int_int_ (a) (b) (by first | omega | assumption)) rfl (.cons rfl (.c .t0) (.cons rfl (.c .t0) .nil)) rfl rfl rfl) ?_
  refine r_op (o_assign rfl rfl) ?_
  refine r_end ?_
  refine t_ret Try.func18 (.tmp rfl .nil) rfl fun E S w u hI hd => ?_
  refine post_mk hI hd ?_ trivial rfl rfl rfl <;> clear hI hd
  all_goals first | rfl | (rfl)
set_option maxHeartbeats 1000000 in
set_option maxRecDepth 10000 in
theorem c_impl_NullValue (k : Int) (hk : -4611686018427387904 ≤ k ∧ k ≤ 4611686018427387904) : Pu Try.prog 11 [.c (.t none (.v (.int .i64 (k))))] [] 0 (.c (.t none (.v (.int .i64 (-1 - k))))) := by
  refine pu_enter Try.func11 rfl (Nat.le_of_ble_eq_true rfl) fun w S => ?_
  refine t_seq ?_
  refine t_region ?_
  refine r_op (o_assign rfl rfl) ?_
  refine r_end ?_
  refine t_seq ?_
  refine t_region ?_
  refine r_op (o_move rfl rfl) ?_
  refine r_op (o_bin rfl rfl rfl rfl) ?_
  refine r_op (o_assign rfl rfl) ?_
  refine r_end ?_
  refine t_ret Try.func11 (.tmp rfl .nil) rfl fun E S w u hI hd => ?_
  refine post_mk hI hd ?_ trivial rfl rfl rfl <;> clear hI hd
  all_goals first | rfl | (refine scI ?_; exact wr64 (by omega) (by omega))
set_option maxHeartbeats 1000000 in
set_option maxRecDepth 10000 in
theorem c_impl_UnionSubstitution (l : List Int) (hl : l.length ≤ 4611686018427387904) (ho : ∀ x ∈ l, okI x) : Pu Try.prog 13 [.agg [.t none (.sl 1 encI (l))]] [(3, some (.row none 3 true 1 encI (usN' l))), (4, some (.row none 3 true 1 encI (usV' l)))] 5 (.agg [.own 3, .own 4]) := by
  refine pu_enter Try.func13 rfl (Nat.le_of_ble_eq_true rfl) fun w S => ?_
  refine t_seq ?_
  refine t_region ?_
  refine r_op (o_box 0 rfl rfl rfl rfl) ?_
  refine r_op (o_alloc 1 (zs := [.slice none 0 0, .slice none 0 0]) rfl rfl (by kernel_rfl) rfl) ?_
  refine r_end ?_
  refine t_seq ?_
  refine t_region ?_
  refine r_op (o_build rfl (pl := [(0, 1), (1, 1)]) (zs := [.slice none 0 0, .slice none 0 0]) (by kernel_rfl) (by kernel_rfl) rfl rfl rfl) ?_
  refine r_op (o_alloc 2 (zs := [.slice none 0 0, .slice none 0 0]) rfl rfl (by kernel_rfl) rfl) ?_
  refine r_op (o_storeb (n := 2) (by kernel_rfl) rfl rfl rfl rfl rfl rfl) ?_
  refine r_end ?_
  refine t_seq ?_
  refine t_seq ?_
  refine t_region ?_
  refine r_op (o_loadAb rfl (n := 1) (by kernel_rfl) (by kernel_rfl) rfl rfl rfl) ?_
  refine r_op (o_call 3 3 false (Go.Proofs.enters_of Try.func19 (by kernel_rfl) rfl) (c_impl_IsValidUnionFind (l) (by first | omega | assumption | (have u40 := ufOk_len (l := l) (by assumption); omega)) (by first | omega | assumption | (have u40 := ufOk_len (l := l) (by assumption); omega))) rfl (.cons rfl (.agg (.cons .t0 .nil)) .nil) rfl rfl rfl) ?_
  refine r_op (o_not rfl rfl) ?_
  refine r_end ?_
  refine t_cond rfl (fun h1 => ?_) (fun h1 => ?_)
  ·
    have h1' := (bnt h1)
    refine t_seq ?_
    refine gt_nilb 3 (b := 2) (o := 0) (et := 3) (sz := 1) true encI rfl rfl rfl ?_
    refine gt_nilb 4 (b := 2) (o := 1) (et := 3) (sz := 1) true encI rfl rfl rfl ?_
    refine t_region ?_
    refine r_op (o_loadAb rfl (n := 2) (by kernel_rfl) (by kernel_rfl) rfl rfl rfl) ?_
    refine r_op (o_storeb (n := 2) (by kernel_rfl) rfl rfl rfl rfl rfl rfl) ?_
    refine r_end ?_
    refine t_ret Try.func13 (.cells (n := 2) (by kernel_rfl) (by kernel_rfl) rfl rfl rfl .nil) rfl fun E S w u hI hd => ?_
    refine post_mk hI hd ?_ ⟨eqR ?_, ⟨eqR ?_, trivial⟩⟩ rfl rfl rfl <;> clear hI hd <;> (try clear ih0)
    all_goals first | rfl | (first | (rw [(us_bad (by assumption)).1]; done) | (rw [(us_bad (by assumption)).2]; done) | (rw [List.take_of_length_le (by omega), (us_good (by assumption)).1]; done) | (rw [List.take_of_length_le (by omega), (us_good (by assumption)).2]; done) | (rcases i2 with e | e <;> (try subst e) <;> first | (rw [List.take_of_length_le (by omega), (us_good (by assumption)).1]; done) | (rw [List.take_of_length_le (by omega), (us_good (by assumption)).2]; done) | (rw [(us_nil (l := l) (by omega)).1]; rfl) | (rw [(us_nil (l := l) (by omega)).2]; rfl) | (rw [(us_bad (l := l) (by assumption)).1]; rfl) | (rw [(us_bad (l := l) (by assumption)).2]; rfl) | (exfalso; simp_all; done)))
  ·
    have h1' := (bnf h1)
    refine t_skip ?_
    refine t_seq ?_
    refine t_seq ?_
    refine t_region ?_
    refine r_op (o_fieldb rfl (off := 0) (by kernel_rfl) rfl) ?_
    refine r_op (o_load1b rfl (by kernel_rfl) rfl rfl rfl) ?_
    refine r_op (o_len rfl rfl rfl) ?_
    refine r_op (o_move rfl rfl) ?_
    refine r_end ?_
    refine t_block ?_
    refine gt_nilb 3 (b := 2) (o := 0) (et := 3) (sz := 1) true encI rfl rfl rfl ?_
    refine gt_nilb 4 (b := 2) (o := 1) (et := 3) (sz := 1) true encI rfl rfl rfl ?_
    refine t_loopL (fun m => ⟨[(2, some (.c (.ptr 1 0))), (3, some (.c (.ptr 2 0))), (12, some (.c (.t none (.sl 1 encI (l))))), (13, some (.c (.t none (.v (.int .i64 (((l).length : Int))))))), (14, some (.c (.t none (.v (.int .i64 ((m : Int)))))))], [(0, some (.box [.t none (.sl 1 encI (l))])), (1, some (.box [.t none (.v (.slice none 0 0)), .t none (.v (.slice none 0 0))])), (2, some (.box [.own 3, .own 4])), (3, some (.row none 3 true 1 encI (usN (l.take m)))), (4, some (.row none 3 true 1 encI (usV (l.take m))))], 5⟩ : Nat → St) (fun m => m ≤ l.length ∧ ufOk l = true) (fun m => l.length - m) 0 ⟨⟨rfl, ⟨rfl, ⟨rfl, ⟨rfl, ⟨rfl, trivial⟩⟩⟩⟩⟩, ⟨rfl, ⟨rfl, ⟨rfl, ⟨rfl, ⟨rfl, trivial⟩⟩⟩⟩⟩, rfl⟩ (by exact ⟨Nat.zero_le _, by assumption⟩) ?_
    rintro m hI ih0
    try dsimp only at hI ih0
    obtain ⟨i1, i2⟩ := hI; have ul := us_len (l.take m); (simp only [List.length_take] at ul)
    refine t_seq ?_
    refine t_region ?_
    refine r_op (o_bin rfl rfl rfl rfl) ?_
    refine r_end ?_
    refine t_seq ?_
    refine t_cond rfl (fun h2 => ?_) (fun h2 => ?_)
    ·
      have h2' := of_decide_eq_true h2
      refine t_skip ?_
      refine t_seq ?_
      refine t_block ?_
      refine t_seq ?_
      refine t_region ?_
      refine r_op (o_move rfl rfl) ?_
      obtain ⟨z3, hz4, b5⟩ := at_get (xs := l) (n := (m : Int)) (by first | omega | assumption | (have u40 := ufOk_len (l := l) (by assumption); omega)) (by first | omega | assumption | (have u40 := ufOk_len (l := l) (by assumption); omega))
      refine r_op (o_index rfl (by kernel_rfl) rfl rfl b5 hz4) ?_
      refine r_op (o_load1 rfl (by kernel_rfl) rfl rfl) ?_
      refine r_op (o_assign rfl rfl) ?_
      refine r_op (o_assign rfl rfl) ?_
      refine r_end ?_
      refine t_seq ?_
      refine t_region ?_
      refine r_op (o_move rfl rfl) ?_
      refine r_op (o_move rfl rfl) ?_
      refine r_op (o_call 5 5 false (Go.Proofs.enters_of Try.func11 (by kernel_rfl) rfl) (c_impl_NullValue ((m : Int)) (by first | omega | assumption | (have u40 := ufOk_len (l := l) (by assumption); omega))) rfl (.cons rfl (.c .t0) .nil) rfl rfl rfl) ?_
      refine r_op (o_bin rfl rfl rfl rfl) ?_
      refine r_end ?_
      refine t_cond rfl (fun h6 => ?_) (fun h6 => ?_)
      ·
        have h6' := of_decide_eq_true h6
        refine t_draw (fun i => !(Nat.beq i 4 || Nat.beq i 9 || Nat.beq i 11 || Nat.beq i 13)) (by kernel_rfl) ?_
        refine d_take 0 rfl rfl (by kernel_rfl) (by kernel_rfl) (by kernel_rfl) (p_fieldb (off := 0) (by kernel_rfl) rfl) ?_
        refine d_take 1 rfl rfl (by kernel_rfl) (by kernel_rfl) (by kernel_rfl) (p_load1b (by kernel_rfl) rfl rfl rfl) ?_
        refine d_take 2 rfl rfl (by kernel_rfl) (by kernel_rfl) (by kernel_rfl) (p_move rfl) ?_
        refine d_takeP 5 rfl rfl (by kernel_rfl) (by kernel_rfl) (by kernel_rfl) (pw_fieldb (off := 1) (by kernel_rfl) rfl) ?_
        refine d_takeP 7 rfl rfl (by kernel_rfl) (by kernel_rfl) (by kernel_rfl) (pw_move rfl) ?_
        refine d_three 3 6 8 rfl rfl rfl (by kernel_rfl) rfl rfl rfl (o_litS 5 (e := 3) (sz := 1) (zs := [.int .i64 (0)]) rfl rfl (by kernel_rfl) rfl rfl rfl rfl rfl) (o_load1b rfl (by kernel_rfl) rfl rfl rfl) (o_litS 5 (e := 3) (sz := 1) (zs := [.int .i64 (0)]) rfl rfl (by kernel_rfl) rfl rfl rfl rfl rfl) ?_ ?_ ?_
        ·
          refine d_three 4 6 8 rfl rfl rfl (by kernel_rfl) rfl rfl rfl (o_append 3 (e := 3) (sz := 1) (by' := 8) ((m : Int)) rfl (by kernel_rfl) rfl rfl rfl rfl rfl rfl (.cons .sc .nil) rfl (by first | omega | assumption | (have u40 := ufOk_len (l := l) (by assumption); omega)) (by first | omega | assumption | (have u40 := ufOk_len (l := l) (by assumption); omega))) (o_load1b rfl (by kernel_rfl) rfl rfl rfl) (o_litS 6 (e := 3) (sz := 1) (zs := [.int .i64 (0)]) rfl rfl (by kernel_rfl) rfl rfl rfl rfl rfl) ?_ ?_ ?_
          ·
            refine d_take 6 rfl rfl (by kernel_rfl) (by kernel_rfl) (by kernel_rfl) (p_load1b (by kernel_rfl) rfl rfl rfl) ?_
            refine d_takeP 10 rfl rfl (by kernel_rfl) (by kernel_rfl) (by kernel_rfl) (pw_fieldb (off := 0) (by kernel_rfl) rfl) ?_
            refine d_only 8 rfl (by kernel_rfl) rfl (o_litS 6 (e := 3) (sz := 1) (zs := [.int .i64 (0)]) rfl rfl (by kernel_rfl) rfl rfl rfl rfl rfl) ?_
            refine d_only 9 rfl (by kernel_rfl) rfl (o_append 4 (e := 3) (sz := 1) (by' := 8) (z3) rfl (by kernel_rfl) rfl rfl rfl rfl rfl rfl (.cons .sc .nil) rfl (by first | omega | assumption | (have u40 := ufOk_len (l := l) (by assumption); omega)) (by first | omega | assumption | (have u40 := ufOk_len (l := l) (by assumption); omega))) ?_
            refine d_only 11 rfl (by kernel_rfl) rfl (o_storeb (n := 1) (by kernel_rfl) rfl rfl rfl rfl rfl rfl) ?_
            refine d_take 12 rfl rfl (by kernel_rfl) (by kernel_rfl) (by kernel_rfl) (p_fieldb (off := 1) (by kernel_rfl) rfl) ?_
            refine d_only 13 rfl (by kernel_rfl) rfl (o_storeb (n := 1) (by kernel_rfl) rfl rfl rfl rfl rfl rfl) ?_
            refine d_end (by kernel_rfl) ?_
            refine t_endblock ?_
            refine t_region ?_
            refine r_op (o_bin rfl rfl rfl rfl) ?_
            refine r_op (o_move rfl rfl) ?_
            refine r_end ?_
            refine t_le ?_ (ih0 (m + 1) (by (try dsimp only); omega) (by (try dsimp only); exact ⟨by omega, i2⟩))
            exact ⟨⟨rfl, ⟨rfl, ⟨rfl, ⟨rfl, ⟨(eqI (wr64 (by omega) (by omega))), trivial⟩⟩⟩⟩⟩, ⟨rfl, ⟨rfl, ⟨rfl, ⟨(eqR (by first | exact (us_more (by assumption) (by omega)).1.symm | exact (us_same (by assumption) (by omega)).1.symm)), ⟨(eqR (by first | exact (us_more (by assumption) (by omega)).2.symm | exact (us_same (by assumption) (by omega)).2.symm)), trivial⟩⟩⟩⟩⟩, rfl⟩
          ·
            refine d_two 4 8 rfl rfl (by kernel_rfl) rfl rfl (o_append 3 (e := 3) (sz := 1) (by' := 8) ((m : Int)) rfl (by kernel_rfl) rfl rfl rfl rfl rfl rfl (.cons .sc .nil) rfl (by first | omega | assumption | (have u40 := ufOk_len (l := l) (by assumption); omega)) (by first | omega | assumption | (have u40 := ufOk_len (l := l) (by assumption); omega))) (o_litS 6 (e := 3) (sz := 1) (zs := [.int .i64 (0)]) rfl rfl (by kernel_rfl) rfl rfl rfl rfl rfl) ?_ ?_
            ·
              refine d_takeP 10 rfl rfl (by kernel_rfl) (by kernel_rfl) (by kernel_rfl) (pw_fieldb (off := 0) (by kernel_rfl) rfl) ?_
              refine d_only 8 rfl (by kernel_rfl) rfl (o_litS 6 (e := 3) (sz := 1) (zs := [.int .i64 (0)]) rfl rfl (by kernel_rfl) rfl rfl rfl rfl rfl) ?_
              refine d_only 9 rfl (by kernel_rfl) rfl (o_append 4 (e := 3) (sz := 1) (by' := 8) (z3) rfl (by kernel_rfl) rfl rfl rfl rfl rfl rfl (.cons .sc .nil) rfl (by first | omega | assumption | (have u40 := ufOk_len (l := l) (by assumption); omega)) (by first | omega | assumption | (have u40 := ufOk_len (l := l) (by assumption); omega))) ?_
              refine d_only 11 rfl (by kernel_rfl) rfl (o_storeb (n := 1) (by kernel_rfl) rfl rfl rfl rfl rfl rfl) ?_
              refine d_take 12 rfl rfl (by kernel_rfl) (by kernel_rfl) (by kernel_rfl) (p_fieldb (off := 1) (by kernel_rfl) rfl) ?_
              refine d_only 13 rfl (by kernel_rfl) rfl (o_storeb (n := 1) (by kernel_rfl) rfl rfl rfl rfl rfl rfl) ?_
              refine d_end (by kernel_rfl) ?_
              refine t_endblock ?_
              refine t_region ?_
              refine r_op (o_bin rfl rfl rfl rfl) ?_
              refine r_op (o_move rfl rfl) ?_
              refine r_end ?_
              refine t_le ?_ (ih0 (m + 1) (by (try dsimp only); omega) (by (try dsimp only); exact ⟨by omega, i2⟩))
              exact ⟨⟨rfl, ⟨rfl, ⟨rfl, ⟨rfl, ⟨(eqI (wr64 (by omega) (by omega))), trivial⟩⟩⟩⟩⟩, ⟨rfl, ⟨rfl, ⟨rfl, ⟨(eqR (by first | exact (us_more (by assumption) (by omega)).1.symm | exact (us_same (by assumption) (by omega)).1.symm)), ⟨(eqR (by first | exact (us_more (by assumption) (by omega)).2.symm | exact (us_same (by assumption) (by omega)).2.symm)), trivial⟩⟩⟩⟩⟩, rfl⟩
            ·
              refine d_only 4 rfl (by kernel_rfl) rfl (o_append 3 (e := 3) (sz := 1) (by' := 8) ((m : Int)) rfl (by kernel_rfl) rfl rfl rfl rfl rfl rfl (.cons .sc .nil) rfl (by first | omega | assumption | (have u40 := ufOk_len (l := l) (by assumption); omega)) (by first | omega | assumption | (have u40 := ufOk_len (l := l) (by assumption); omega))) ?_
              refine d_takeP 10 rfl rfl (by kernel_rfl) (by kernel_rfl) (by kernel_rfl) (pw_fieldb (off := 0) (by kernel_rfl) rfl) ?_
              refine d_only 9 rfl (by kernel_rfl) rfl (o_append 4 (e := 3) (sz := 1) (by' := 8) (z3) rfl (by kernel_rfl) rfl rfl rfl rfl rfl rfl (.cons .sc .nil) rfl (by first | omega | assumption | (have u40 := ufOk_len (l := l) (by assumption); omega)) (by first | omega | assumption | (have u40 := ufOk_len (l := l) (by assumption); omega))) ?_
              refine d_only 11 rfl (by kernel_rfl) rfl (o_storeb (n := 1) (by kernel_rfl) rfl rfl rfl rfl rfl rfl) ?_
              refine d_take 12 rfl rfl (by kernel_rfl) (by kernel_rfl) (by kernel_rfl) (p_fieldb (off := 1) (by kernel_rfl) rfl) ?_
              refine d_only 13 rfl (by kernel_rfl) rfl (o_storeb (n := 1) (by kernel_rfl) rfl rfl rfl rfl rfl rfl) ?_
              refine d_end (by kernel_rfl) ?_
              refine t_endblock ?_
              refine t_region ?_
              refine r_op (o_bin rfl rfl rfl rfl) ?_
              refine r_op (o_move rfl rfl) ?_
              refine r_end ?_
              refine t_le ?_ (ih0 (m + 1) (by (try dsimp only); omega) (by (try dsimp only); exact ⟨by omega, i2⟩))
              exact ⟨⟨rfl, ⟨rfl, ⟨rfl, ⟨rfl, ⟨(eqI (wr64 (by omega) (by omega))), trivial⟩⟩⟩⟩⟩, ⟨rfl, ⟨rfl, ⟨rfl, ⟨(eqR (by first | exact (us_more (by assumption) (by omega)).1.symm | exact (us_same (by assumption) (by omega)).1.symm)), ⟨(eqR (by first | exact (us_more (by assumption) (by omega)).2.symm | exact (us_same (by assumption) (by omega)).2.symm)), trivial⟩⟩⟩⟩⟩, rfl⟩
          ·
            refine d_two 4 6 rfl rfl (by kernel_rfl) rfl rfl (o_append 3 (e := 3) (sz := 1) (by' := 8) ((m : Int)) rfl (by kernel_rfl) rfl rfl rfl rfl rfl rfl (.cons .sc .nil) rfl (by first | omega | assumption | (have u40 := ufOk_len (l := l) (by assumption); omega)) (by first | omega | assumption | (have u40 := ufOk_len (l := l) (by assumption); omega))) (o_load1b rfl (by kernel_rfl) rfl rfl rfl) ?_ ?_
            ·
              refine d_take 6 rfl rfl (by kernel_rfl) (by kernel_rfl) (by kernel_rfl) (p_load1b (by kernel_rfl) rfl rfl rfl) ?_
              refine d_takeP 10 rfl rfl (by kernel_rfl) (by kernel_rfl) (by kernel_rfl) (pw_fieldb (off := 0) (by kernel_rfl) rfl) ?_
              refine d_only 9 rfl (by kernel_rfl) rfl (o_append 4 (e := 3) (sz := 1) (by' := 8) (z3) rfl (by kernel_rfl) rfl rfl rfl rfl rfl rfl (.cons .sc .nil) rfl (by first | omega | assumption | (have u40 := ufOk_len (l := l) (by assumption); omega)) (by first | omega | assumption | (have u40 := ufOk_len (l := l) (by assumption); omega))) ?_
              refine d_only 11 rfl (by kernel_rfl) rfl (o_storeb (n := 1) (by kernel_rfl) rfl rfl rfl rfl rfl rfl) ?_
              refine d_take 12 rfl rfl (by kernel_rfl) (by kernel_rfl) (by kernel_rfl) (p_fieldb (off := 1) (by kernel_rfl) rfl) ?_
              refine d_only 13 rfl (by kernel_rfl) rfl (o_storeb (n := 1) (by kernel_rfl) rfl rfl rfl rfl rfl rfl) ?_
              refine d_end (by kernel_rfl) ?_
              refine t_endblock ?_
              refine t_region ?_
              refine r_op (o_bin rfl rfl rfl rfl) ?_
              refine r_op (o_move rfl rfl) ?_
              refine r_end ?_
              refine t_le ?_ (ih0 (m + 1) (by (try dsimp only); omega) (by (try dsimp only); exact ⟨by omega, i2⟩))
              exact ⟨⟨rfl, ⟨rfl, ⟨rfl, ⟨rfl, ⟨(eqI (wr64 (by omega) (by omega))), trivial⟩⟩⟩⟩⟩, ⟨rfl, ⟨rfl, ⟨rfl, ⟨(eqR (by first | exact (us_more (by assumption) (by omega)).1.symm | exact (us_same (by assumption) (by omega)).1.symm)), ⟨(eqR (by first | exact (us_more (by assumption) (by omega)).2.symm | exact (us_same (by assumption) (by omega)).2.symm)), trivial⟩⟩⟩⟩⟩, rfl⟩
            ·
              refine d_only 4 rfl (by kernel_rfl) rfl (o_append 3 (e := 3) (sz := 1) (by' := 8) ((m : Int)) rfl (by kernel_rfl) rfl rfl rfl rfl rfl rfl (.cons .sc .nil) rfl (by first | omega | assumption | (have u40 := ufOk_len (l := l) (by assumption); omega)) (by first | omega | assumption | (have u40 := ufOk_len (l := l) (by assumption); omega))) ?_
              refine d_takeP 10 rfl rfl (by kernel_rfl) (by kernel_rfl) (by kernel_rfl) (pw_fieldb (off := 0) (by kernel_rfl) rfl) ?_
              refine d_only 9 rfl (by kernel_rfl) rfl (o_append 4 (e := 3) (sz := 1) (by' := 8) (z3) rfl (by kernel_rfl) rfl rfl rfl rfl rfl rfl (.cons .sc .nil) rfl (by first | omega | assumption | (have u40 := ufOk_len (l := l) (by assumption); omega)) (by first | omega | assumption | (have u40 := ufOk_len (l := l) (by assumption); omega))) ?_
              refine d_only 11 rfl (by kernel_rfl) rfl (o_storeb (n := 1) (by kernel_rfl) rfl rfl rfl rfl rfl rfl) ?_
              refine d_take 12 rfl rfl (by kernel_rfl) (by kernel_rfl) (by kernel_rfl) (p_fieldb (off := 1) (by kernel_rfl) rfl) ?_
              refine d_only 13 rfl (by kernel_rfl) rfl (o_storeb (n := 1) (by kernel_rfl) rfl rfl rfl rfl rfl rfl) ?_
              refine d_end (by kernel_rfl) ?_
              refine t_endblock ?_
              refine t_region ?_
              refine r_op (o_bin rfl rfl rfl rfl) ?_
              refine r_op (o_move rfl rfl) ?_
              refine r_end ?_
              refine t_le ?_ (ih0 (m + 1) (by (try dsimp only); omega) (by (try dsimp only); exact ⟨by omega, i2⟩))
              exact ⟨⟨rfl, ⟨rfl, ⟨rfl, ⟨rfl, ⟨(eqI (wr64 (by omega) (by omega))), trivial⟩⟩⟩⟩⟩, ⟨rfl, ⟨rfl, ⟨rfl, ⟨(eqR (by first | exact (us_more (by assumption) (by omega)).1.symm | exact (us_same (by assumption) (by omega)).1.symm)), ⟨(eqR (by first | exact (us_more (by assumption) (by omega)).2.symm | exact (us_same (by assumption) (by omega)).2.symm)), trivial⟩⟩⟩⟩⟩, rfl⟩
        ·
          refine d_two 3 8 rfl rfl (by kernel_rfl) rfl rfl (o_litS 5 (e := 3) (sz := 1) (zs := [.int .i64 (0)]) rfl rfl (by kernel_rfl) rfl rfl rfl rfl rfl) (o_litS 5 (e := 3) (sz := 1) (zs := [.int .i64 (0)]) rfl rfl (by kernel_rfl) rfl rfl rfl rfl rfl) ?_ ?_
          ·
            refine d_two 4 8 rfl rfl (by kernel_rfl) rfl rfl (o_append 3 (e := 3) (sz := 1) (by' := 8) ((m : Int)) rfl (by kernel_rfl) rfl rfl rfl rfl rfl rfl (.cons .sc .nil) rfl (by first | omega | assumption | (have u40 := ufOk_len (l := l) (by assumption); omega)) (by first | omega | assumption | (have u40 := ufOk_len (l := l) (by assumption); omega))) (o_litS 6 (e := 3) (sz := 1) (zs := [.int .i64 (0)]) rfl rfl (by kernel_rfl) rfl rfl rfl rfl rfl) ?_ ?_
            ·
              refine d_takeP 10 rfl rfl (by kernel_rfl) (by kernel_rfl) (by kernel_rfl) (pw_fieldb (off := 0) (by kernel_rfl) rfl) ?_
              refine d_only 8 rfl (by kernel_rfl) rfl (o_litS 6 (e := 3) (sz := 1) (zs := [.int .i64 (0)]) rfl rfl (by kernel_rfl) rfl rfl rfl rfl rfl) ?_
              refine d_only 9 rfl (by kernel_rfl) rfl (o_append 4 (e := 3) (sz := 1) (by' := 8) (z3) rfl (by kernel_rfl) rfl rfl rfl rfl rfl rfl (.cons .sc .nil) rfl (by first | omega | assumption | (have u40 := ufOk_len (l := l) (by assumption); omega)) (by first | omega | assumption | (have u40 := ufOk_len (l := l) (by assumption); omega))) ?_
              refine d_only 11 rfl (by kernel_rfl) rfl (o_storeb (n := 1) (by kernel_rfl) rfl rfl rfl rfl rfl rfl) ?_
              refine d_take 12 rfl rfl (by kernel_rfl) (by kernel_rfl) (by kernel_rfl) (p_fieldb (off := 1) (by kernel_rfl) rfl) ?_
              refine d_only 13 rfl (by kernel_rfl) rfl (o_storeb (n := 1) (by kernel_rfl) rfl rfl rfl rfl rfl rfl) ?_
              refine d_end (by kernel_rfl) ?_
              refine t_endblock ?_
              refine t_region ?_
              refine r_op (o_bin rfl rfl rfl rfl) ?_
              refine r_op (o_move rfl rfl) ?_
              refine r_end ?_
              refine t_le ?_ (ih0 (m + 1) (by (try dsimp only); omega) (by (try dsimp only); exact ⟨by omega, i2⟩))
              exact ⟨⟨rfl, ⟨rfl, ⟨rfl, ⟨rfl, ⟨(eqI (wr64 (by omega) (by omega))), trivial⟩⟩⟩⟩⟩, ⟨rfl, ⟨rfl, ⟨rfl, ⟨(eqR (by first | exact (us_more (by assumption) (by omega)).1.symm | exact (us_same (by assumption) (by omega)).1.symm)), ⟨(eqR (by first | exact (us_more (by assumption) (by omega)).2.symm | exact (us_same (by assumption) (by omega)).2.symm)), trivial⟩⟩⟩⟩⟩, rfl⟩
            ·
              refine d_only 4 rfl (by kernel_rfl) rfl (o_append 3 (e := 3) (sz := 1) (by' := 8) ((m : Int)) rfl (by kernel_rfl) rfl rfl rfl rfl rfl rfl (.cons .sc .nil) rfl (by first | omega | assumption | (have u40 := ufOk_len (l := l) (by assumption); omega)) (by first | omega | assumption | (have u40 := ufOk_len (l := l) (by assumption); omega))) ?_
              refine d_takeP 10 rfl rfl (by kernel_rfl) (by kernel_rfl) (by kernel_rfl) (pw_fieldb (off := 0) (by kernel_rfl) rfl) ?_
              refine d_only 9 rfl (by kernel_rfl) rfl (o_append 4 (e := 3) (sz := 1) (by' := 8) (z3) rfl (by kernel_rfl) rfl rfl rfl rfl rfl rfl (.cons .sc .nil) rfl (by first | omega | assumption | (have u40 := ufOk_len (l := l) (by assumption); omega)) (by first | omega | assumption | (have u40 := ufOk_len (l := l) (by assumption); omega))) ?_
              refine d_only 11 rfl (by kernel_rfl) rfl (o_storeb (n := 1) (by kernel_rfl) rfl rfl rfl rfl rfl rfl) ?_
              refine d_take 12 rfl rfl (by kernel_rfl) (by kernel_rfl) (by kernel_rfl) (p_fieldb (off := 1) (by kernel_rfl) rfl) ?_
              refine d_only 13 rfl (by kernel_rfl) rfl (o_storeb (n := 1) (by kernel_rfl) rfl rfl rfl rfl rfl rfl) ?_
              refine d_end (by kernel_rfl) ?_
              refine t_endblock ?_
              refine t_region ?_
              refine r_op (o_bin rfl rfl rfl rfl) ?_
              refine r_op (o_move rfl rfl) ?_
              refine r_end ?_
              refine t_le ?_ (ih0 (m + 1) (by (try dsimp only); omega) (by (try dsimp only); exact ⟨by omega, i2⟩))
              exact ⟨⟨rfl, ⟨rfl, ⟨rfl, ⟨rfl, ⟨(eqI (wr64 (by omega) (by omega))), trivial⟩⟩⟩⟩⟩, ⟨rfl, ⟨rfl, ⟨rfl, ⟨(eqR (by first | exact (us_more (by assumption) (by omega)).1.symm | exact (us_same (by assumption) (by omega)).1.symm)), ⟨(eqR (by first | exact (us_more (by assumption) (by omega)).2.symm | exact (us_same (by assumption) (by omega)).2.symm)), trivial⟩⟩⟩⟩⟩, rfl⟩
          ·
            refine d_only 3 rfl (by kernel_rfl) rfl (o_litS 6 (e := 3) (sz := 1) (zs := [.int .i64 (0)]) rfl rfl (by kernel_rfl) rfl rfl rfl rfl rfl) ?_
            refine d_only 4 rfl (by kernel_rfl) rfl (o_append 3 (e := 3) (sz := 1) (by' := 8) ((m : Int)) rfl (by kernel_rfl) rfl rfl rfl rfl rfl rfl (.cons .sc .nil) rfl (by first | omega | assumption | (have u40 := ufOk_len (l := l) (by assumption); omega)) (by first | omega | assumption | (have u40 := ufOk_len (l := l) (by assumption); omega))) ?_
            refine d_takeP 10 rfl rfl (by kernel_rfl) (by kernel_rfl) (by kernel_rfl) (pw_fieldb (off := 0) (by kernel_rfl) rfl) ?_
            refine d_only 9 rfl (by kernel_rfl) rfl (o_append 4 (e := 3) (sz := 1) (by' := 8) (z3) rfl (by kernel_rfl) rfl rfl rfl rfl rfl rfl (.cons .sc .nil) rfl (by first | omega | assumption | (have u40 := ufOk_len (l := l) (by assumption); omega)) (by first | omega | assumption | (have u40 := ufOk_len (l := l) (by assumption); omega))) ?_
            refine d_only 11 rfl (by kernel_rfl) rfl (o_storeb (n := 1) (by kernel_rfl) rfl rfl rfl rfl rfl rfl) ?_
            refine d_take 12 rfl rfl (by kernel_rfl) (by kernel_rfl) (by kernel_rfl) (p_fieldb (off := 1) (by kernel_rfl) rfl) ?_
            refine d_only 13 rfl (by kernel_rfl) rfl (o_storeb (n := 1) (by kernel_rfl) rfl rfl rfl rfl rfl rfl) ?_
            refine d_end (by kernel_rfl) ?_
            refine t_endblock ?_
            refine t_region ?_
            refine r_op (o_bin rfl rfl rfl rfl) ?_
            refine r_op (o_move rfl rfl) ?_
            refine r_end ?_
            refine t_le ?_ (ih0 (m + 1) (by (try dsimp only); omega) (by (try dsimp only); exact ⟨by omega, i2⟩))
            exact ⟨⟨rfl, ⟨rfl, ⟨rfl, ⟨rfl, ⟨(eqI (wr64 (by omega) (by omega))), trivial⟩⟩⟩⟩⟩, ⟨rfl, ⟨rfl, ⟨rfl, ⟨(eqR (by first | exact (us_more (by assumption) (by omega)).1.symm | exact (us_same (by assumption) (by omega)).1.symm)), ⟨(eqR (by first | exact (us_more (by assumption) (by omega)).2.symm | exact (us_same (by assumption) (by omega)).2.symm)), trivial⟩⟩⟩⟩⟩, rfl⟩
        ·
          refine d_two 3 6 rfl rfl (by kernel_rfl) rfl rfl (o_litS 6 (e := 3) (sz := 1) (zs := [.int .i64 (0)]) rfl rfl (by kernel_rfl) rfl rfl rfl rfl rfl) (o_load1b rfl (by kernel_rfl) rfl rfl rfl) ?_ ?_
          ·
            refine d_two 4 6 rfl rfl (by kernel_rfl) rfl rfl (o_append 3 (e := 3) (sz := 1) (by' := 8) ((m : Int)) rfl (by kernel_rfl) rfl rfl rfl rfl rfl rfl (.cons .sc .nil) rfl (by first | omega | assumption | (have u40 := ufOk_len (l := l) (by assumption); omega)) (by first | omega | assumption | (have u40 := ufOk_len (l := l) (by assumption); omega))) (o_load1b rfl (by kernel_rfl) rfl rfl rfl) ?_ ?_
            ·
              refine d_take 6 rfl rfl (by kernel_rfl) (by kernel_rfl) (by kernel_rfl) (p_load1b (by kernel_rfl) rfl rfl rfl) ?_
              refine d_takeP 10 rfl rfl (by kernel_rfl) (by kernel_rfl) (by kernel_rfl) (pw_fieldb (off := 0) (by kernel_rfl) rfl) ?_
              refine d_only 9 rfl (by kernel_rfl) rfl (o_append 4 (e := 3) (sz := 1) (by' := 8) (z3) rfl (by kernel_rfl) rfl rfl rfl rfl rfl rfl (.cons .sc .nil) rfl (by first | omega | assumption | (have u40 := ufOk_len (l := l) (by assumption); omega)) (by first | omega | assumption | (have u40 := ufOk_len (l := l) (by assumption); omega))) ?_
              refine d_only 11 rfl (by kernel_rfl) rfl (o_storeb (n := 1) (by kernel_rfl) rfl rfl rfl rfl rfl rfl) ?_
              refine d_take 12 rfl rfl (by kernel_rfl) (by kernel_rfl) (by kernel_rfl) (p_fieldb (off := 1) (by kernel_rfl) rfl) ?_
              refine d_only 13 rfl (by kernel_rfl) rfl (o_storeb (n := 1) (by kernel_rfl) rfl rfl rfl rfl rfl rfl) ?_
              refine d_end (by kernel_rfl) ?_
              refine t_endblock ?_
              refine t_region ?_
              refine r_op (o_bin rfl rfl rfl rfl) ?_
              refine r_op (o_move rfl rfl) ?_
              refine r_end ?_
              refine t_le ?_ (ih0 (m + 1) (by (try dsimp only); omega) (by (try dsimp only); exact ⟨by omega, i2⟩))
              exact ⟨⟨rfl, ⟨rfl, ⟨rfl, ⟨rfl, ⟨(eqI (wr64 (by omega) (by omega))), trivial⟩⟩⟩⟩⟩, ⟨rfl, ⟨rfl, ⟨rfl, ⟨(eqR (by first | exact (us_more (by assumption) (by omega)).1.symm | exact (us_same (by assumption) (by omega)).1.symm)), ⟨(eqR (by first | exact (us_more (by assumption) (by omega)).2.symm | exact (us_same (by assumption) (by omega)).2.symm)), trivial⟩⟩⟩⟩⟩, rfl⟩
            ·
              refine d_only 4 rfl (by kernel_rfl) rfl (o_append 3 (e := 3) (sz := 1) (by' := 8) ((m : Int)) rfl (by kernel_rfl) rfl rfl rfl rfl rfl rfl (.cons .sc .nil) rfl (by first | omega | assumption | (have u40 := ufOk_len (l := l) (by assumption); omega)) (by first | omega | assumption | (have u40 := ufOk_len (l := l) (by assumption); omega))) ?_
              refine d_takeP 10 rfl rfl (by kernel_rfl) (by kernel_rfl) (by kernel_rfl) (pw_fieldb (off := 0) (by kernel_rfl) rfl) ?_
              refine d_only 9 rfl (by kernel_rfl) rfl (o_append 4 (e := 3) (sz := 1) (by' := 8) (z3) rfl (by kernel_rfl) rfl rfl rfl rfl rfl rfl (.cons .sc .nil) rfl (by first | omega | assumption | (have u40 := ufOk_len (l := l) (by assumption); omega)) (by first | omega | assumption | (have u40 := ufOk_len (l := l) (by assumption); omega))) ?_
              refine d_only 11 rfl (by kernel_rfl) rfl (o_storeb (n := 1) (by kernel_rfl) rfl rfl rfl rfl rfl rfl) ?_
              refine d_take 12 rfl rfl (by kernel_rfl) (by kernel_rfl) (by kernel_rfl) (p_fieldb (off := 1) (by kernel_rfl) rfl) ?_
              refine d_only 13 rfl (by kernel_rfl) rfl (o_storeb (n := 1) (by kernel_rfl) rfl rfl rfl rfl rfl rfl) ?_
              refine d_end (by kernel_rfl) ?_
              refine t_endblock ?_
              refine t_region ?_
              refine r_op (o_bin rfl rfl rfl rfl) ?_
              refine r_op (o_move rfl rfl) ?_
              refine r_end ?_
              refine t_le ?_ (ih0 (m + 1) (by (try dsimp only); omega) (by (try dsimp only); exact ⟨by omega, i2⟩))
              exact ⟨⟨rfl, ⟨rfl, ⟨rfl, ⟨rfl, ⟨(eqI (wr64 (by omega) (by omega))), trivial⟩⟩⟩⟩⟩, ⟨rfl, ⟨rfl, ⟨rfl, ⟨(eqR (by first | exact (us_more (by assumption) (by omega)).1.symm | exact (us_same (by assumption) (by omega)).1.symm)), ⟨(eqR (by first | exact (us_more (by assumption) (by omega)).2.symm | exact (us_same (by assumption) (by omega)).2.symm)), trivial⟩⟩⟩⟩⟩, rfl⟩
          ·
            refine d_only 3 rfl (by kernel_rfl) rfl (o_litS 6 (e := 3) (sz := 1) (zs := [.int .i64 (0)]) rfl rfl (by kernel_rfl) rfl rfl rfl rfl rfl) ?_
            refine d_only 4 rfl (by kernel_rfl) rfl (o_append 3 (e := 3) (sz := 1) (by' := 8) ((m : Int)) rfl (by kernel_rfl) rfl rfl rfl rfl rfl rfl (.cons .sc .nil) rfl (by first | omega | assumption | (have u40 := ufOk_len (l := l) (by assumption); omega)) (by first | omega | assumption | (have u40 := ufOk_len (l := l) (by assumption); omega))) ?_
            refine d_takeP 10 rfl rfl (by kernel_rfl) (by kernel_rfl) (by kernel_rfl) (pw_fieldb (off := 0) (by kernel_rfl) rfl) ?_
            refine d_only 9 rfl (by kernel_rfl) rfl (o_append 4 (e := 3) (sz := 1) (by' := 8) (z3) rfl (by kernel_rfl) rfl rfl rfl rfl rfl rfl (.cons .sc .nil) rfl (by first | omega | assumption | (have u40 := ufOk_len (l := l) (by assumption); omega)) (by first | omega | assumption | (have u40 := ufOk_len (l := l) (by assumption); omega))) ?_
            refine d_only 11 rfl (by kernel_rfl) rfl (o_storeb (n := 1) (by kernel_rfl) rfl rfl rfl rfl rfl rfl) ?_
            refine d_take 12 rfl rfl (by kernel_rfl) (by kernel_rfl) (by kernel_rfl) (p_fieldb (off := 1) (by kernel_rfl) rfl) ?_
            refine d_only 13 rfl (by kernel_rfl) rfl (o_storeb (n := 1) (by kernel_rfl) rfl rfl rfl rfl rfl rfl) ?_
            refine d_end (by kernel_rfl) ?_
            refine t_endblock ?_
            refine t_region ?_
            refine r_op (o_bin rfl rfl rfl rfl) ?_
            refine r_op (o_move rfl rfl) ?_
            refine r_end ?_
            refine t_le ?_ (ih0 (m + 1) (by (try dsimp only); omega) (by (try dsimp only); exact ⟨by omega, i2⟩))
            exact ⟨⟨rfl, ⟨rfl, ⟨rfl, ⟨rfl, ⟨(eqI (wr64 (by omega) (by omega))), trivial⟩⟩⟩⟩⟩, ⟨rfl, ⟨rfl, ⟨rfl, ⟨(eqR (by first | exact (us_more (by assumption) (by omega)).1.symm | exact (us_same (by assumption) (by omega)).1.symm)), ⟨(eqR (by first | exact (us_more (by assumption) (by omega)).2.symm | exact (us_same (by assumption) (by omega)).2.symm)), trivial⟩⟩⟩⟩⟩, rfl⟩
      ·
        have h6' := of_decide_eq_false h6
        refine t_skip ?_
        refine t_endblock ?_
        refine t_region ?_
        refine r_op (o_bin rfl rfl rfl rfl) ?_
        refine r_op (o_move rfl rfl) ?_
        refine r_end ?_
        refine t_le ?_ (ih0 (m + 1) (by (try dsimp only); omega) (by (try dsimp only); exact ⟨by omega, i2⟩))
        exact ⟨⟨rfl, ⟨rfl, ⟨rfl, ⟨rfl, ⟨(eqI (wr64 (by omega) (by omega))), trivial⟩⟩⟩⟩⟩, ⟨rfl, ⟨rfl, ⟨rfl, ⟨(eqR (by first | exact (us_more (by assumption) (by omega)).1.symm | exact (us_same (by assumption) (by omega)).1.symm)), ⟨(eqR (by first | exact (us_more (by assumption) (by omega)).2.symm | exact (us_same (by assumption) (by omega)).2.symm)), trivial⟩⟩⟩⟩⟩, rfl⟩
    ·
      have h2' := of_decide_eq_false h2
      refine t_exit rfl ?_
      refine t_seq ?_
      refine t_region ?_
      refine r_op (o_loadAb rfl (n := 2) (by kernel_rfl) (by kernel_rfl) rfl rfl rfl) ?_
      refine r_op (o_storeb (n := 2) (by kernel_rfl) rfl rfl rfl rfl rfl rfl) ?_
      refine r_end ?_
      refine t_ret Try.func13 (.cells (n := 2) (by kernel_rfl) (by kernel_rfl) rfl rfl rfl .nil) rfl fun E S w u hI hd => ?_
      refine post_mk hI hd ?_ ⟨eqR ?_, ⟨eqR ?_, trivial⟩⟩ rfl rfl rfl <;> clear hI hd <;> (try clear ih0)
      all_goals first | rfl | (first | (rw [(us_bad (by assumption)).1]; done) | (rw [(us_bad (by assumption)).2]; done) | (rw [List.take_of_length_le (by omega), (us_good (by assumption)).1]; done) | (rw [List.take_of_length_le (by omega), (us_good (by assumption)).2]; done) | (rcases i2 with e | e <;> (try subst e) <;> first | (rw [List.take_of_length_le (by omega), (us_good (by assumption)).1]; done) | (rw [List.take_of_length_le (by omega), (us_good (by assumption)).2]; done) | (rw [(us_nil (l := l) (by omega)).1]; rfl) | (rw [(us_nil (l := l) (by omega)).2]; rfl) | (rw [(us_bad (l := l) (by assumption)).1]; rfl) | (rw [(us_bad (l := l) (by assumption)).2]; rfl) | (exfalso; simp_all; done)))
end Go.Eng
