/- What the functions that FnPositions reaches answer. -/
import Derived.Test.YtjjoopbebildfaaDoorFnsFnPositionsp0
import Derived.Test.YtjjoopbebildfaaDoorEngX
import Derived.Test.YtjjoopbebildfaaDoorChecked
set_option linter.unusedVariables false
set_option linter.unusedSimpArgs false
namespace Go.Eng
open Go Go.RowKit Go.Proofs
set_option maxHeartbeats 1000000 in
set_option maxRecDepth 10000 in
theorem c_spec_l9Any (code : List Int) (i h : Int) (hc : code.length ≤ 1048576) (hi0 : 0 ≤ i) (hi1 : i ≤ code.length) : MuG Tryd.prog 32 [.c (.ptr 0 0)] [.t none (.sl 1 encU (code)), .t none (.v (.int .i64 (i))), .t none (.v (.int .i64 (h)))] (fun (⟨b, hs, e, lv, rv, i2, h2⟩ : Atoms × Atoms × Bool × Int × Int × Int × Int) => depL (b, hs, e, lv, rv) ∧ 0 ≤ i2 ∧ i2 ≤ code.length) (fun (⟨b, hs, e, lv, rv, i2, h2⟩ : Atoms × Atoms × Bool × Int × Int × Int × Int) => [.t none (.sl 1 encU (code)), .t none (.v (.int .i64 (i2))), .t none (.v (.int .i64 (h2)))]) (fun (⟨b, hs, e, lv, rv, i2, h2⟩ : Atoms × Atoms × Bool × Int × Int × Int × Int) => [(7, some (.row none 72 true 2 (enS2 encI (enSl 1 encI)) (b))), (8, some (.row none 72 true 2 (enS2 encI (enSl 1 encI)) (hs)))]) 9 (fun (⟨b, hs, e, lv, rv, i2, h2⟩ : Atoms × Atoms × Bool × Int × Int × Int × Int) => .agg [.own 7, .own 8, .t none (.v (.bool (e))), .t none (.v (.int .i64 (lv))), .t none (.v (.int .i64 (rv)))]) := by
  refine mu_enterG Tryd.func32 rfl (Nat.le_of_ble_eq_true rfl) fun v0 w S M hM => ?_
  refine t_seq ?_
  refine t_region ?_
  refine r_op (o_alloc 1 (zs := [.slice none 0 0, .slice none 0 0, .bool (false), .int .i64 (0), .int .i64 (0)]) rfl rfl (by kernel_rfl) rfl) ?_
  refine r_end ?_
  refine t_seq ?_
  refine t_region ?_
  refine r_op (o_move rfl rfl) ?_
  refine r_opX (o_callGM 0 2 9 (pv := some (v0)) (Go.Proofs.enters_of Tryd.func41 (by kernel_rfl) rfl) (c_spec_l9Rule (code) (i) (h) (by first | omega | assumption | (rw [holeL_len]; omega) | (have e7 := k7 _ (by assumption); omega) | (simp only [List.length_cons, List.length_nil]; omega)) (by first | omega | assumption | (rw [holeL_len]; omega) | (have e7 := k7 _ (by assumption); omega) | (simp only [List.length_cons, List.length_nil]; omega)) (by first | omega | assumption | (rw [holeL_len]; omega) | (have e7 := k7 _ (by assumption); omega) | (simp only [List.length_cons, List.length_nil]; omega))) rfl rfl (.cur rfl .nil) rfl (fun ⟨_, _, _, _, _, _, _⟩ => rfl) (fun _ => rfl) (fun ⟨_, _, _, _, _, _, _⟩ => rfl) rfl rfl) ?_
  rintro ⟨⟨b1, hs2, e3, lv4, rv5, i26, h27⟩, hq8⟩
  try dsimp only at hq8
  try dsimp only
  obtain ⟨q9, q10, q11⟩ := hq8
  have kd : depL (b1, hs2, e3, lv4, rv5) := (by assumption); obtain ⟨k1, k2, k3, k4, k5, k6⟩ := kd; (try dsimp only at k1 k2 k3 k4 k5 k6); have sa := szA_L k3; have sb := szA_L k4; have k7 : ∀ z, b1[(0 : Int).toNat]? = some z → 1 ≤ z.2.length := fun z hz => (k3 z (List.mem_of_getElem? hz)).2.1.1; have k8 : hs2.length ≤ 2 := (by assumption)
  refine r_op (o_alloc 9 (zs := [.slice none 0 0, .slice none 0 0, .bool (false), .int .i64 (0), .int .i64 (0)]) rfl rfl (by kernel_rfl) rfl) ?_
  refine r_op (o_storeb (n := 5) (by kernel_rfl) rfl rfl rfl rfl rfl rfl) ?_
  refine r_end ?_
  refine t_seq ?_
  refine t_seq ?_
  refine t_region ?_
  refine r_op (o_move rfl rfl) ?_
  refine r_opX (o_callGM 0 10 11 (pv := some (v0)) (Go.Proofs.enters_of Tryd.func17 (by kernel_rfl) rfl) (c_spec_l1Below ((code)) ((i26)) ((h27)) (12) (by first | omega | assumption | (rw [holeL_len]; omega) | (have e7 := k7 _ (by assumption); omega) | (simp only [List.length_cons, List.length_nil]; omega)) (by first | omega | assumption | (rw [holeL_len]; omega) | (have e7 := k7 _ (by assumption); omega) | (simp only [List.length_cons, List.length_nil]; omega)) (by first | omega | assumption | (rw [holeL_len]; omega) | (have e7 := k7 _ (by assumption); omega) | (simp only [List.length_cons, List.length_nil]; omega)) (by first | omega | assumption | (rw [holeL_len]; omega) | (have e7 := k7 _ (by assumption); omega) | (simp only [List.length_cons, List.length_nil]; omega)) (by first | omega | assumption | (rw [holeL_len]; omega) | (have e7 := k7 _ (by assumption); omega) | (simp only [List.length_cons, List.length_nil]; omega))) rfl rfl (.cur rfl (.cons rfl .nil)) rfl (fun ⟨_, _, _⟩ => rfl) (fun _ => rfl) (fun ⟨_, _, _⟩ => rfl) rfl rfl) ?_
  rintro ⟨⟨x12, i213, h214⟩, hq15⟩
  try dsimp only at hq15
  try dsimp only
  obtain ⟨q16, q17⟩ := hq15
  refine r_end ?_
  refine t_block ?_
  refine t_seq ?_
  refine t_region ?_
  refine r_op (o_bin rfl rfl rfl rfl) ?_
  refine r_op (o_assign rfl rfl) ?_
  refine r_end ?_
  refine t_cond rfl (fun h18 => ?_) (fun h18 => ?_)
  ·
    have h18' := of_decide_eq_true h18
    refine t_draw (fun i => !(Nat.beq i 3 || Nat.beq i 7)) (by kernel_rfl) ?_
    refine d_takeP 0 rfl rfl (by kernel_rfl) (by kernel_rfl) (by kernel_rfl) (pw_fieldb (off := 0) (by kernel_rfl) rfl) ?_
    refine d_take 2 rfl rfl (by kernel_rfl) (by kernel_rfl) (by kernel_rfl) (p_move rfl) ?_
    refine d_twoX 1 3 rfl rfl (by kernel_rfl) rfl rfl (osX (o_load1b rfl (by kernel_rfl) rfl rfl rfl)) (o_callGM 0 11 12 (pv := some (v0)) (Go.Proofs.enters_of Tryd.func17 (by kernel_rfl) rfl) (c_spec_l1Below (((code))) ((i213)) ((h214)) (7) (by first | omega | assumption | (rw [holeL_len]; omega) | (have e7 := k7 _ (by assumption); omega) | (simp only [List.length_cons, List.length_nil]; omega)) (by first | omega | assumption | (rw [holeL_len]; omega) | (have e7 := k7 _ (by assumption); omega) | (simp only [List.length_cons, List.length_nil]; omega)) (by first | omega | assumption | (rw [holeL_len]; omega) | (have e7 := k7 _ (by assumption); omega) | (simp only [List.length_cons, List.length_nil]; omega)) (by first | omega | assumption | (rw [holeL_len]; omega) | (have e7 := k7 _ (by assumption); omega) | (simp only [List.length_cons, List.length_nil]; omega)) (by first | omega | assumption | (rw [holeL_len]; omega) | (have e7 := k7 _ (by assumption); omega) | (simp only [List.length_cons, List.length_nil]; omega))) rfl rfl (.cur rfl (.cons rfl .nil)) rfl (fun ⟨_, _, _⟩ => rfl) (fun _ => rfl) (fun ⟨_, _, _⟩ => rfl) rfl rfl) ?_ ?_
    ·
      rintro ⟨⟩
      refine d_onlyX 3 rfl (by kernel_rfl) rfl (o_callGM 0 11 12 (pv := some (v0)) (Go.Proofs.enters_of Tryd.func17 (by kernel_rfl) rfl) (c_spec_l1Below (((code))) ((i213)) ((h214)) (7) (by first | omega | assumption | (rw [holeL_len]; omega) | (have e7 := k7 _ (by assumption); omega) | (simp only [List.length_cons, List.length_nil]; omega)) (by first | omega | assumption | (rw [holeL_len]; omega) | (have e7 := k7 _ (by assumption); omega) | (simp only [List.length_cons, List.length_nil]; omega)) (by first | omega | assumption | (rw [holeL_len]; omega) | (have e7 := k7 _ (by assumption); omega) | (simp only [List.length_cons, List.length_nil]; omega)) (by first | omega | assumption | (rw [holeL_len]; omega) | (have e7 := k7 _ (by assumption); omega) | (simp only [List.length_cons, List.length_nil]; omega)) (by first | omega | assumption | (rw [holeL_len]; omega) | (have e7 := k7 _ (by assumption); omega) | (simp only [List.length_cons, List.length_nil]; omega))) rfl rfl (.cur rfl (.cons rfl .nil)) rfl (fun ⟨_, _, _⟩ => rfl) (fun _ => rfl) (fun ⟨_, _, _⟩ => rfl) rfl rfl) ?_
      rintro ⟨⟨x25, i226, h227⟩, hq28⟩
      try dsimp only at hq28
      try dsimp only
      obtain ⟨q29, q30⟩ := hq28
      refine d_take 4 rfl rfl (by kernel_rfl) (by kernel_rfl) (by kernel_rfl) (p_bin rfl rfl rfl) ?_
      obtain ⟨z31, hz32, b33⟩ := at_get (xs := (b1)) (n := 0) (by first | omega | assumption | (rw [holeL_len]; omega) | (have e7 := k7 _ (by assumption); omega) | (simp only [List.length_cons, List.length_nil]; omega)) (by first | omega | assumption | (rw [holeL_len]; omega) | (have e7 := k7 _ (by assumption); omega) | (simp only [List.length_cons, List.length_nil]; omega))
      refine d_take 5 rfl rfl (by kernel_rfl) (by kernel_rfl) (by kernel_rfl) (p_indexo (by kernel_rfl) rfl rfl rfl b33 (at_lt b33 hz32)) ?_
      refine d_take 6 rfl rfl (by kernel_rfl) (by kernel_rfl) (by kernel_rfl) (p_fieldo (off := 0) (by kernel_rfl) rfl) ?_
      refine d_only 7 rfl (by kernel_rfl) rfl (o_storeo ((IntKind.i64.wrap ((x25) - 1), z31.2)) (n := 1) (by kernel_rfl) rfl rfl hz32 rfl rfl rfl rfl (.cons .sc .nil) rfl (fun j h1 h2 => by (have : j = 0 ∨ j = 1 ∨ j = 2 ∨ j = 3 ∨ j = 4 := by omega); rcases this with rfl | rfl | rfl | rfl | rfl <;> first | rfl | omega | (simp at h2; done))) ?_
      refine d_end (by kernel_rfl) ?_
      refine t_endblock ?_
      refine t_seq ?_
      refine t_region ?_
      refine r_op (o_loadAb rfl (n := 5) (by kernel_rfl) (by kernel_rfl) rfl rfl rfl) ?_
      refine r_op (o_storeb (n := 5) (by kernel_rfl) rfl rfl rfl rfl rfl rfl) ?_
      refine r_end ?_
      refine t_ret Tryd.func32 (.cells (n := 5) (by kernel_rfl) (by kernel_rfl) rfl rfl rfl .nil) rfl fun E S w u hI hd => ?_
      refine post_mkG (⟨((b1)).set ((0 : Int)).toNat ((IntKind.i64.wrap ((x25) - 1), z31.2)), (hs2), (e3), (lv4), (rv5), (i226), (h227)⟩) ?_ hI hd ?_ ⟨rfl, ⟨rfl, ⟨rfl, trivial⟩⟩⟩ rfl rfl <;> clear hI hd
      · (try dsimp only) <;> (first | exact ⟨by assumption, by omega⟩ | (refine ⟨⟨by (simp only [List.length_set]; omega), k2, mem_set k3 (by have e8 := k3 _ (List.mem_of_getElem? hz32); exact ⟨by (try dsimp only); (try simp only [IntKind.wrap_i64] at *); omega, e8.2.1, e8.2.2⟩), k4, k5, k6⟩, by omega⟩; done) | (refine ⟨⟨by (simp only [List.length_set]; omega), k2, mem_set k3 (by have e8 := k3 _ (List.mem_of_getElem? hz32); exact ⟨e8.1, by (simp only [List.length_set]; exact e8.2.1), mem_set e8.2.2 (by have e9 := pick3 (by assumption); omega)⟩), k4, k5, k6⟩, by omega⟩; done) | exact ⟨⟨k1, k2, k3, k4, by (try dsimp only); omega, k6⟩, by omega⟩ | exact ⟨⟨k1, k2, k3, k4, k5, k6⟩, by omega⟩ | exact ⟨⟨k1, by (simp only [List.length_append, List.length_singleton]; omega), k3, mem_snoc k4 ⟨by (try dsimp only); omega, by (try dsimp only); omega, fun x hx => by have e9 := hy9 x hx; omega⟩, k5, k6⟩, by omega⟩)
      · rfl
    ·
      rintro ⟨⟨x19, i220, h221⟩, hq22⟩
      try dsimp only at hq22
      try dsimp only
      obtain ⟨q23, q24⟩ := hq22
      refine d_take 1 rfl rfl (by kernel_rfl) (by kernel_rfl) (by kernel_rfl) (p_load1b (by kernel_rfl) rfl rfl rfl) ?_
      refine d_take 4 rfl rfl (by kernel_rfl) (by kernel_rfl) (by kernel_rfl) (p_bin rfl rfl rfl) ?_
      obtain ⟨z34, hz35, b36⟩ := at_get (xs := (b1)) (n := 0) (by first | omega | assumption | (rw [holeL_len]; omega) | (have e7 := k7 _ (by assumption); omega) | (simp only [List.length_cons, List.length_nil]; omega)) (by first | omega | assumption | (rw [holeL_len]; omega) | (have e7 := k7 _ (by assumption); omega) | (simp only [List.length_cons, List.length_nil]; omega))
      refine d_take 5 rfl rfl (by kernel_rfl) (by kernel_rfl) (by kernel_rfl) (p_indexo (by kernel_rfl) rfl rfl rfl b36 (at_lt b36 hz35)) ?_
      refine d_take 6 rfl rfl (by kernel_rfl) (by kernel_rfl) (by kernel_rfl) (p_fieldo (off := 0) (by kernel_rfl) rfl) ?_
      refine d_only 7 rfl (by kernel_rfl) rfl (o_storeo ((IntKind.i64.wrap ((x19) - 1), z34.2)) (n := 1) (by kernel_rfl) rfl rfl hz35 rfl rfl rfl rfl (.cons .sc .nil) rfl (fun j h1 h2 => by (have : j = 0 ∨ j = 1 ∨ j = 2 ∨ j = 3 ∨ j = 4 := by omega); rcases this with rfl | rfl | rfl | rfl | rfl <;> first | rfl | omega | (simp at h2; done))) ?_
      refine d_end (by kernel_rfl) ?_
      refine t_endblock ?_
      refine t_seq ?_
      refine t_region ?_
      refine r_op (o_loadAb rfl (n := 5) (by kernel_rfl) (by kernel_rfl) rfl rfl rfl) ?_
      refine r_op (o_storeb (n := 5) (by kernel_rfl) rfl rfl rfl rfl rfl rfl) ?_
      refine r_end ?_
      refine t_ret Tryd.func32 (.cells (n := 5) (by kernel_rfl) (by kernel_rfl) rfl rfl rfl .nil) rfl fun E S w u hI hd => ?_
      refine post_mkG (⟨((b1)).set ((0 : Int)).toNat ((IntKind.i64.wrap ((x19) - 1), z34.2)), (hs2), (e3), (lv4), (rv5), (i220), (h221)⟩) ?_ hI hd ?_ ⟨rfl, ⟨rfl, ⟨rfl, trivial⟩⟩⟩ rfl rfl <;> clear hI hd
      · (try dsimp only) <;> (first | exact ⟨by assumption, by omega⟩ | (refine ⟨⟨by (simp only [List.length_set]; omega), k2, mem_set k3 (by have e8 := k3 _ (List.mem_of_getElem? hz35); exact ⟨by (try dsimp only); (try simp only [IntKind.wrap_i64] at *); omega, e8.2.1, e8.2.2⟩), k4, k5, k6⟩, by omega⟩; done) | (refine ⟨⟨by (simp only [List.length_set]; omega), k2, mem_set k3 (by have e8 := k3 _ (List.mem_of_getElem? hz35); exact ⟨e8.1, by (simp only [List.length_set]; exact e8.2.1), mem_set e8.2.2 (by have e9 := pick3 (by assumption); omega)⟩), k4, k5, k6⟩, by omega⟩; done) | exact ⟨⟨k1, k2, k3, k4, by (try dsimp only); omega, k6⟩, by omega⟩ | exact ⟨⟨k1, k2, k3, k4, k5, k6⟩, by omega⟩ | exact ⟨⟨k1, by (simp only [List.length_append, List.length_singleton]; omega), k3, mem_snoc k4 ⟨by (try dsimp only); omega, by (try dsimp only); omega, fun x hx => by have e9 := hy9 x hx; omega⟩, k5, k6⟩, by omega⟩)
      · rfl
  ·
    have h18' := of_decide_eq_false h18
    refine t_seq ?_
    refine t_region ?_
    refine r_op (o_bin rfl rfl rfl rfl) ?_
    refine r_op (o_assign rfl rfl) ?_
    refine r_end ?_
    refine t_cond rfl (fun h37 => ?_) (fun h37 => ?_)
    ·
      have h37' := of_decide_eq_true h37
      obtain ⟨z38, hz39, b40⟩ := at_get (xs := (b1)) (n := (0 : Int)) (by first | omega | assumption | (rw [holeL_len]; omega) | (have e7 := k7 _ (by assumption); omega) | (simp only [List.length_cons, List.length_nil]; omega)) (by first | omega | assumption | (rw [holeL_len]; omega) | (have e7 := k7 _ (by assumption); omega) | (simp only [List.length_cons, List.length_nil]; omega))
      refine gt_takeH 11 7 ((0 : Int)).toNat 1 rfl rfl hz39 rfl rfl fun e41 v42 => ?_
      refine t_draw (fun i => !(Nat.beq i 7 || Nat.beq i 9)) (by kernel_rfl) ?_
      refine d_takeP 0 rfl rfl (by kernel_rfl) (by kernel_rfl) (by kernel_rfl) (pw_fieldb (off := 0) (by kernel_rfl) rfl) ?_
      refine d_take 5 rfl rfl (by kernel_rfl) (by kernel_rfl) (by kernel_rfl) (p_move rfl) ?_
      refine d_two 1 6 rfl rfl (by kernel_rfl) rfl rfl (o_load1b rfl (by kernel_rfl) rfl rfl rfl) (o_litN 12 (e := 3) (sz := 1) (zs := [.int .i64 (0)]) (enc := encI) [5, -11, 4] rfl rfl (by kernel_rfl) rfl rfl rfl rfl rfl rfl rfl rfl (.cons .sc (.cons .sc (.cons .sc .nil))) rfl) ?_ ?_
      ·
        obtain ⟨z43, hz44, b45⟩ := at_get (xs := holeL ((b1)) (((0 : Int)).toNat) z38 1 v42) (n := 0) (by first | omega | assumption | (rw [holeL_len]; omega) | (have e7 := k7 _ (by assumption); omega) | (simp only [List.length_cons, List.length_nil]; omega)) (by first | omega | assumption | (rw [holeL_len]; omega) | (have e7 := k7 _ (by assumption); omega) | (simp only [List.length_cons, List.length_nil]; omega))
        refine d_two 2 6 rfl rfl (by kernel_rfl) rfl rfl (o_indexo rfl (by kernel_rfl) rfl rfl rfl b45 (at_lt b45 hz44)) (o_litN 12 (e := 3) (sz := 1) (zs := [.int .i64 (0)]) (enc := encI) [5, -11, 4] rfl rfl (by kernel_rfl) rfl rfl rfl rfl rfl rfl rfl rfl (.cons .sc (.cons .sc (.cons .sc .nil))) rfl) ?_ ?_
        ·
          refine d_two 3 6 rfl rfl (by kernel_rfl) rfl rfl (o_fieldo rfl (off := 1) (by kernel_rfl) rfl) (o_litN 12 (e := 3) (sz := 1) (zs := [.int .i64 (0)]) (enc := encI) [5, -11, 4] rfl rfl (by kernel_rfl) rfl rfl rfl rfl rfl rfl rfl rfl (.cons .sc (.cons .sc (.cons .sc .nil))) rfl) ?_ ?_
          ·
            refine d_two 4 6 rfl rfl (by kernel_rfl) rfl rfl (o_loadH rfl (k := 11) (by kernel_rfl) rfl rfl rfl (by first | omega | assumption | (rw [holeL_len]; omega) | (have e7 := k7 _ (by assumption); omega) | (simp only [List.length_cons, List.length_nil]; omega)) rfl) (o_litN 12 (e := 3) (sz := 1) (zs := [.int .i64 (0)]) (enc := encI) [5, -11, 4] rfl rfl (by kernel_rfl) rfl rfl rfl rfl rfl rfl rfl rfl (.cons .sc (.cons .sc (.cons .sc .nil))) rfl) ?_ ?_
            ·
              refine d_only 6 rfl (by kernel_rfl) rfl (o_litN 12 (e := 3) (sz := 1) (zs := [.int .i64 (0)]) (enc := encI) [5, -11, 4] rfl rfl (by kernel_rfl) rfl rfl rfl rfl rfl rfl rfl rfl (.cons .sc (.cons .sc (.cons .sc .nil))) rfl) ?_
              refine d_freeze 12 rfl (frz_cur (i := 12) hM rfl rfl rfl) ?_
              refine d_onlyX 7 rfl (by kernel_rfl) rfl (o_callGM 0 13 14 (pv := some (v0)) (Go.Proofs.enters_of Tryd.func23 (by kernel_rfl) rfl) (c_spec_l1PickInt (((code))) ((i213)) ((h214)) ([5, -11, 4]) (by first | omega | assumption | (rw [holeL_len]; omega) | (have e7 := k7 _ (by assumption); omega) | (simp only [List.length_cons, List.length_nil]; omega)) (by first | omega | assumption | (rw [holeL_len]; omega) | (have e7 := k7 _ (by assumption); omega) | (simp only [List.length_cons, List.length_nil]; omega)) (by first | omega | assumption | (rw [holeL_len]; omega) | (have e7 := k7 _ (by assumption); omega) | (simp only [List.length_cons, List.length_nil]; omega)) (by first | omega | assumption | (rw [holeL_len]; omega) | (have e7 := k7 _ (by assumption); omega) | (simp only [List.length_cons, List.length_nil]; omega)) (by first | omega | assumption | (rw [holeL_len]; omega) | (have e7 := k7 _ (by assumption); omega) | (simp only [List.length_cons, List.length_nil]; omega))) rfl rfl (.cur rfl (.cons rfl .nil)) rfl (fun ⟨_, _, _⟩ => rfl) (fun _ => rfl) (fun ⟨_, _, _⟩ => rfl) rfl rfl) ?_
              rintro ⟨⟨x46, i247, h248⟩, hq49⟩
              try dsimp only at hq49
              try dsimp only
              obtain ⟨q50, q51⟩ := hq49
              obtain ⟨z52, hz53, b54⟩ := at_get (xs := z38.2) (n := 0) (by first | omega | assumption | (rw [holeL_len]; omega) | (have e7 := k7 _ (by assumption); omega) | (simp only [List.length_cons, List.length_nil]; omega)) (by first | omega | assumption | (rw [holeL_len]; omega) | (have e7 := k7 _ (by assumption); omega) | (simp only [List.length_cons, List.length_nil]; omega))
              refine d_take 8 rfl rfl (by kernel_rfl) (by kernel_rfl) (by kernel_rfl) (p_indexo (by kernel_rfl) rfl rfl rfl b54 (at_lt b54 hz53)) ?_
              refine d_only 9 rfl (by kernel_rfl) rfl (o_storeo ((x46)) (n := 1) (by kernel_rfl) rfl rfl hz53 rfl rfl rfl rfl (.cons .sc .nil) rfl (fun j h1 h2 => by simp at h1 h2; omega)) ?_
              refine d_end (by kernel_rfl) ?_
              refine t_endblock ?_
              refine t_seq ?_
              refine gt_putH 11 7 (((0 : Int)).toNat) 1 ((z38.1, (z38.2).set ((0 : Int)).toNat ((x46)))) rfl rfl rfl (List.getElem?_eq_some_iff.1 hz39).1 rfl (fun j hj => by (have : j = 0 ∨ j = 1 := by omega); rcases this with rfl | rfl <;> rfl) ?_
              refine t_region ?_
              refine r_op (o_loadAb rfl (n := 5) (by kernel_rfl) (by kernel_rfl) rfl rfl rfl) ?_
              refine r_op (o_storeb (n := 5) (by kernel_rfl) rfl rfl rfl rfl rfl rfl) ?_
              refine r_end ?_
              refine t_ret Tryd.func32 (.cells (n := 5) (by kernel_rfl) (by kernel_rfl) rfl rfl rfl .nil) rfl fun E S w u hI hd => ?_
              refine post_mkG (⟨((b1)).set (((0 : Int)).toNat) ((z38.1, (z38.2).set ((0 : Int)).toNat ((x46)))), (hs2), (e3), (lv4), (rv5), (i247), (h248)⟩) ?_ hI hd ?_ ⟨rfl, ⟨rfl, ⟨rfl, trivial⟩⟩⟩ rfl rfl <;> clear hI hd
              · (try dsimp only) <;> (first | exact ⟨by assumption, by omega⟩ | (refine ⟨⟨by (simp only [List.length_set]; omega), k2, mem_set k3 (by have e8 := k3 _ (List.mem_of_getElem? hz39); exact ⟨by (try dsimp only); (try simp only [IntKind.wrap_i64] at *); omega, e8.2.1, e8.2.2⟩), k4, k5, k6⟩, by omega⟩; done) | (refine ⟨⟨by (simp only [List.length_set]; omega), k2, mem_set k3 (by have e8 := k3 _ (List.mem_of_getElem? hz39); exact ⟨e8.1, by (simp only [List.length_set]; exact e8.2.1), mem_set e8.2.2 (by have e9 := pick3 (by assumption); omega)⟩), k4, k5, k6⟩, by omega⟩; done) | exact ⟨⟨k1, k2, k3, k4, by (try dsimp only); omega, k6⟩, by omega⟩ | exact ⟨⟨k1, k2, k3, k4, k5, k6⟩, by omega⟩ | exact ⟨⟨k1, by (simp only [List.length_append, List.length_singleton]; omega), k3, mem_snoc k4 ⟨by (try dsimp only); omega, by (try dsimp only); omega, fun x hx => by have e9 := hy9 x hx; omega⟩, k5, k6⟩, by omega⟩)
              · rfl
            ·
              refine d_freeze 12 rfl (frz_cur (i := 12) hM rfl rfl rfl) ?_
              refine d_twoX 4 7 rfl rfl (by kernel_rfl) rfl rfl (osX (o_loadH rfl (k := 11) (by kernel_rfl) rfl rfl rfl (by first | omega | assumption | (rw [holeL_len]; omega) | (have e7 := k7 _ (by assumption); omega) | (simp only [List.length_cons, List.length_nil]; omega)) rfl)) (o_callGM 0 13 14 (pv := some (v0)) (Go.Proofs.enters_of Tryd.func23 (by kernel_rfl) rfl) (c_spec_l1PickInt (((code))) ((i213)) ((h214)) ([5, -11, 4]) (by first | omega | assumption | (rw [holeL_len]; omega) | (have e7 := k7 _ (by assumption); omega) | (simp only [List.length_cons, List.length_nil]; omega)) (by first | omega | assumption | (rw [holeL_len]; omega) | (have e7 := k7 _ (by assumption); omega) | (simp only [List.length_cons, List.length_nil]; omega)) (by first | omega | assumption | (rw [holeL_len]; omega) | (have e7 := k7 _ (by assumption); omega) | (simp only [List.length_cons, List.length_nil]; omega)) (by first | omega | assumption | (rw [holeL_len]; omega) | (have e7 := k7 _ (by assumption); omega) | (simp only [List.length_cons, List.length_nil]; omega)) (by first | omega | assumption | (rw [holeL_len]; omega) | (have e7 := k7 _ (by assumption); omega) | (simp only [List.length_cons, List.length_nil]; omega))) rfl rfl (.cur rfl (.cons rfl .nil)) rfl (fun ⟨_, _, _⟩ => rfl) (fun _ => rfl) (fun ⟨_, _, _⟩ => rfl) rfl rfl) ?_ ?_
              ·
                rintro ⟨⟩
                refine d_onlyX 7 rfl (by kernel_rfl) rfl (o_callGM 0 13 14 (pv := some (v0)) (Go.Proofs.enters_of Tryd.func23 (by kernel_rfl) rfl) (c_spec_l1PickInt (((code))) ((i213)) ((h214)) ([5, -11, 4]) (by first | omega | assumption | (rw [holeL_len]; omega) | (have e7 := k7 _ (by assumption); omega) | (simp only [List.length_cons, List.length_nil]; omega)) (by first | omega | assumption | (rw [holeL_len]; omega) | (have e7 := k7 _ (by assumption); omega) | (simp only [List.length_cons, List.length_nil]; omega)) (by first | omega | assumption | (rw [holeL_len]; omega) | (have e7 := k7 _ (by assumption); omega) | (simp only [List.length_cons, List.length_nil]; omega)) (by first | omega | assumption | (rw [holeL_len]; omega) | (have e7 := k7 _ (by assumption); omega) | (simp only [List.length_cons, List.length_nil]; omega)) (by first | omega | assumption | (rw [holeL_len]; omega) | (have e7 := k7 _ (by assumption); omega) | (simp only [List.length_cons, List.length_nil]; omega))) rfl rfl (.cur rfl (.cons rfl .nil)) rfl (fun ⟨_, _, _⟩ => rfl) (fun _ => rfl) (fun ⟨_, _, _⟩ => rfl) rfl rfl) ?_
                rintro ⟨⟨x61, i262, h263⟩, hq64⟩
                try dsimp only at hq64
                try dsimp only
                obtain ⟨q65, q66⟩ := hq64
                obtain ⟨z67, hz68, b69⟩ := at_get (xs := z38.2) (n := 0) (by first | omega | assumption | (rw [holeL_len]; omega) | (have e7 := k7 _ (by assumption); omega) | (simp only [List.length_cons, List.length_nil]; omega)) (by first | omega | assumption | (rw [holeL_len]; omega) | (have e7 := k7 _ (by assumption); omega) | (simp only [List.length_cons, List.length_nil]; omega))
                refine d_take 8 rfl rfl (by kernel_rfl) (by kernel_rfl) (by kernel_rfl) (p_indexo (by kernel_rfl) rfl rfl rfl b69 (at_lt b69 hz68)) ?_
                refine d_only 9 rfl (by kernel_rfl) rfl (o_storeo ((x61)) (n := 1) (by kernel_rfl) rfl rfl hz68 rfl rfl rfl rfl (.cons .sc .nil) rfl (fun j h1 h2 => by simp at h1 h2; omega)) ?_
                refine d_end (by kernel_rfl) ?_
                refine t_endblock ?_
                refine t_seq ?_
                refine gt_putH 11 7 (((0 : Int)).toNat) 1 ((z38.1, (z38.2).set ((0 : Int)).toNat ((x61)))) rfl rfl rfl (List.getElem?_eq_some_iff.1 hz39).1 rfl (fun j hj => by (have : j = 0 ∨ j = 1 := by omega); rcases this with rfl | rfl <;> rfl) ?_
                refine t_region ?_
                refine r_op (o_loadAb rfl (n := 5) (by kernel_rfl) (by kernel_rfl) rfl rfl rfl) ?_
                refine r_op (o_storeb (n := 5) (by kernel_rfl) rfl rfl rfl rfl rfl rfl) ?_
                refine r_end ?_
                refine t_ret Tryd.func32 (.cells (n := 5) (by kernel_rfl) (by kernel_rfl) rfl rfl rfl .nil) rfl fun E S w u hI hd => ?_
                refine post_mkG (⟨((b1)).set (((0 : Int)).toNat) ((z38.1, (z38.2).set ((0 : Int)).toNat ((x61)))), (hs2), (e3), (lv4), (rv5), (i262), (h263)⟩) ?_ hI hd ?_ ⟨rfl, ⟨rfl, ⟨rfl, trivial⟩⟩⟩ rfl rfl <;> clear hI hd
                · (try dsimp only) <;> (first | exact ⟨by assumption, by omega⟩ | (refine ⟨⟨by (simp only [List.length_set]; omega), k2, mem_set k3 (by have e8 := k3 _ (List.mem_of_getElem? hz39); exact ⟨by (try dsimp only); (try simp only [IntKind.wrap_i64] at *); omega, e8.2.1, e8.2.2⟩), k4, k5, k6⟩, by omega⟩; done) | (refine ⟨⟨by (simp only [List.length_set]; omega), k2, mem_set k3 (by have e8 := k3 _ (List.mem_of_getElem? hz39); exact ⟨e8.1, by (simp only [List.length_set]; exact e8.2.1), mem_set e8.2.2 (by have e9 := pick3 (by assumption); omega)⟩), k4, k5, k6⟩, by omega⟩; done) | exact ⟨⟨k1, k2, k3, k4, by (try dsimp only); omega, k6⟩, by omega⟩ | exact ⟨⟨k1, k2, k3, k4, k5, k6⟩, by omega⟩ | exact ⟨⟨k1, by (simp only [List.length_append, List.length_singleton]; omega), k3, mem_snoc k4 ⟨by (try dsimp only); omega, by (try dsimp only); omega, fun x hx => by have e9 := hy9 x hx; omega⟩, k5, k6⟩, by omega⟩)
                · rfl
              ·
                rintro ⟨⟨x55, i256, h257⟩, hq58⟩
                try dsimp only at hq58
                try dsimp only
                obtain ⟨q59, q60⟩ := hq58
                refine d_take 4 rfl rfl (by kernel_rfl) (by kernel_rfl) (by kernel_rfl) (p_loadH (k := 11) (by kernel_rfl) rfl rfl rfl (by first | omega | assumption | (rw [holeL_len]; omega) | (have e7 := k7 _ (by assumption); omega) | (simp only [List.length_cons, List.length_nil]; omega)) rfl) ?_
                obtain ⟨z70, hz71, b72⟩ := at_get (xs := z38.2) (n := 0) (by first | omega | assumption | (rw [holeL_len]; omega) | (have e7 := k7 _ (by assumption); omega) | (simp only [List.length_cons, List.length_nil]; omega)) (by first | omega | assumption | (rw [holeL_len]; omega) | (have e7 := k7 _ (by assumption); omega) | (simp only [List.length_cons, List.length_nil]; omega))
                refine d_take 8 rfl rfl (by kernel_rfl) (by kernel_rfl) (by kernel_rfl) (p_indexo (by kernel_rfl) rfl rfl rfl b72 (at_lt b72 hz71)) ?_
                refine d_only 9 rfl (by kernel_rfl) rfl (o_storeo ((x55)) (n := 1) (by kernel_rfl) rfl rfl hz71 rfl rfl rfl rfl (.cons .sc .nil) rfl (fun j h1 h2 => by simp at h1 h2; omega)) ?_
                refine d_end (by kernel_rfl) ?_
                refine t_endblock ?_
                refine t_seq ?_
                refine gt_putH 11 7 (((0 : Int)).toNat) 1 ((z38.1, (z38.2).set ((0 : Int)).toNat ((x55)))) rfl rfl rfl (List.getElem?_eq_some_iff.1 hz39).1 rfl (fun j hj => by (have : j = 0 ∨ j = 1 := by omega); rcases this with rfl | rfl <;> rfl) ?_
                refine t_region ?_
                refine r_op (o_loadAb rfl (n := 5) (by kernel_rfl) (by kernel_rfl) rfl rfl rfl) ?_
                refine r_op (o_storeb (n := 5) (by kernel_rfl) rfl rfl rfl rfl rfl rfl) ?_
                refine r_end ?_
                refine t_ret Tryd.func32 (.cells (n := 5) (by kernel_rfl) (by kernel_rfl) rfl rfl rfl .nil) rfl fun E S w u hI hd => ?_
                refine post_mkG (⟨((b1)).set (((0 : Int)).toNat) ((z38.1, (z38.2).set ((0 : Int)).toNat ((x55)))), (hs2), (e3), (lv4), (rv5), (i256), (h257)⟩) ?_ hI hd ?_ ⟨rfl, ⟨rfl, ⟨rfl, trivial⟩⟩⟩ rfl rfl <;> clear hI hd
                · (try dsimp only) <;> (first | exact ⟨by assumption, by omega⟩ | (refine ⟨⟨by (simp only [List.length_set]; omega), k2, mem_set k3 (by have e8 := k3 _ (List.mem_of_getElem? hz39); exact ⟨by (try dsimp only); (try simp only [IntKind.wrap_i64] at *); omega, e8.2.1, e8.2.2⟩), k4, k5, k6⟩, by omega⟩; done) | (refine ⟨⟨by (simp only [List.length_set]; omega), k2, mem_set k3 (by have e8 := k3 _ (List.mem_of_getElem? hz39); exact ⟨e8.1, by (simp only [List.length_set]; exact e8.2.1), mem_set e8.2.2 (by have e9 := pick3 (by assumption); omega)⟩), k4, k5, k6⟩, by omega⟩; done) | exact ⟨⟨k1, k2, k3, k4, by (try dsimp only); omega, k6⟩, by omega⟩ | exact ⟨⟨k1, k2, k3, k4, k5, k6⟩, by omega⟩ | exact ⟨⟨k1, by (simp only [List.length_append, List.length_singleton]; omega), k3, mem_snoc k4 ⟨by (try dsimp only); omega, by (try dsimp only); omega, fun x hx => by have e9 := hy9 x hx; omega⟩, k5, k6⟩, by omega⟩)
                · rfl
          ·
            refine d_freeze 12 rfl (frz_cur (i := 12) hM rfl rfl rfl) ?_
            refine d_twoX 3 7 rfl rfl (by kernel_rfl) rfl rfl (osX (o_fieldo rfl (off := 1) (by kernel_rfl) rfl)) (o_callGM 0 13 14 (pv := some (v0)) (Go.Proofs.enters_of Tryd.func23 (by kernel_rfl) rfl) (c_spec_l1PickInt (((code))) ((i213)) ((h214)) ([5, -11, 4]) (by first | omega | assumption | (rw [holeL_len]; omega) | (have e7 := k7 _ (by assumption); omega) | (simp only [List.length_cons, List.length_nil]; omega)) (by first | omega | assumption | (rw [holeL_len]; omega) | (have e7 := k7 _ (by assumption); omega) | (simp only [List.length_cons, List.length_nil]; omega)) (by first | omega | assumption | (rw [holeL_len]; omega) | (have e7 := k7 _ (by assumption); omega) | (simp only [List.length_cons, List.length_nil]; omega)) (by first | omega | assumption | (rw [holeL_len]; omega) | (have e7 := k7 _ (by assumption); omega) | (simp only [List.length_cons, List.length_nil]; omega)) (by first | omega | assumption | (rw [holeL_len]; omega) | (have e7 := k7 _ (by assumption); omega) | (simp only [List.length_cons, List.length_nil]; omega))) rfl rfl (.cur rfl (.cons rfl .nil)) rfl (fun ⟨_, _, _⟩ => rfl) (fun _ => rfl) (fun ⟨_, _, _⟩ => rfl) rfl rfl) ?_ ?_
            ·
              rintro ⟨⟩
              refine d_twoX 4 7 rfl rfl (by kernel_rfl) rfl rfl (osX (o_loadH rfl (k := 11) (by kernel_rfl) rfl rfl rfl (by first | omega | assumption | (rw [holeL_len]; omega) | (have e7 := k7 _ (by assumption); omega) | (simp only [List.length_cons, List.length_nil]; omega)) rfl)) (o_callGM 0 13 14 (pv := some (v0)) (Go.Proofs.enters_of Tryd.func23 (by kernel_rfl) rfl) (c_spec_l1PickInt (((code))) ((i213)) ((h214)) ([5, -11, 4]) (by first | omega | assumption | (rw [holeL_len]; omega) | (have e7 := k7 _ (by assumption); omega) | (simp only [List.length_cons, List.length_nil]; omega)) (by first | omega | assumption | (rw [holeL_len]; omega) | (have e7 := k7 _ (by assumption); omega) | (simp only [List.length_cons, List.length_nil]; omega)) (by first | omega | assumption | (rw [holeL_len]; omega) | (have e7 := k7 _ (by assumption); omega) | (simp only [List.length_cons, List.length_nil]; omega)) (by first | omega | assumption | (rw [holeL_len]; omega) | (have e7 := k7 _ (by assumption); omega) | (simp only [List.length_cons, List.length_nil]; omega)) (by first | omega | assumption | (rw [holeL_len]; omega) | (have e7 := k7 _ (by assumption); omega) | (simp only [List.length_cons, List.length_nil]; omega))) rfl rfl (.cur rfl (.cons rfl .nil)) rfl (fun ⟨_, _, _⟩ => rfl) (fun _ => rfl) (fun ⟨_, _, _⟩ => rfl) rfl rfl) ?_ ?_
              ·
                rintro ⟨⟩
                refine d_onlyX 7 rfl (by kernel_rfl) rfl (o_callGM 0 13 14 (pv := some (v0)) (Go.Proofs.enters_of Tryd.func23 (by kernel_rfl) rfl) (c_spec_l1PickInt (((code))) ((i213)) ((h214)) ([5, -11, 4]) (by first | omega | assumption | (rw [holeL_len]; omega) | (have e7 := k7 _ (by assumption); omega) | (simp only [List.length_cons, List.length_nil]; omega)) (by first | omega | assumption | (rw [holeL_len]; omega) | (have e7 := k7 _ (by assumption); omega) | (simp only [List.length_cons, List.length_nil]; omega)) (by first | omega | assumption | (rw [holeL_len]; omega) | (have e7 := k7 _ (by assumption); omega) | (simp only [List.length_cons, List.length_nil]; omega)) (by first | omega | assumption | (rw [holeL_len]; omega) | (have e7 := k7 _ (by assumption); omega) | (simp only [List.length_cons, List.length_nil]; omega)) (by first | omega | assumption | (rw [holeL_len]; omega) | (have e7 := k7 _ (by assumption); omega) | (simp only [List.length_cons, List.length_nil]; omega))) rfl rfl (.cur rfl (.cons rfl .nil)) rfl (fun ⟨_, _, _⟩ => rfl) (fun _ => rfl) (fun ⟨_, _, _⟩ => rfl) rfl rfl) ?_
                rintro ⟨⟨x85, i286, h287⟩, hq88⟩
                try dsimp only at hq88
                try dsimp only
                obtain ⟨q89, q90⟩ := hq88
                obtain ⟨z91, hz92, b93⟩ := at_get (xs := z38.2) (n := 0) (by first | omega | assumption | (rw [holeL_len]; omega) | (have e7 := k7 _ (by assumption); omega) | (simp only [List.length_cons, List.length_nil]; omega)) (by first | omega | assumption | (rw [holeL_len]; omega) | (have e7 := k7 _ (by assumption); omega) | (simp only [List.length_cons, List.length_nil]; omega))
                refine d_take 8 rfl rfl (by kernel_rfl) (by kernel_rfl) (by kernel_rfl) (p_indexo (by kernel_rfl) rfl rfl rfl b93 (at_lt b93 hz92)) ?_
                refine d_only 9 rfl (by kernel_rfl) rfl (o_storeo ((x85)) (n := 1) (by kernel_rfl) rfl rfl hz92 rfl rfl rfl rfl (.cons .sc .nil) rfl (fun j h1 h2 => by simp at h1 h2; omega)) ?_
                refine d_end (by kernel_rfl) ?_
                refine t_endblock ?_
                refine t_seq ?_
                refine gt_putH 11 7 (((0 : Int)).toNat) 1 ((z38.1, (z38.2).set ((0 : Int)).toNat ((x85)))) rfl rfl rfl (List.getElem?_eq_some_iff.1 hz39).1 rfl (fun j hj => by (have : j = 0 ∨ j = 1 := by omega); rcases this with rfl | rfl <;> rfl) ?_
                refine t_region ?_
                refine r_op (o_loadAb rfl (n := 5) (by kernel_rfl) (by kernel_rfl) rfl rfl rfl) ?_
                refine r_op (o_storeb (n := 5) (by kernel_rfl) rfl rfl rfl rfl rfl rfl) ?_
                refine r_end ?_
                refine t_ret Tryd.func32 (.cells (n := 5) (by kernel_rfl) (by kernel_rfl) rfl rfl rfl .nil) rfl fun E S w u hI hd => ?_
                refine post_mkG (⟨((b1)).set (((0 : Int)).toNat) ((z38.1, (z38.2).set ((0 : Int)).toNat ((x85)))), (hs2), (e3), (lv4), (rv5), (i286), (h287)⟩) ?_ hI hd ?_ ⟨rfl, ⟨rfl, ⟨rfl, trivial⟩⟩⟩ rfl rfl <;> clear hI hd
                · (try dsimp only) <;> (first | exact ⟨by assumption, by omega⟩ | (refine ⟨⟨by (simp only [List.length_set]; omega), k2, mem_set k3 (by have e8 := k3 _ (List.mem_of_getElem? hz39); exact ⟨by (try dsimp only); (try simp only [IntKind.wrap_i64] at *); omega, e8.2.1, e8.2.2⟩), k4, k5, k6⟩, by omega⟩; done) | (refine ⟨⟨by (simp only [List.length_set]; omega), k2, mem_set k3 (by have e8 := k3 _ (List.mem_of_getElem? hz39); exact ⟨e8.1, by (simp only [List.length_set]; exact e8.2.1), mem_set e8.2.2 (by have e9 := pick3 (by assumption); omega)⟩), k4, k5, k6⟩, by omega⟩; done) | exact ⟨⟨k1, k2, k3, k4, by (try dsimp only); omega, k6⟩, by omega⟩ | exact ⟨⟨k1, k2, k3, k4, k5, k6⟩, by omega⟩ | exact ⟨⟨k1, by (simp only [List.length_append, List.length_singleton]; omega), k3, mem_snoc k4 ⟨by (try dsimp only); omega, by (try dsimp only); omega, fun x hx => by have e9 := hy9 x hx; omega⟩, k5, k6⟩, by omega⟩)
                · rfl
              ·
                rintro ⟨⟨x79, i280, h281⟩, hq82⟩
                try dsimp only at hq82
                try dsimp only
                obtain ⟨q83, q84⟩ := hq82
                refine d_take 4 rfl rfl (by kernel_rfl) (by kernel_rfl) (by kernel_rfl) (p_loadH (k := 11) (by kernel_rfl) rfl rfl rfl (by first | omega | assumption | (rw [holeL_len]; omega) | (have e7 := k7 _ (by assumption); omega) | (simp only [List.length_cons, List.length_nil]; omega)) rfl) ?_
                obtain ⟨z94, hz95, b96⟩ := at_get (xs := z38.2) (n := 0) (by first | omega | assumption | (rw [holeL_len]; omega) | (have e7 := k7 _ (by assumption); omega) | (simp only [List.length_cons, List.length_nil]; omega)) (by first | omega | assumption | (rw [holeL_len]; omega) | (have e7 := k7 _ (by assumption); omega) | (simp only [List.length_cons, List.length_nil]; omega))
                refine d_take 8 rfl rfl (by kernel_rfl) (by kernel_rfl) (by kernel_rfl) (p_indexo (by kernel_rfl) rfl rfl rfl b96 (at_lt b96 hz95)) ?_
                refine d_only 9 rfl (by kernel_rfl) rfl (o_storeo ((x79)) (n := 1) (by kernel_rfl) rfl rfl hz95 rfl rfl rfl rfl (.cons .sc .nil) rfl (fun j h1 h2 => by simp at h1 h2; omega)) ?_
                refine d_end (by kernel_rfl) ?_
                refine t_endblock ?_
                refine t_seq ?_
                refine gt_putH 11 7 (((0 : Int)).toNat) 1 ((z38.1, (z38.2).set ((0 : Int)).toNat ((x79)))) rfl rfl rfl (List.getElem?_eq_some_iff.1 hz39).1 rfl (fun j hj => by (have : j = 0 ∨ j = 1 := by omega); rcases this with rfl | rfl <;> rfl) ?_
                refine t_region ?_
                refine r_op (o_loadAb rfl (n := 5) (by kernel_rfl) (by kernel_rfl) rfl rfl rfl) ?_
                refine r_op (o_storeb (n := 5) (by kernel_rfl) rfl rfl rfl rfl rfl rfl) ?_
                refine r_end ?_
                refine t_ret Tryd.func32 (.cells (n := 5) (by kernel_rfl) (by kernel_rfl) rfl rfl rfl .nil) rfl fun E S w u hI hd => ?_
                refine post_mkG (⟨((b1)).set (((0 : Int)).toNat) ((z38.1, (z38.2).set ((0 : Int)).toNat ((x79)))), (hs2), (e3), (lv4), (rv5), (i280), (h281)⟩) ?_ hI hd ?_ ⟨rfl, ⟨rfl, ⟨rfl, trivial⟩⟩⟩ rfl rfl <;> clear hI hd
                · (try dsimp only) <;> (first | exact ⟨by assumption, by omega⟩ | (refine ⟨⟨by (simp only [List.length_set]; omega), k2, mem_set k3 (by have e8 := k3 _ (List.mem_of_getElem? hz39); exact ⟨by (try dsimp only); (try simp only [IntKind.wrap_i64] at *); omega, e8.2.1, e8.2.2⟩), k4, k5, k6⟩, by omega⟩; done) | (refine ⟨⟨by (simp only [List.length_set]; omega), k2, mem_set k3 (by have e8 := k3 _ (List.mem_of_getElem? hz39); exact ⟨e8.1, by (simp only [List.length_set]; exact e8.2.1), mem_set e8.2.2 (by have e9 := pick3 (by assumption); omega)⟩), k4, k5, k6⟩, by omega⟩; done) | exact ⟨⟨k1, k2, k3, k4, by (try dsimp only); omega, k6⟩, by omega⟩ | exact ⟨⟨k1, k2, k3, k4, k5, k6⟩, by omega⟩ | exact ⟨⟨k1, by (simp only [List.length_append, List.length_singleton]; omega), k3, mem_snoc k4 ⟨by (try dsimp only); omega, by (try dsimp only); omega, fun x hx => by have e9 := hy9 x hx; omega⟩, k5, k6⟩, by omega⟩)
                · rfl
            ·
              rintro ⟨⟨x73, i274, h275⟩, hq76⟩
              try dsimp only at hq76
              try dsimp only
              obtain ⟨q77, q78⟩ := hq76
              refine d_take 3 rfl rfl (by kernel_rfl) (by kernel_rfl) (by kernel_rfl) (p_fieldo (off := 1) (by kernel_rfl) rfl) ?_
              refine d_take 4 rfl rfl (by kernel_rfl) (by kernel_rfl) (by kernel_rfl) (p_loadH (k := 11) (by kernel_rfl) rfl rfl rfl (by first | omega | assumption | (rw [holeL_len]; omega) | (have e7 := k7 _ (by assumption); omega) | (simp only [List.length_cons, List.length_nil]; omega)) rfl) ?_
              obtain ⟨z97, hz98, b99⟩ := at_get (xs := z38.2) (n := 0) (by first | omega | assumption | (rw [holeL_len]; omega) | (have e7 := k7 _ (by assumption); omega) | (simp only [List.length_cons, List.length_nil]; omega)) (by first | omega | assumption | (rw [holeL_len]; omega) | (have e7 := k7 _ (by assumption); omega) | (simp only [List.length_cons, List.length_nil]; omega))
              refine d_take 8 rfl rfl (by kernel_rfl) (by kernel_rfl) (by kernel_rfl) (p_indexo (by kernel_rfl) rfl rfl rfl b99 (at_lt b99 hz98)) ?_
              refine d_only 9 rfl (by kernel_rfl) rfl (o_storeo ((x73)) (n := 1) (by kernel_rfl) rfl rfl hz98 rfl rfl rfl rfl (.cons .sc .nil) rfl (fun j h1 h2 => by simp at h1 h2; omega)) ?_
              refine d_end (by kernel_rfl) ?_
              refine t_endblock ?_
              refine t_seq ?_
              refine gt_putH 11 7 (((0 : Int)).toNat) 1 ((z38.1, (z38.2).set ((0 : Int)).toNat ((x73)))) rfl rfl rfl (List.getElem?_eq_some_iff.1 hz39).1 rfl (fun j hj => by (have : j = 0 ∨ j = 1 := by omega); rcases this with rfl | rfl <;> rfl) ?_
              refine t_region ?_
              refine r_op (o_loadAb rfl (n := 5) (by kernel_rfl) (by kernel_rfl) rfl rfl rfl) ?_
              refine r_op (o_storeb (n := 5) (by kernel_rfl) rfl rfl rfl rfl rfl rfl) ?_
              refine r_end ?_
              refine t_ret Tryd.func32 (.cells (n := 5) (by kernel_rfl) (by kernel_rfl) rfl rfl rfl .nil) rfl fun E S w u hI hd => ?_
              refine post_mkG (⟨((b1)).set (((0 : Int)).toNat) ((z38.1, (z38.2).set ((0 : Int)).toNat ((x73)))), (hs2), (e3), (lv4), (rv5), (i274), (h275)⟩) ?_ hI hd ?_ ⟨rfl, ⟨rfl, ⟨rfl, trivial⟩⟩⟩ rfl rfl <;> clear hI hd
              · (try dsimp only) <;> (first | exact ⟨by assumption, by omega⟩ | (refine ⟨⟨by (simp only [List.length_set]; omega), k2, mem_set k3 (by have e8 := k3 _ (List.mem_of_getElem? hz39); exact ⟨by (try dsimp only); (try simp only [IntKind.wrap_i64] at *); omega, e8.2.1, e8.2.2⟩), k4, k5, k6⟩, by omega⟩; done) | (refine ⟨⟨by (simp only [List.length_set]; omega), k2, mem_set k3 (by have e8 := k3 _ (List.mem_of_getElem? hz39); exact ⟨e8.1, by (simp only [List.length_set]; exact e8.2.1), mem_set e8.2.2 (by have e9 := pick3 (by assumption); omega)⟩), k4, k5, k6⟩, by omega⟩; done) | exact ⟨⟨k1, k2, k3, k4, by (try dsimp only); omega, k6⟩, by omega⟩ | exact ⟨⟨k1, k2, k3, k4, k5, k6⟩, by omega⟩ | exact ⟨⟨k1, by (simp only [List.length_append, List.length_singleton]; omega), k3, mem_snoc k4 ⟨by (try dsimp only); omega, by (try dsimp only); omega, fun x hx => by have e9 := hy9 x hx; omega⟩, k5, k6⟩, by omega⟩)
              · rfl
        ·
          refine d_freeze 12 rfl (frz_cur (i := 12) hM rfl rfl rfl) ?_
          obtain ⟨z100, hz101, b102⟩ := at_get (xs := holeL ((b1)) (((0 : Int)).toNat) z38 1 v42) (n := 0) (by first | omega | assumption | (rw [holeL_len]; omega) | (have e7 := k7 _ (by assumption); omega) | (simp only [List.length_cons, List.length_nil]; omega)) (by first | omega | assumption | (rw [holeL_len]; omega) | (have e7 := k7 _ (by assumption); omega) | (simp only [List.length_cons, List.length_nil]; omega))
          refine d_twoX 2 7 rfl rfl (by kernel_rfl) rfl rfl (osX (o_indexo rfl (by kernel_rfl) rfl rfl rfl b102 (at_lt b102 hz101))) (o_callGM 0 13 14 (pv := some (v0)) (Go.Proofs.enters_of Tryd.func23 (by kernel_rfl) rfl) (c_spec_l1PickInt (((code))) ((i213)) ((h214)) ([5, -11, 4]) (by first | omega | assumption | (rw [holeL_len]; omega) | (have e7 := k7 _ (by assumption); omega) | (simp only [List.length_cons, List.length_nil]; omega)) (by first | omega | assumption | (rw [holeL_len]; omega) | (have e7 := k7 _ (by assumption); omega) | (simp only [List.length_cons, List.length_nil]; omega)) (by first | omega | assumption | (rw [holeL_len]; omega) | (have e7 := k7 _ (by assumption); omega) | (simp only [List.length_cons, List.length_nil]; omega)) (by first | omega | assumption | (rw [holeL_len]; omega) | (have e7 := k7 _ (by assumption); omega) | (simp only [List.length_cons, List.length_nil]; omega)) (by first | omega | assumption | (rw [holeL_len]; omega) | (have e7 := k7 _ (by assumption); omega) | (simp only [List.length_cons, List.length_nil]; omega))) rfl rfl (.cur rfl (.cons rfl .nil)) rfl (fun ⟨_, _, _⟩ => rfl) (fun _ => rfl) (fun ⟨_, _, _⟩ => rfl) rfl rfl) ?_ ?_
          ·
            rintro ⟨⟩
            refine d_twoX 3 7 rfl rfl (by kernel_rfl) rfl rfl (osX (o_fieldo rfl (off := 1) (by kernel_rfl) rfl)) (o_callGM 0 13 14 (pv := some (v0)) (Go.Proofs.enters_of Tryd.func23 (by kernel_rfl) rfl) (c_spec_l1PickInt (((code))) ((i213)) ((h214)) ([5, -11, 4]) (by first | omega | assumption | (rw [holeL_len]; omega) | (have e7 := k7 _ (by assumption); omega) | (simp only [List.length_cons, List.length_nil]; omega)) (by first | omega | assumption | (rw [holeL_len]; omega) | (have e7 := k7 _ (by assumption); omega) | (simp only [List.length_cons, List.length_nil]; omega)) (by first | omega | assumption | (rw [holeL_len]; omega) | (have e7 := k7 _ (by assumption); omega) | (simp only [List.length_cons, List.length_nil]; omega)) (by first | omega | assumption | (rw [holeL_len]; omega) | (have e7 := k7 _ (by assumption); omega) | (simp only [List.length_cons, List.length_nil]; omega)) (by first | omega | assumption | (rw [holeL_len]; omega) | (have e7 := k7 _ (by assumption); omega) | (simp only [List.length_cons, List.length_nil]; omega))) rfl rfl (.cur rfl (.cons rfl .nil)) rfl (fun ⟨_, _, _⟩ => rfl) (fun _ => rfl) (fun ⟨_, _, _⟩ => rfl) rfl rfl) ?_ ?_
            ·
              rintro ⟨⟩
              refine d_twoX 4 7 rfl rfl (by kernel_rfl) rfl rfl (osX (o_loadH rfl (k := 11) (by kernel_rfl) rfl rfl rfl (by first | omega | assumption | (rw [holeL_len]; omega) | (have e7 := k7 _ (by assumption); omega) | (simp only [List.length_cons, List.length_nil]; omega)) rfl)) (o_callGM 0 13 14 (pv := some (v0)) (Go.Proofs.enters_of Tryd.func23 (by kernel_rfl) rfl) (c_spec_l1PickInt (((code))) ((i213)) ((h214)) ([5, -11, 4]) (by first | omega | assumption | (rw [holeL_len]; omega) | (have e7 := k7 _ (by assumption); omega) | (simp only [List.length_cons, List.length_nil]; omega)) (by first | omega | assumption | (rw [holeL_len]; omega) | (have e7 := k7 _ (by assumption); omega) | (simp only [List.length_cons, List.length_nil]; omega)) (by first | omega | assumption | (rw [holeL_len]; omega) | (have e7 := k7 _ (by assumption); omega) | (simp only [List.length_cons, List.length_nil]; omega)) (by first | omega | assumption | (rw [holeL_len]; omega) | (have e7 := k7 _ (by assumption); omega) | (simp only [List.length_cons, List.length_nil]; omega)) (by first | omega | assumption | (rw [holeL_len]; omega) | (have e7 := k7 _ (by assumption); omega) | (simp only [List.length_cons, List.length_nil]; omega))) rfl rfl (.cur rfl (.cons rfl .nil)) rfl (fun ⟨_, _, _⟩ => rfl) (fun _ => rfl) (fun ⟨_, _, _⟩ => rfl) rfl rfl) ?_ ?_
              ·
                rintro ⟨⟩
                refine d_onlyX 7 rfl (by kernel_rfl) rfl (o_callGM 0 13 14 (pv := some (v0)) (Go.Proofs.enters_of Tryd.func23 (by kernel_rfl) rfl) (c_spec_l1PickInt (((code))) ((i213)) ((h214)) ([5, -11, 4]) (by first | omega | assumption | (rw [holeL_len]; omega) | (have e7 := k7 _ (by assumption); omega) | (simp only [List.length_cons, List.length_nil]; omega)) (by first | omega | assumption | (rw [holeL_len]; omega) | (have e7 := k7 _ (by assumption); omega) | (simp only [List.length_cons, List.length_nil]; omega)) (by first | omega | assumption | (rw [holeL_len]; omega) | (have e7 := k7 _ (by assumption); omega) | (simp only [List.length_cons, List.length_nil]; omega)) (by first | omega | assumption | (rw [holeL_len]; omega) | (have e7 := k7 _ (by assumption); omega) | (simp only [List.length_cons, List.length_nil]; omega)) (by first | omega | assumption | (rw [holeL_len]; omega) | (have e7 := k7 _ (by assumption); omega) | (simp only [List.length_cons, List.length_nil]; omega))) rfl rfl (.cur rfl (.cons rfl .nil)) rfl (fun ⟨_, _, _⟩ => rfl) (fun _ => rfl) (fun ⟨_, _, _⟩ => rfl) rfl rfl) ?_
                rintro ⟨⟨x121, i2122, h2123⟩, hq124⟩
                try dsimp only at hq124
                try dsimp only
                obtain ⟨q125, q126⟩ := hq124
                obtain ⟨z127, hz128, b129⟩ := at_get (xs := z38.2) (n := 0) (by first | omega | assumption | (rw [holeL_len]; omega) | (have e7 := k7 _ (by assumption); omega) | (simp only [List.length_cons, List.length_nil]; omega)) (by first | omega | assumption | (rw [holeL_len]; omega) | (have e7 := k7 _ (by assumption); omega) | (simp only [List.length_cons, List.length_nil]; omega))
                refine d_take 8 rfl rfl (by kernel_rfl) (by kernel_rfl) (by kernel_rfl) (p_indexo (by kernel_rfl) rfl rfl rfl b129 (at_lt b129 hz128)) ?_
                refine d_only 9 rfl (by kernel_rfl) rfl (o_storeo ((x121)) (n := 1) (by kernel_rfl) rfl rfl hz128 rfl rfl rfl rfl (.cons .sc .nil) rfl (fun j h1 h2 => by simp at h1 h2; omega)) ?_
                refine d_end (by kernel_rfl) ?_
                refine t_endblock ?_
                refine t_seq ?_
                refine gt_putH 11 7 (((0 : Int)).toNat) 1 ((z38.1, (z38.2).set ((0 : Int)).toNat ((x121)))) rfl rfl rfl (List.getElem?_eq_some_iff.1 hz39).1 rfl (fun j hj => by (have : j = 0 ∨ j = 1 := by omega); rcases this with rfl | rfl <;> rfl) ?_
                refine t_region ?_
                refine r_op (o_loadAb rfl (n := 5) (by kernel_rfl) (by kernel_rfl) rfl rfl rfl) ?_
                refine r_op (o_storeb (n := 5) (by kernel_rfl) rfl rfl rfl rfl rfl rfl) ?_
                refine r_end ?_
                refine t_ret Tryd.func32 (.cells (n := 5) (by kernel_rfl) (by kernel_rfl) rfl rfl rfl .nil) rfl fun E S w u hI hd => ?_
                refine post_mkG (⟨((b1)).set (((0 : Int)).toNat) ((z38.1, (z38.2).set ((0 : Int)).toNat ((x121)))), (hs2), (e3), (lv4), (rv5), (i2122), (h2123)⟩) ?_ hI hd ?_ ⟨rfl, ⟨rfl, ⟨rfl, trivial⟩⟩⟩ rfl rfl <;> clear hI hd
                · (try dsimp only) <;> (first | exact ⟨by assumption, by omega⟩ | (refine ⟨⟨by (simp only [List.length_set]; omega), k2, mem_set k3 (by have e8 := k3 _ (List.mem_of_getElem? hz39); exact ⟨by (try dsimp only); (try simp only [IntKind.wrap_i64] at *); omega, e8.2.1, e8.2.2⟩), k4, k5, k6⟩, by omega⟩; done) | (refine ⟨⟨by (simp only [List.length_set]; omega), k2, mem_set k3 (by have e8 := k3 _ (List.mem_of_getElem? hz39); exact ⟨e8.1, by (simp only [List.length_set]; exact e8.2.1), mem_set e8.2.2 (by have e9 := pick3 (by assumption); omega)⟩), k4, k5, k6⟩, by omega⟩; done) | exact ⟨⟨k1, k2, k3, k4, by (try dsimp only); omega, k6⟩, by omega⟩ | exact ⟨⟨k1, k2, k3, k4, k5, k6⟩, by omega⟩ | exact ⟨⟨k1, by (simp only [List.length_append, List.length_singleton]; omega), k3, mem_snoc k4 ⟨by (try dsimp only); omega, by (try dsimp only); omega, fun x hx => by have e9 := hy9 x hx; omega⟩, k5, k6⟩, by omega⟩)
                · rfl
              ·
                rintro ⟨⟨x115, i2116, h2117⟩, hq118⟩
                try dsimp only at hq118
                try dsimp only
                obtain ⟨q119, q120⟩ := hq118
                refine d_take 4 rfl rfl (by kernel_rfl) (by kernel_rfl) (by kernel_rfl) (p_loadH (k := 11) (by kernel_rfl) rfl rfl rfl (by first | omega | assumption | (rw [holeL_len]; omega) | (have e7 := k7 _ (by assumption); omega) | (simp only [List.length_cons, List.length_nil]; omega)) rfl) ?_
                obtain ⟨z130, hz131, b132⟩ := at_get (xs := z38.2) (n := 0) (by first | omega | assumption | (rw [holeL_len]; omega) | (have e7 := k7 _ (by assumption); omega) | (simp only [List.length_cons, List.length_nil]; omega)) (by first | omega | assumption | (rw [holeL_len]; omega) | (have e7 := k7 _ (by assumption); omega) | (simp only [List.length_cons, List.length_nil]; omega))
                refine d_take 8 rfl rfl (by kernel_rfl) (by kernel_rfl) (by kernel_rfl) (p_indexo (by kernel_rfl) rfl rfl rfl b132 (at_lt b132 hz131)) ?_
                refine d_only 9 rfl (by kernel_rfl) rfl (o_storeo ((x115)) (n := 1) (by kernel_rfl) rfl rfl hz131 rfl rfl rfl rfl (.cons .sc .nil) rfl (fun j h1 h2 => by simp at h1 h2; omega)) ?_
                refine d_end (by kernel_rfl) ?_
                refine t_endblock ?_
                refine t_seq ?_
                refine gt_putH 11 7 (((0 : Int)).toNat) 1 ((z38.1, (z38.2).set ((0 : Int)).toNat ((x115)))) rfl rfl rfl (List.getElem?_eq_some_iff.1 hz39).1 rfl (fun j hj => by (have : j = 0 ∨ j = 1 := by omega); rcases this with rfl | rfl <;> rfl) ?_
                refine t_region ?_
                refine r_op (o_loadAb rfl (n := 5) (by kernel_rfl) (by kernel_rfl) rfl rfl rfl) ?_
                refine r_op (o_storeb (n := 5) (by kernel_rfl) rfl rfl rfl rfl rfl rfl) ?_
                refine r_end ?_
                refine t_ret Tryd.func32 (.cells (n := 5) (by kernel_rfl) (by kernel_rfl) rfl rfl rfl .nil) rfl fun E S w u hI hd => ?_
                refine post_mkG (⟨((b1)).set (((0 : Int)).toNat) ((z38.1, (z38.2).set ((0 : Int)).toNat ((x115)))), (hs2), (e3), (lv4), (rv5), (i2116), (h2117)⟩) ?_ hI hd ?_ ⟨rfl, ⟨rfl, ⟨rfl, trivial⟩⟩⟩ rfl rfl <;> clear hI hd
                · (try dsimp only) <;> (first | exact ⟨by assumption, by omega⟩ | (refine ⟨⟨by (simp only [List.length_set]; omega), k2, mem_set k3 (by have e8 := k3 _ (List.mem_of_getElem? hz39); exact ⟨by (try dsimp only); (try simp only [IntKind.wrap_i64] at *); omega, e8.2.1, e8.2.2⟩), k4, k5, k6⟩, by omega⟩; done) | (refine ⟨⟨by (simp only [List.length_set]; omega), k2, mem_set k3 (by have e8 := k3 _ (List.mem_of_getElem? hz39); exact ⟨e8.1, by (simp only [List.length_set]; exact e8.2.1), mem_set e8.2.2 (by have e9 := pick3 (by assumption); omega)⟩), k4, k5, k6⟩, by omega⟩; done) | exact ⟨⟨k1, k2, k3, k4, by (try dsimp only); omega, k6⟩, by omega⟩ | exact ⟨⟨k1, k2, k3, k4, k5, k6⟩, by omega⟩ | exact ⟨⟨k1, by (simp only [List.length_append, List.length_singleton]; omega), k3, mem_snoc k4 ⟨by (try dsimp only); omega, by (try dsimp only); omega, fun x hx => by have e9 := hy9 x hx; omega⟩, k5, k6⟩, by omega⟩)
                · rfl
            ·
              rintro ⟨⟨x109, i2110, h2111⟩, hq112⟩
              try dsimp only at hq112
              try dsimp only
              obtain ⟨q113, q114⟩ := hq112
              refine d_take 3 rfl rfl (by kernel_rfl) (by kernel_rfl) (by kernel_rfl) (p_fieldo (off := 1) (by kernel_rfl) rfl) ?_
              refine d_take 4 rfl rfl (by kernel_rfl) (by kernel_rfl) (by kernel_rfl) (p_loadH (k := 11) (by kernel_rfl) rfl rfl rfl (by first | omega | assumption | (rw [holeL_len]; omega) | (have e7 := k7 _ (by assumption); omega) | (simp only [List.length_cons, List.length_nil]; omega)) rfl) ?_
              obtain ⟨z133, hz134, b135⟩ := at_get (xs := z38.2) (n := 0) (by first | omega | assumption | (rw [holeL_len]; omega) | (have e7 := k7 _ (by assumption); omega) | (simp only [List.length_cons, List.length_nil]; omega)) (by first | omega | assumption | (rw [holeL_len]; omega) | (have e7 := k7 _ (by assumption); omega) | (simp only [List.length_cons, List.length_nil]; omega))
              refine d_take 8 rfl rfl (by kernel_rfl) (by kernel_rfl) (by kernel_rfl) (p_indexo (by kernel_rfl) rfl rfl rfl b135 (at_lt b135 hz134)) ?_
              refine d_only 9 rfl (by kernel_rfl) rfl (o_storeo ((x109)) (n := 1) (by kernel_rfl) rfl rfl hz134 rfl rfl rfl rfl (.cons .sc .nil) rfl (fun j h1 h2 => by simp at h1 h2; omega)) ?_
              refine d_end (by kernel_rfl) ?_
              refine t_endblock ?_
              refine t_seq ?_
              refine gt_putH 11 7 (((0 : Int)).toNat) 1 ((z38.1, (z38.2).set ((0 : Int)).toNat ((x109)))) rfl rfl rfl (List.getElem?_eq_some_iff.1 hz39).1 rfl (fun j hj => by (have : j = 0 ∨ j = 1 := by omega); rcases this with rfl | rfl <;> rfl) ?_
              refine t_region ?_
              refine r_op (o_loadAb rfl (n := 5) (by kernel_rfl) (by kernel_rfl) rfl rfl rfl) ?_
              refine r_op (o_storeb (n := 5) (by kernel_rfl) rfl rfl rfl rfl rfl rfl) ?_
              refine r_end ?_
              refine t_ret Tryd.func32 (.cells (n := 5) (by kernel_rfl) (by kernel_rfl) rfl rfl rfl .nil) rfl fun E S w u hI hd => ?_
              refine post_mkG (⟨((b1)).set (((0 : Int)).toNat) ((z38.1, (z38.2).set ((0 : Int)).toNat ((x109)))), (hs2), (e3), (lv4), (rv5), (i2110), (h2111)⟩) ?_ hI hd ?_ ⟨rfl, ⟨rfl, ⟨rfl, trivial⟩⟩⟩ rfl rfl <;> clear hI hd
              · (try dsimp only) <;> (first | exact ⟨by assumption, by omega⟩ | (refine ⟨⟨by (simp only [List.length_set]; omega), k2, mem_set k3 (by have e8 := k3 _ (List.mem_of_getElem? hz39); exact ⟨by (try dsimp only); (try simp only [IntKind.wrap_i64] at *); omega, e8.2.1, e8.2.2⟩), k4, k5, k6⟩, by omega⟩; done) | (refine ⟨⟨by (simp only [List.length_set]; omega), k2, mem_set k3 (by have e8 := k3 _ (List.mem_of_getElem? hz39); exact ⟨e8.1, by (simp only [List.length_set]; exact e8.2.1), mem_set e8.2.2 (by have e9 := pick3 (by assumption); omega)⟩), k4, k5, k6⟩, by omega⟩; done) | exact ⟨⟨k1, k2, k3, k4, by (try dsimp only); omega, k6⟩, by omega⟩ | exact ⟨⟨k1, k2, k3, k4, k5, k6⟩, by omega⟩ | exact ⟨⟨k1, by (simp only [List.length_append, List.length_singleton]; omega), k3, mem_snoc k4 ⟨by (try dsimp only); omega, by (try dsimp only); omega, fun x hx => by have e9 := hy9 x hx; omega⟩, k5, k6⟩, by omega⟩)
              · rfl
          ·
            rintro ⟨⟨x103, i2104, h2105⟩, hq106⟩
            try dsimp only at hq106
            try dsimp only
            obtain ⟨q107, q108⟩ := hq106
            obtain ⟨z136, hz137, b138⟩ := at_get (xs := holeL ((b1)) (((0 : Int)).toNat) z38 1 v42) (n := 0) (by first | omega | assumption | (rw [holeL_len]; omega) | (have e7 := k7 _ (by assumption); omega) | (simp only [List.length_cons, List.length_nil]; omega)) (by first | omega | assumption | (rw [holeL_len]; omega) | (have e7 := k7 _ (by assumption); omega) | (simp only [List.length_cons, List.length_nil]; omega))
            refine d_take 2 rfl rfl (by kernel_rfl) (by kernel_rfl) (by kernel_rfl) (p_indexo (by kernel_rfl) rfl rfl rfl b138 (at_lt b138 hz137)) ?_
            refine d_take 3 rfl rfl (by kernel_rfl) (by kernel_rfl) (by kernel_rfl) (p_fieldo (off := 1) (by kernel_rfl) rfl) ?_
            refine d_take 4 rfl rfl (by kernel_rfl) (by kernel_rfl) (by kernel_rfl) (p_loadH (k := 11) (by kernel_rfl) rfl rfl rfl (by first | omega | assumption | (rw [holeL_len]; omega) | (have e7 := k7 _ (by assumption); omega) | (simp only [List.length_cons, List.length_nil]; omega)) rfl) ?_
            obtain ⟨z139, hz140, b141⟩ := at_get (xs := z38.2) (n := 0) (by first | omega | assumption | (rw [holeL_len]; omega) | (have e7 := k7 _ (by assumption); omega) | (simp only [List.length_cons, List.length_nil]; omega)) (by first | omega | assumption | (rw [holeL_len]; omega) | (have e7 := k7 _ (by assumption); omega) | (simp only [List.length_cons, List.length_nil]; omega))
            refine d_take 8 rfl rfl (by kernel_rfl) (by kernel_rfl) (by kernel_rfl) (p_indexo (by kernel_rfl) rfl rfl rfl b141 (at_lt b141 hz140)) ?_
            refine d_only 9 rfl (by kernel_rfl) rfl (o_storeo ((x103)) (n := 1) (by kernel_rfl) rfl rfl hz140 rfl rfl rfl rfl (.cons .sc .nil) rfl (fun j h1 h2 => by simp at h1 h2; omega)) ?_
            refine d_end (by kernel_rfl) ?_
            refine t_endblock ?_
            refine t_seq ?_
            refine gt_putH 11 7 (((0 : Int)).toNat) 1 ((z38.1, (z38.2).set ((0 : Int)).toNat ((x103)))) rfl rfl rfl (List.getElem?_eq_some_iff.1 hz39).1 rfl (fun j hj => by (have : j = 0 ∨ j = 1 := by omega); rcases this with rfl | rfl <;> rfl) ?_
            refine t_region ?_
            refine r_op (o_loadAb rfl (n := 5) (by kernel_rfl) (by kernel_rfl) rfl rfl rfl) ?_
            refine r_op (o_storeb (n := 5) (by kernel_rfl) rfl rfl rfl rfl rfl rfl) ?_
            refine r_end ?_
            refine t_ret Tryd.func32 (.cells (n := 5) (by kernel_rfl) (by kernel_rfl) rfl rfl rfl .nil) rfl fun E S w u hI hd => ?_
            refine post_mkG (⟨((b1)).set (((0 : Int)).toNat) ((z38.1, (z38.2).set ((0 : Int)).toNat ((x103)))), (hs2), (e3), (lv4), (rv5), (i2104), (h2105)⟩) ?_ hI hd ?_ ⟨rfl, ⟨rfl, ⟨rfl, trivial⟩⟩⟩ rfl rfl <;> clear hI hd
            · (try dsimp only) <;> (first | exact ⟨by assumption, by omega⟩ | (refine ⟨⟨by (simp only [List.length_set]; omega), k2, mem_set k3 (by have e8 := k3 _ (List.mem_of_getElem? hz39); exact ⟨by (try dsimp only); (try simp only [IntKind.wrap_i64] at *); omega, e8.2.1, e8.2.2⟩), k4, k5, k6⟩, by omega⟩; done) | (refine ⟨⟨by (simp only [List.length_set]; omega), k2, mem_set k3 (by have e8 := k3 _ (List.mem_of_getElem? hz39); exact ⟨e8.1, by (simp only [List.length_set]; exact e8.2.1), mem_set e8.2.2 (by have e9 := pick3 (by assumption); omega)⟩), k4, k5, k6⟩, by omega⟩; done) | exact ⟨⟨k1, k2, k3, k4, by (try dsimp only); omega, k6⟩, by omega⟩ | exact ⟨⟨k1, k2, k3, k4, k5, k6⟩, by omega⟩ | exact ⟨⟨k1, by (simp only [List.length_append, List.length_singleton]; omega), k3, mem_snoc k4 ⟨by (try dsimp only); omega, by (try dsimp only); omega, fun x hx => by have e9 := hy9 x hx; omega⟩, k5, k6⟩, by omega⟩)
            · rfl
      ·
        refine d_freeze 12 rfl (frz_cur (i := 12) hM rfl rfl rfl) ?_
        refine d_twoX 1 7 rfl rfl (by kernel_rfl) rfl rfl (osX (o_load1b rfl (by kernel_rfl) rfl rfl rfl)) (o_callGM 0 13 14 (pv := some (v0)) (Go.Proofs.enters_of Tryd.func23 (by kernel_rfl) rfl) (c_spec_l1PickInt (((code))) ((i213)) ((h214)) ([5, -11, 4]) (by first | omega | assumption | (rw [holeL_len]; omega) | (have e7 := k7 _ (by assumption); omega) | (simp only [List.length_cons, List.length_nil]; omega)) (by first | omega | assumption | (rw [holeL_len]; omega) | (have e7 := k7 _ (by assumption); omega) | (simp only [List.length_cons, List.length_nil]; omega)) (by first | omega | assumption | (rw [holeL_len]; omega) | (have e7 := k7 _ (by assumption); omega) | (simp only [List.length_cons, List.length_nil]; omega)) (by first | omega | assumption | (rw [holeL_len]; omega) | (have e7 := k7 _ (by assumption); omega) | (simp only [List.length_cons, List.length_nil]; omega)) (by first | omega | assumption | (rw [holeL_len]; omega) | (have e7 := k7 _ (by assumption); omega) | (simp only [List.length_cons, List.length_nil]; omega))) rfl rfl (.cur rfl (.cons rfl .nil)) rfl (fun ⟨_, _, _⟩ => rfl) (fun _ => rfl) (fun ⟨_, _, _⟩ => rfl) rfl rfl) ?_ ?_
        ·
          rintro ⟨⟩
          obtain ⟨z148, hz149, b150⟩ := at_get (xs := holeL ((b1)) (((0 : Int)).toNat) z38 1 v42) (n := 0) (by first | omega | assumption | (rw [holeL_len]; omega) | (have e7 := k7 _ (by assumption); omega) | (simp only [List.length_cons, List.length_nil]; omega)) (by first | omega | assumption | (rw [holeL_len]; omega) | (have e7 := k7 _ (by assumption); omega) | (simp only [List.length_cons, List.length_nil]; omega))
          refine d_twoX 2 7 rfl rfl (by kernel_rfl) rfl rfl (osX (o_indexo rfl (by kernel_rfl) rfl rfl rfl b150 (at_lt b150 hz149))) (o_callGM 0 13 14 (pv := some (v0)) (Go.Proofs.enters_of Tryd.func23 (by kernel_rfl) rfl) (c_spec_l1PickInt (((code))) ((i213)) ((h214)) ([5, -11, 4]) (by first | omega | assumption | (rw [holeL_len]; omega) | (have e7 := k7 _ (by assumption); omega) | (simp only [List.length_cons, List.length_nil]; omega)) (by first | omega | assumption | (rw [holeL_len]; omega) | (have e7 := k7 _ (by assumption); omega) | (simp only [List.length_cons, List.length_nil]; omega)) (by first | omega | assumption | (rw [holeL_len]; omega) | (have e7 := k7 _ (by assumption); omega) | (simp only [List.length_cons, List.length_nil]; omega)) (by first | omega | assumption | (rw [holeL_len]; omega) | (have e7 := k7 _ (by assumption); omega) | (simp only [List.length_cons, List.length_nil]; omega)) (by first | omega | assumption | (rw [holeL_len]; omega) | (have e7 := k7 _ (by assumption); omega) | (simp only [List.length_cons, List.length_nil]; omega))) rfl rfl (.cur rfl (.cons rfl .nil)) rfl (fun ⟨_, _, _⟩ => rfl) (fun _ => rfl) (fun ⟨_, _, _⟩ => rfl) rfl rfl) ?_ ?_
          ·
            rintro ⟨⟩
            refine d_twoX 3 7 rfl rfl (by kernel_rfl) rfl rfl (osX (o_fieldo rfl (off := 1) (by kernel_rfl) rfl)) (o_callGM 0 13 14 (pv := some (v0)) (Go.Proofs.enters_of Tryd.func23 (by kernel_rfl) rfl) (c_spec_l1PickInt (((code))) ((i213)) ((h214)) ([5, -11, 4]) (by first | omega | assumption | (rw [holeL_len]; omega) | (have e7 := k7 _ (by assumption); omega) | (simp only [List.length_cons, List.length_nil]; omega)) (by first | omega | assumption | (rw [holeL_len]; omega) | (have e7 := k7 _ (by assumption); omega) | (simp only [List.length_cons, List.length_nil]; omega)) (by first | omega | assumption | (rw [holeL_len]; omega) | (have e7 := k7 _ (by assumption); omega) | (simp only [List.length_cons, List.length_nil]; omega)) (by first | omega | assumption | (rw [holeL_len]; omega) | (have e7 := k7 _ (by assumption); omega) | (simp only [List.length_cons, List.length_nil]; omega)) (by first | omega | assumption | (rw [holeL_len]; omega) | (have e7 := k7 _ (by assumption); omega) | (simp only [List.length_cons, List.length_nil]; omega))) rfl rfl (.cur rfl (.cons rfl .nil)) rfl (fun ⟨_, _, _⟩ => rfl) (fun _ => rfl) (fun ⟨_, _, _⟩ => rfl) rfl rfl) ?_ ?_
            ·
              rintro ⟨⟩
              refine d_twoX 4 7 rfl rfl (by kernel_rfl) rfl rfl (osX (o_loadH rfl (k := 11) (by kernel_rfl) rfl rfl rfl (by first | omega | assumption | (rw [holeL_len]; omega) | (have e7 := k7 _ (by assumption); omega) | (simp only [List.length_cons, List.length_nil]; omega)) rfl)) (o_callGM 0 13 14 (pv := some (v0)) (Go.Proofs.enters_of Tryd.func23 (by kernel_rfl) rfl) (c_spec_l1PickInt (((code))) ((i213)) ((h214)) ([5, -11, 4]) (by first | omega | assumption | (rw [holeL_len]; omega) | (have e7 := k7 _ (by assumption); omega) | (simp only [List.length_cons, List.length_nil]; omega)) (by first | omega | assumption | (rw [holeL_len]; omega) | (have e7 := k7 _ (by assumption); omega) | (simp only [List.length_cons, List.length_nil]; omega)) (by first | omega | assumption | (rw [holeL_len]; omega) | (have e7 := k7 _ (by assumption); omega) | (simp only [List.length_cons, List.length_nil]; omega)) (by first | omega | assumption | (rw [holeL_len]; omega) | (have e7 := k7 _ (by assumption); omega) | (simp only [List.length_cons, List.length_nil]; omega)) (by first | omega | assumption | (rw [holeL_len]; omega) | (have e7 := k7 _ (by assumption); omega) | (simp only [List.length_cons, List.length_nil]; omega))) rfl rfl (.cur rfl (.cons rfl .nil)) rfl (fun ⟨_, _, _⟩ => rfl) (fun _ => rfl) (fun ⟨_, _, _⟩ => rfl) rfl rfl) ?_ ?_
              ·
                rintro ⟨⟩
                refine d_onlyX 7 rfl (by kernel_rfl) rfl (o_callGM 0 13 14 (pv := some (v0)) (Go.Proofs.enters_of Tryd.func23 (by kernel_rfl) rfl) (c_spec_l1PickInt (((code))) ((i213)) ((h214)) ([5, -11, 4]) (by first | omega | assumption | (rw [holeL_len]; omega) | (have e7 := k7 _ (by assumption); omega) | (simp only [List.length_cons, List.length_nil]; omega)) (by first | omega | assumption | (rw [holeL_len]; omega) | (have e7 := k7 _ (by assumption); omega) | (simp only [List.length_cons, List.length_nil]; omega)) (by first | omega | assumption | (rw [holeL_len]; omega) | (have e7 := k7 _ (by assumption); omega) | (simp only [List.length_cons, List.length_nil]; omega)) (by first | omega | assumption | (rw [holeL_len]; omega) | (have e7 := k7 _ (by assumption); omega) | (simp only [List.length_cons, List.length_nil]; omega)) (by first | omega | assumption | (rw [holeL_len]; omega) | (have e7 := k7 _ (by assumption); omega) | (simp only [List.length_cons, List.length_nil]; omega))) rfl rfl (.cur rfl (.cons rfl .nil)) rfl (fun ⟨_, _, _⟩ => rfl) (fun _ => rfl) (fun ⟨_, _, _⟩ => rfl) rfl rfl) ?_
                rintro ⟨⟨x169, i2170, h2171⟩, hq172⟩
                try dsimp only at hq172
                try dsimp only
                obtain ⟨q173, q174⟩ := hq172
                obtain ⟨z175, hz176, b177⟩ := at_get (xs := z38.2) (n := 0) (by first | omega | assumption | (rw [holeL_len]; omega) | (have e7 := k7 _ (by assumption); omega) | (simp only [List.length_cons, List.length_nil]; omega)) (by first | omega | assumption | (rw [holeL_len]; omega) | (have e7 := k7 _ (by assumption); omega) | (simp only [List.length_cons, List.length_nil]; omega))
                refine d_take 8 rfl rfl (by kernel_rfl) (by kernel_rfl) (by kernel_rfl) (p_indexo (by kernel_rfl) rfl rfl rfl b177 (at_lt b177 hz176)) ?_
                refine d_only 9 rfl (by kernel_rfl) rfl (o_storeo ((x169)) (n := 1) (by kernel_rfl) rfl rfl hz176 rfl rfl rfl rfl (.cons .sc .nil) rfl (fun j h1 h2 => by simp at h1 h2; omega)) ?_
                refine d_end (by kernel_rfl) ?_
                refine t_endblock ?_
                refine t_seq ?_
                refine gt_putH 11 7 (((0 : Int)).toNat) 1 ((z38.1, (z38.2).set ((0 : Int)).toNat ((x169)))) rfl rfl rfl (List.getElem?_eq_some_iff.1 hz39).1 rfl (fun j hj => by (have : j = 0 ∨ j = 1 := by omega); rcases this with rfl | rfl <;> rfl) ?_
                refine t_region ?_
                refine r_op (o_loadAb rfl (n := 5) (by kernel_rfl) (by kernel_rfl) rfl rfl rfl) ?_
                refine r_op (o_storeb (n := 5) (by kernel_rfl) rfl rfl rfl rfl rfl rfl) ?_
                refine r_end ?_
                refine t_ret Tryd.func32 (.cells (n := 5) (by kernel_rfl) (by kernel_rfl) rfl rfl rfl .nil) rfl fun E S w u hI hd => ?_
                refine post_mkG (⟨((b1)).set (((0 : Int)).toNat) ((z38.1, (z38.2).set ((0 : Int)).toNat ((x169)))), (hs2), (e3), (lv4), (rv5), (i2170), (h2171)⟩) ?_ hI hd ?_ ⟨rfl, ⟨rfl, ⟨rfl, trivial⟩⟩⟩ rfl rfl <;> clear hI hd
                · (try dsimp only) <;> (first | exact ⟨by assumption, by omega⟩ | (refine ⟨⟨by (simp only [List.length_set]; omega), k2, mem_set k3 (by have e8 := k3 _ (List.mem_of_getElem? hz39); exact ⟨by (try dsimp only); (try simp only [IntKind.wrap_i64] at *); omega, e8.2.1, e8.2.2⟩), k4, k5, k6⟩, by omega⟩; done) | (refine ⟨⟨by (simp only [List.length_set]; omega), k2, mem_set k3 (by have e8 := k3 _ (List.mem_of_getElem? hz39); exact ⟨e8.1, by (simp only [List.length_set]; exact e8.2.1), mem_set e8.2.2 (by have e9 := pick3 (by assumption); omega)⟩), k4, k5, k6⟩, by omega⟩; done) | exact ⟨⟨k1, k2, k3, k4, by (try dsimp only); omega, k6⟩, by omega⟩ | exact ⟨⟨k1, k2, k3, k4, k5, k6⟩, by omega⟩ | exact ⟨⟨k1, by (simp only [List.length_append, List.length_singleton]; omega), k3, mem_snoc k4 ⟨by (try dsimp only); omega, by (try dsimp only); omega, fun x hx => by have e9 := hy9 x hx; omega⟩, k5, k6⟩, by omega⟩)
                · rfl
              ·
                rintro ⟨⟨x163, i2164, h2165⟩, hq166⟩
                try dsimp only at hq166
                try dsimp only
                obtain ⟨q167, q168⟩ := hq166
                refine d_take 4 rfl rfl (by kernel_rfl) (by kernel_rfl) (by kernel_rfl) (p_loadH (k := 11) (by kernel_rfl) rfl rfl rfl (by first | omega | assumption | (rw [holeL_len]; omega) | (have e7 := k7 _ (by assumption); omega) | (simp only [List.length_cons, List.length_nil]; omega)) rfl) ?_
                obtain ⟨z178, hz179, b180⟩ := at_get (xs := z38.2) (n := 0) (by first | omega | assumption | (rw [holeL_len]; omega) | (have e7 := k7 _ (by assumption); omega) | (simp only [List.length_cons, List.length_nil]; omega)) (by first | omega | assumption | (rw [holeL_len]; omega) | (have e7 := k7 _ (by assumption); omega) | (simp only [List.length_cons, List.length_nil]; omega))
                refine d_take 8 rfl rfl (by kernel_rfl) (by kernel_rfl) (by kernel_rfl) (p_indexo (by kernel_rfl) rfl rfl rfl b180 (at_lt b180 hz179)) ?_
                refine d_only 9 rfl (by kernel_rfl) rfl (o_storeo ((x163)) (n := 1) (by kernel_rfl) rfl rfl hz179 rfl rfl rfl rfl (.cons .sc .nil) rfl (fun j h1 h2 => by simp at h1 h2; omega)) ?_
                refine d_end (by kernel_rfl) ?_
                refine t_endblock ?_
                refine t_seq ?_
                refine gt_putH 11 7 (((0 : Int)).toNat) 1 ((z38.1, (z38.2).set ((0 : Int)).toNat ((x163)))) rfl rfl rfl (List.getElem?_eq_some_iff.1 hz39).1 rfl (fun j hj => by (have : j = 0 ∨ j = 1 := by omega); rcases this with rfl | rfl <;> rfl) ?_
                refine t_region ?_
                refine r_op (o_loadAb rfl (n := 5) (by kernel_rfl) (by kernel_rfl) rfl rfl rfl) ?_
                refine r_op (o_storeb (n := 5) (by kernel_rfl) rfl rfl rfl rfl rfl rfl) ?_
                refine r_end ?_
                refine t_ret Tryd.func32 (.cells (n := 5) (by kernel_rfl) (by kernel_rfl) rfl rfl rfl .nil) rfl fun E S w u hI hd => ?_
                refine post_mkG (⟨((b1)).set (((0 : Int)).toNat) ((z38.1, (z38.2).set ((0 : Int)).toNat ((x163)))), (hs2), (e3), (lv4), (rv5), (i2164), (h2165)⟩) ?_ hI hd ?_ ⟨rfl, ⟨rfl, ⟨rfl, trivial⟩⟩⟩ rfl rfl <;> clear hI hd
                · (try dsimp only) <;> (first | exact ⟨by assumption, by omega⟩ | (refine ⟨⟨by (simp only [List.length_set]; omega), k2, mem_set k3 (by have e8 := k3 _ (List.mem_of_getElem? hz39); exact ⟨by (try dsimp only); (try simp only [IntKind.wrap_i64] at *); omega, e8.2.1, e8.2.2⟩), k4, k5, k6⟩, by omega⟩; done) | (refine ⟨⟨by (simp only [List.length_set]; omega), k2, mem_set k3 (by have e8 := k3 _ (List.mem_of_getElem? hz39); exact ⟨e8.1, by (simp only [List.length_set]; exact e8.2.1), mem_set e8.2.2 (by have e9 := pick3 (by assumption); omega)⟩), k4, k5, k6⟩, by omega⟩; done) | exact ⟨⟨k1, k2, k3, k4, by (try dsimp only); omega, k6⟩, by omega⟩ | exact ⟨⟨k1, k2, k3, k4, k5, k6⟩, by omega⟩ | exact ⟨⟨k1, by (simp only [List.length_append, List.length_singleton]; omega), k3, mem_snoc k4 ⟨by (try dsimp only); omega, by (try dsimp only); omega, fun x hx => by have e9 := hy9 x hx; omega⟩, k5, k6⟩, by omega⟩)
                · rfl
            ·
              rintro ⟨⟨x157, i2158, h2159⟩, hq160⟩
              try dsimp only at hq160
              try dsimp only
              obtain ⟨q161, q162⟩ := hq160
              refine d_take 3 rfl rfl (by kernel_rfl) (by kernel_rfl) (by kernel_rfl) (p_fieldo (off := 1) (by kernel_rfl) rfl) ?_
              refine d_take 4 rfl rfl (by kernel_rfl) (by kernel_rfl) (by kernel_rfl) (p_loadH (k := 11) (by kernel_rfl) rfl rfl rfl (by first | omega | assumption | (rw [holeL_len]; omega) | (have e7 := k7 _ (by assumption); omega) | (simp only [List.length_cons, List.length_nil]; omega)) rfl) ?_
              obtain ⟨z181, hz182, b183⟩ := at_get (xs := z38.2) (n := 0) (by first | omega | assumption | (rw [holeL_len]; omega) | (have e7 := k7 _ (by assumption); omega) | (simp only [List.length_cons, List.length_nil]; omega)) (by first | omega | assumption | (rw [holeL_len]; omega) | (have e7 := k7 _ (by assumption); omega) | (simp only [List.length_cons, List.length_nil]; omega))
              refine d_take 8 rfl rfl (by kernel_rfl) (by kernel_rfl) (by kernel_rfl) (p_indexo (by kernel_rfl) rfl rfl rfl b183 (at_lt b183 hz182)) ?_
              refine d_only 9 rfl (by kernel_rfl) rfl (o_storeo ((x157)) (n := 1) (by kernel_rfl) rfl rfl hz182 rfl rfl rfl rfl (.cons .sc .nil) rfl (fun j h1 h2 => by simp at h1 h2; omega)) ?_
              refine d_end (by kernel_rfl) ?_
              refine t_endblock ?_
              refine t_seq ?_
              refine gt_putH 11 7 (((0 : Int)).toNat) 1 ((z38.1, (z38.2).set ((0 : Int)).toNat ((x157)))) rfl rfl rfl (List.getElem?_eq_some_iff.1 hz39).1 rfl (fun j hj => by (have : j = 0 ∨ j = 1 := by omega); rcases this with rfl | rfl <;> rfl) ?_
              refine t_region ?_
              refine r_op (o_loadAb rfl (n := 5) (by kernel_rfl) (by kernel_rfl) rfl rfl rfl) ?_
              refine r_op (o_storeb (n := 5) (by kernel_rfl) rfl rfl rfl rfl rfl rfl) ?_
              refine r_end ?_
              refine t_ret Tryd.func32 (.cells (n := 5) (by kernel_rfl) (by kernel_rfl) rfl rfl rfl .nil) rfl fun E S w u hI hd => ?_
              refine post_mkG (⟨((b1)).set (((0 : Int)).toNat) ((z38.1, (z38.2).set ((0 : Int)).toNat ((x157)))), (hs2), (e3), (lv4), (rv5), (i2158), (h2159)⟩) ?_ hI hd ?_ ⟨rfl, ⟨rfl, ⟨rfl, trivial⟩⟩⟩ rfl rfl <;> clear hI hd
              · (try dsimp only) <;> (first | exact ⟨by assumption, by omega⟩ | (refine ⟨⟨by (simp only [List.length_set]; omega), k2, mem_set k3 (by have e8 := k3 _ (List.mem_of_getElem? hz39); exact ⟨by (try dsimp only); (try simp only [IntKind.wrap_i64] at *); omega, e8.2.1, e8.2.2⟩), k4, k5, k6⟩, by omega⟩; done) | (refine ⟨⟨by (simp only [List.length_set]; omega), k2, mem_set k3 (by have e8 := k3 _ (List.mem_of_getElem? hz39); exact ⟨e8.1, by (simp only [List.length_set]; exact e8.2.1), mem_set e8.2.2 (by have e9 := pick3 (by assumption); omega)⟩), k4, k5, k6⟩, by omega⟩; done) | exact ⟨⟨k1, k2, k3, k4, by (try dsimp only); omega, k6⟩, by omega⟩ | exact ⟨⟨k1, k2, k3, k4, k5, k6⟩, by omega⟩ | exact ⟨⟨k1, by (simp only [List.length_append, List.length_singleton]; omega), k3, mem_snoc k4 ⟨by (try dsimp only); omega, by (try dsimp only); omega, fun x hx => by have e9 := hy9 x hx; omega⟩, k5, k6⟩, by omega⟩)
              · rfl
          ·
            rintro ⟨⟨x151, i2152, h2153⟩, hq154⟩
            try dsimp only at hq154
            try dsimp only
            obtain ⟨q155, q156⟩ := hq154
            obtain ⟨z184, hz185, b186⟩ := at_get (xs := holeL ((b1)) (((0 : Int)).toNat) z38 1 v42) (n := 0) (by first | omega | assumption | (rw [holeL_len]; omega) | (have e7 := k7 _ (by assumption); omega) | (simp only [List.length_cons, List.length_nil]; omega)) (by first | omega | assumption | (rw [holeL_len]; omega) | (have e7 := k7 _ (by assumption); omega) | (simp only [List.length_cons, List.length_nil]; omega))
            refine d_take 2 rfl rfl (by kernel_rfl) (by kernel_rfl) (by kernel_rfl) (p_indexo (by kernel_rfl) rfl rfl rfl b186 (at_lt b186 hz185)) ?_
            refine d_take 3 rfl rfl (by kernel_rfl) (by kernel_rfl) (by kernel_rfl) (p_fieldo (off := 1) (by kernel_rfl) rfl) ?_
            refine d_take 4 rfl rfl (by kernel_rfl) (by kernel_rfl) (by kernel_rfl) (p_loadH (k := 11) (by kernel_rfl) rfl rfl rfl (by first | omega | assumption | (rw [holeL_len]; omega) | (have e7 := k7 _ (by assumption); omega) | (simp only [List.length_cons, List.length_nil]; omega)) rfl) ?_
            obtain ⟨z187, hz188, b189⟩ := at_get (xs := z38.2) (n := 0) (by first | omega | assumption | (rw [holeL_len]; omega) | (have e7 := k7 _ (by assumption); omega) | (simp only [List.length_cons, List.length_nil]; omega)) (by first | omega | assumption | (rw [holeL_len]; omega) | (have e7 := k7 _ (by assumption); omega) | (simp only [List.length_cons, List.length_nil]; omega))
            refine d_take 8 rfl rfl (by kernel_rfl) (by kernel_rfl) (by kernel_rfl) (p_indexo (by kernel_rfl) rfl rfl rfl b189 (at_lt b189 hz188)) ?_
            refine d_only 9 rfl (by kernel_rfl) rfl (o_storeo ((x151)) (n := 1) (by kernel_rfl) rfl rfl hz188 rfl rfl rfl rfl (.cons .sc .nil) rfl (fun j h1 h2 => by simp at h1 h2; omega)) ?_
            refine d_end (by kernel_rfl) ?_
            refine t_endblock ?_
            refine t_seq ?_
            refine gt_putH 11 7 (((0 : Int)).toNat) 1 ((z38.1, (z38.2).set ((0 : Int)).toNat ((x151)))) rfl rfl rfl (List.getElem?_eq_some_iff.1 hz39).1 rfl (fun j hj => by (have : j = 0 ∨ j = 1 := by omega); rcases this with rfl | rfl <;> rfl) ?_
            refine t_region ?_
            refine r_op (o_loadAb rfl (n := 5) (by kernel_rfl) (by kernel_rfl) rfl rfl rfl) ?_
            refine r_op (o_storeb (n := 5) (by kernel_rfl) rfl rfl rfl rfl rfl rfl) ?_
            refine r_end ?_
            refine t_ret Tryd.func32 (.cells (n := 5) (by kernel_rfl) (by kernel_rfl) rfl rfl rfl .nil) rfl fun E S w u hI hd => ?_
            refine post_mkG (⟨((b1)).set (((0 : Int)).toNat) ((z38.1, (z38.2).set ((0 : Int)).toNat ((x151)))), (hs2), (e3), (lv4), (rv5), (i2152), (h2153)⟩) ?_ hI hd ?_ ⟨rfl, ⟨rfl, ⟨rfl, trivial⟩⟩⟩ rfl rfl <;> clear hI hd
            · (try dsimp only) <;> (first | exact ⟨by assumption, by omega⟩ | (refine ⟨⟨by (simp only [List.length_set]; omega), k2, mem_set k3 (by have e8 := k3 _ (List.mem_of_getElem? hz39); exact ⟨by (try dsimp only); (try simp only [IntKind.wrap_i64] at *); omega, e8.2.1, e8.2.2⟩), k4, k5, k6⟩, by omega⟩; done) | (refine ⟨⟨by (simp only [List.length_set]; omega), k2, mem_set k3 (by have e8 := k3 _ (List.mem_of_getElem? hz39); exact ⟨e8.1, by (simp only [List.length_set]; exact e8.2.1), mem_set e8.2.2 (by have e9 := pick3 (by assumption); omega)⟩), k4, k5, k6⟩, by omega⟩; done) | exact ⟨⟨k1, k2, k3, k4, by (try dsimp only); omega, k6⟩, by omega⟩ | exact ⟨⟨k1, k2, k3, k4, k5, k6⟩, by omega⟩ | exact ⟨⟨k1, by (simp only [List.length_append, List.length_singleton]; omega), k3, mem_snoc k4 ⟨by (try dsimp only); omega, by (try dsimp only); omega, fun x hx => by have e9 := hy9 x hx; omega⟩, k5, k6⟩, by omega⟩)
            · rfl
        ·
          rintro ⟨⟨x142, i2143, h2144⟩, hq145⟩
          try dsimp only at hq145
          try dsimp only
          obtain ⟨q146, q147⟩ := hq145
          refine d_take 1 rfl rfl (by kernel_rfl) (by kernel_rfl) (by kernel_rfl) (p_load1b (by kernel_rfl) rfl rfl rfl) ?_
          obtain ⟨z190, hz191, b192⟩ := at_get (xs := holeL ((b1)) (((0 : Int)).toNat) z38 1 v42) (n := 0) (by first | omega | assumption | (rw [holeL_len]; omega) | (have e7 := k7 _ (by assumption); omega) | (simp only [List.length_cons, List.length_nil]; omega)) (by first | omega | assumption | (rw [holeL_len]; omega) | (have e7 := k7 _ (by assumption); omega) | (simp only [List.length_cons, List.length_nil]; omega))
          refine d_take 2 rfl rfl (by kernel_rfl) (by kernel_rfl) (by kernel_rfl) (p_indexo (by kernel_rfl) rfl rfl rfl b192 (at_lt b192 hz191)) ?_
          refine d_take 3 rfl rfl (by kernel_rfl) (by kernel_rfl) (by kernel_rfl) (p_fieldo (off := 1) (by kernel_rfl) rfl) ?_
          refine d_take 4 rfl rfl (by kernel_rfl) (by kernel_rfl) (by kernel_rfl) (p_loadH (k := 11) (by kernel_rfl) rfl rfl rfl (by first | omega | assumption | (rw [holeL_len]; omega) | (have e7 := k7 _ (by assumption); omega) | (simp only [List.length_cons, List.length_nil]; omega)) rfl) ?_
          obtain ⟨z193, hz194, b195⟩ := at_get (xs := z38.2) (n := 0) (by first | omega | assumption | (rw [holeL_len]; omega) | (have e7 := k7 _ (by assumption); omega) | (simp only [List.length_cons, List.length_nil]; omega)) (by first | omega | assumption | (rw [holeL_len]; omega) | (have e7 := k7 _ (by assumption); omega) | (simp only [List.length_cons, List.length_nil]; omega))
          refine d_take 8 rfl rfl (by kernel_rfl) (by kernel_rfl) (by kernel_rfl) (p_indexo (by kernel_rfl) rfl rfl rfl b195 (at_lt b195 hz194)) ?_
          refine d_only 9 rfl (by kernel_rfl) rfl (o_storeo ((x142)) (n := 1) (by kernel_rfl) rfl rfl hz194 rfl rfl rfl rfl (.cons .sc .nil) rfl (fun j h1 h2 => by simp at h1 h2; omega)) ?_
          refine d_end (by kernel_rfl) ?_
          refine t_endblock ?_
          refine t_seq ?_
          refine gt_putH 11 7 (((0 : Int)).toNat) 1 ((z38.1, (z38.2).set ((0 : Int)).toNat ((x142)))) rfl rfl rfl (List.getElem?_eq_some_iff.1 hz39).1 rfl (fun j hj => by (have : j = 0 ∨ j = 1 := by omega); rcases this with rfl | rfl <;> rfl) ?_
          refine t_region ?_
          refine r_op (o_loadAb rfl (n := 5) (by kernel_rfl) (by kernel_rfl) rfl rfl rfl) ?_
          refine r_op (o_storeb (n := 5) (by kernel_rfl) rfl rfl rfl rfl rfl rfl) ?_
          refine r_end ?_
          refine t_ret Tryd.func32 (.cells (n := 5) (by kernel_rfl) (by kernel_rfl) rfl rfl rfl .nil) rfl fun E S w u hI hd => ?_
          refine post_mkG (⟨((b1)).set (((0 : Int)).toNat) ((z38.1, (z38.2).set ((0 : Int)).toNat ((x142)))), (hs2), (e3), (lv4), (rv5), (i2143), (h2144)⟩) ?_ hI hd ?_ ⟨rfl, ⟨rfl, ⟨rfl, trivial⟩⟩⟩ rfl rfl <;> clear hI hd
          · (try dsimp only) <;> (first | exact ⟨by assumption, by omega⟩ | (refine ⟨⟨by (simp only [List.length_set]; omega), k2, mem_set k3 (by have e8 := k3 _ (List.mem_of_getElem? hz39); exact ⟨by (try dsimp only); (try simp only [IntKind.wrap_i64] at *); omega, e8.2.1, e8.2.2⟩), k4, k5, k6⟩, by omega⟩; done) | (refine ⟨⟨by (simp only [List.length_set]; omega), k2, mem_set k3 (by have e8 := k3 _ (List.mem_of_getElem? hz39); exact ⟨e8.1, by (simp only [List.length_set]; exact e8.2.1), mem_set e8.2.2 (by have e9 := pick3 (by assumption); omega)⟩), k4, k5, k6⟩, by omega⟩; done) | exact ⟨⟨k1, k2, k3, k4, by (try dsimp only); omega, k6⟩, by omega⟩ | exact ⟨⟨k1, k2, k3, k4, k5, k6⟩, by omega⟩ | exact ⟨⟨k1, by (simp only [List.length_append, List.length_singleton]; omega), k3, mem_snoc k4 ⟨by (try dsimp only); omega, by (try dsimp only); omega, fun x hx => by have e9 := hy9 x hx; omega⟩, k5, k6⟩, by omega⟩)
          · rfl
    ·
      have h37' := of_decide_eq_false h37
      refine t_seq ?_
      refine t_region ?_
      refine r_op (o_bin rfl rfl rfl rfl) ?_
      refine r_op (o_assign rfl rfl) ?_
      refine r_end ?_
      refine t_cond rfl (fun h196 => ?_) (fun h196 => ?_)
      ·
        have h196' := of_decide_eq_true h196
        refine t_region ?_
        refine r_op (o_move rfl rfl) ?_
        refine r_opX (o_callGM 0 11 12 (pv := some (v0)) (Go.Proofs.enters_of Tryd.func17 (by kernel_rfl) rfl) (c_spec_l1Below (((code))) ((i213)) ((h214)) (4) (by first | omega | assumption | (rw [holeL_len]; omega) | (have e7 := k7 _ (by assumption); omega) | (simp only [List.length_cons, List.length_nil]; omega)) (by first | omega | assumption | (rw [holeL_len]; omega) | (have e7 := k7 _ (by assumption); omega) | (simp only [List.length_cons, List.length_nil]; omega)) (by first | omega | assumption | (rw [holeL_len]; omega) | (have e7 := k7 _ (by assumption); omega) | (simp only [List.length_cons, List.length_nil]; omega)) (by first | omega | assumption | (rw [holeL_len]; omega) | (have e7 := k7 _ (by assumption); omega) | (simp only [List.length_cons, List.length_nil]; omega)) (by first | omega | assumption | (rw [holeL_len]; omega) | (have e7 := k7 _ (by assumption); omega) | (simp only [List.length_cons, List.length_nil]; omega))) rfl rfl (.cur rfl (.cons rfl .nil)) rfl (fun ⟨_, _, _⟩ => rfl) (fun _ => rfl) (fun ⟨_, _, _⟩ => rfl) rfl rfl) ?_
        rintro ⟨⟨x197, i2198, h2199⟩, hq200⟩
        try dsimp only at hq200
        try dsimp only
        obtain ⟨q201, q202⟩ := hq200
        refine r_op (o_fieldb rfl (off := 3) (by kernel_rfl) rfl) ?_
        refine r_op (o_storeb (n := 1) (by kernel_rfl) rfl rfl rfl rfl rfl rfl) ?_
        refine r_end ?_
        refine t_endblock ?_
        refine t_seq ?_
        refine t_region ?_
        refine r_op (o_loadAb rfl (n := 5) (by kernel_rfl) (by kernel_rfl) rfl rfl rfl) ?_
        refine r_op (o_storeb (n := 5) (by kernel_rfl) rfl rfl rfl rfl rfl rfl) ?_
        refine r_end ?_
        refine t_ret Tryd.func32 (.cells (n := 5) (by kernel_rfl) (by kernel_rfl) rfl rfl rfl .nil) rfl fun E S w u hI hd => ?_
        refine post_mkG (⟨(b1), (hs2), (e3), (x197), (rv5), (i2198), (h2199)⟩) ?_ hI hd ?_ ⟨rfl, ⟨rfl, ⟨rfl, trivial⟩⟩⟩ rfl rfl <;> clear hI hd
        · (try dsimp only) <;> (first | exact ⟨by assumption, by omega⟩ | (refine ⟨⟨by (simp only [List.length_set]; omega), k2, mem_set k3 (by have e8 := k3 _ (List.mem_of_getElem? (by assumption)); exact ⟨by (try dsimp only); (try simp only [IntKind.wrap_i64] at *); omega, e8.2.1, e8.2.2⟩), k4, k5, k6⟩, by omega⟩; done) | (refine ⟨⟨by (simp only [List.length_set]; omega), k2, mem_set k3 (by have e8 := k3 _ (List.mem_of_getElem? (by assumption)); exact ⟨e8.1, by (simp only [List.length_set]; exact e8.2.1), mem_set e8.2.2 (by have e9 := pick3 (by assumption); omega)⟩), k4, k5, k6⟩, by omega⟩; done) | exact ⟨⟨k1, k2, k3, k4, by (try dsimp only); omega, k6⟩, by omega⟩ | exact ⟨⟨k1, k2, k3, k4, k5, k6⟩, by omega⟩ | exact ⟨⟨k1, by (simp only [List.length_append, List.length_singleton]; omega), k3, mem_snoc k4 ⟨by (try dsimp only); omega, by (try dsimp only); omega, fun x hx => by have e9 := hy9 x hx; omega⟩, k5, k6⟩, by omega⟩)
        · rfl
      ·
        have h196' := of_decide_eq_false h196
        refine t_seq ?_
        refine t_region ?_
        refine r_op (o_bin rfl rfl rfl rfl) ?_
        refine r_op (o_assign rfl rfl) ?_
        refine r_end ?_
        refine t_cond rfl (fun h203 => ?_) (fun h203 => ?_)
        ·
          have h203' := of_decide_eq_true h203
          refine t_region ?_
          refine r_op (o_fieldb rfl (off := 2) (by kernel_rfl) rfl) ?_
          refine r_op (o_load1b rfl (by kernel_rfl) rfl rfl rfl) ?_
          refine r_op (o_not rfl rfl) ?_
          refine r_op (o_fieldb rfl (off := 2) (by kernel_rfl) rfl) ?_
          refine r_op (o_storeb (n := 1) (by kernel_rfl) rfl rfl rfl rfl rfl rfl) ?_
          refine r_end ?_
          refine t_endblock ?_
          refine t_seq ?_
          refine t_region ?_
          refine r_op (o_loadAb rfl (n := 5) (by kernel_rfl) (by kernel_rfl) rfl rfl rfl) ?_
          refine r_op (o_storeb (n := 5) (by kernel_rfl) rfl rfl rfl rfl rfl rfl) ?_
          refine r_end ?_
          refine t_ret Tryd.func32 (.cells (n := 5) (by kernel_rfl) (by kernel_rfl) rfl rfl rfl .nil) rfl fun E S w u hI hd => ?_
          refine post_mkG (⟨(b1), (hs2), !((e3)), (lv4), (rv5), (i213), (h214)⟩) ?_ hI hd ?_ ⟨rfl, ⟨rfl, ⟨rfl, trivial⟩⟩⟩ rfl rfl <;> clear hI hd
          · (try dsimp only) <;> (first | exact ⟨by assumption, by omega⟩ | (refine ⟨⟨by (simp only [List.length_set]; omega), k2, mem_set k3 (by have e8 := k3 _ (List.mem_of_getElem? (by assumption)); exact ⟨by (try dsimp only); (try simp only [IntKind.wrap_i64] at *); omega, e8.2.1, e8.2.2⟩), k4, k5, k6⟩, by omega⟩; done) | (refine ⟨⟨by (simp only [List.length_set]; omega), k2, mem_set k3 (by have e8 := k3 _ (List.mem_of_getElem? (by assumption)); exact ⟨e8.1, by (simp only [List.length_set]; exact e8.2.1), mem_set e8.2.2 (by have e9 := pick3 (by assumption); omega)⟩), k4, k5, k6⟩, by omega⟩; done) | exact ⟨⟨k1, k2, k3, k4, by (try dsimp only); omega, k6⟩, by omega⟩ | exact ⟨⟨k1, k2, k3, k4, k5, k6⟩, by omega⟩ | exact ⟨⟨k1, by (simp only [List.length_append, List.length_singleton]; omega), k3, mem_snoc k4 ⟨by (try dsimp only); omega, by (try dsimp only); omega, fun x hx => by have e9 := hy9 x hx; omega⟩, k5, k6⟩, by omega⟩)
          · rfl
        ·
          have h203' := of_decide_eq_false h203
          refine t_seq ?_
          refine t_region ?_
          refine r_op (o_bin rfl rfl rfl rfl) ?_
          refine r_op (o_assign rfl rfl) ?_
          refine r_end ?_
          refine t_cond rfl (fun h204 => ?_) (fun h204 => ?_)
          ·
            have h204' := of_decide_eq_true h204
            refine t_draw (fun i => !(Nat.beq i 4 || Nat.beq i 5 || Nat.beq i 7 || Nat.beq i 9)) (by kernel_rfl) ?_
            refine d_takeP 0 rfl rfl (by kernel_rfl) (by kernel_rfl) (by kernel_rfl) (pw_fieldb (off := 1) (by kernel_rfl) rfl) ?_
            refine d_takeP 2 rfl rfl (by kernel_rfl) (by kernel_rfl) (by kernel_rfl) (pw_move rfl) ?_
            refine d_take 3 rfl rfl (by kernel_rfl) (by kernel_rfl) (by kernel_rfl) (p_move rfl) ?_
            refine d_twoX 1 4 rfl rfl (by kernel_rfl) rfl rfl (osX (o_load1b rfl (by kernel_rfl) rfl rfl rfl)) (o_callGM 0 11 12 (pv := some (v0)) (Go.Proofs.enters_of Tryd.func17 (by kernel_rfl) rfl) (c_spec_l1Below (((code))) ((i213)) ((h214)) (5) (by first | omega | assumption | (rw [holeL_len]; omega) | (have e7 := k7 _ (by assumption); omega) | (simp only [List.length_cons, List.length_nil]; omega)) (by first | omega | assumption | (rw [holeL_len]; omega) | (have e7 := k7 _ (by assumption); omega) | (simp only [List.length_cons, List.length_nil]; omega)) (by first | omega | assumption | (rw [holeL_len]; omega) | (have e7 := k7 _ (by assumption); omega) | (simp only [List.length_cons, List.length_nil]; omega)) (by first | omega | assumption | (rw [holeL_len]; omega) | (have e7 := k7 _ (by assumption); omega) | (simp only [List.length_cons, List.length_nil]; omega)) (by first | omega | assumption | (rw [holeL_len]; omega) | (have e7 := k7 _ (by assumption); omega) | (simp only [List.length_cons, List.length_nil]; omega))) rfl rfl (.cur rfl (.cons rfl .nil)) rfl (fun ⟨_, _, _⟩ => rfl) (fun _ => rfl) (fun ⟨_, _, _⟩ => rfl) rfl rfl) ?_ ?_
            ·
              rintro ⟨⟩
              refine d_onlyX 4 rfl (by kernel_rfl) rfl (o_callGM 0 11 12 (pv := some (v0)) (Go.Proofs.enters_of Tryd.func17 (by kernel_rfl) rfl) (c_spec_l1Below (((code))) ((i213)) ((h214)) (5) (by first | omega | assumption | (rw [holeL_len]; omega) | (have e7 := k7 _ (by assumption); omega) | (simp only [List.length_cons, List.length_nil]; omega)) (by first | omega | assumption | (rw [holeL_len]; omega) | (have e7 := k7 _ (by assumption); omega) | (simp only [List.length_cons, List.length_nil]; omega)) (by first | omega | assumption | (rw [holeL_len]; omega) | (have e7 := k7 _ (by assumption); omega) | (simp only [List.length_cons, List.length_nil]; omega)) (by first | omega | assumption | (rw [holeL_len]; omega) | (have e7 := k7 _ (by assumption); omega) | (simp only [List.length_cons, List.length_nil]; omega)) (by first | omega | assumption | (rw [holeL_len]; omega) | (have e7 := k7 _ (by assumption); omega) | (simp only [List.length_cons, List.length_nil]; omega))) rfl rfl (.cur rfl (.cons rfl .nil)) rfl (fun ⟨_, _, _⟩ => rfl) (fun _ => rfl) (fun ⟨_, _, _⟩ => rfl) rfl rfl) ?_
              rintro ⟨⟨x211, i2212, h2213⟩, hq214⟩
              try dsimp only at hq214
              try dsimp only
              obtain ⟨q215, q216⟩ := hq214
              refine d_onlyX 5 rfl (by kernel_rfl) rfl (o_callGM 0 12 17 (pv := some (v0)) (Go.Proofs.enters_of Tryd.func42 (by kernel_rfl) rfl) (c_spec_l9Atom ((((code)))) ((i2212)) ((h2213)) ((x211)) (3) (by first | omega | assumption | (rw [holeL_len]; omega) | (have e7 := k7 _ (by assumption); omega) | (simp only [List.length_cons, List.length_nil]; omega)) (by first | omega | assumption | (rw [holeL_len]; omega) | (have e7 := k7 _ (by assumption); omega) | (simp only [List.length_cons, List.length_nil]; omega)) (by first | omega | assumption | (rw [holeL_len]; omega) | (have e7 := k7 _ (by assumption); omega) | (simp only [List.length_cons, List.length_nil]; omega)) (by first | omega | assumption | (rw [holeL_len]; omega) | (have e7 := k7 _ (by assumption); omega) | (simp only [List.length_cons, List.length_nil]; omega)) (by first | omega | assumption | (rw [holeL_len]; omega) | (have e7 := k7 _ (by assumption); omega) | (simp only [List.length_cons, List.length_nil]; omega))) rfl rfl (.cur rfl (.cons rfl (.cons rfl .nil))) rfl (fun ⟨_, _, _⟩ => rfl) (fun _ => rfl) (fun ⟨_, _, _⟩ => rfl) rfl rfl) ?_
              rintro ⟨⟨ts217, i2218, h2219⟩, hq220⟩
              try dsimp only at hq220
              try dsimp only
              obtain ⟨q221, q222, q223⟩ := hq220
              have hy9 : ∀ x ∈ ts217, -3 ≤ x ∧ x ≤ 4 := (by assumption)
              refine d_only 6 rfl (by kernel_rfl) rfl (o_litS 17 (e := 72) (sz := 2) (zs := [.int .i64 (0), .slice none 0 0]) rfl rfl (by kernel_rfl) rfl rfl rfl rfl rfl) ?_
              refine d_only 7 rfl (by kernel_rfl) rfl (o_append 8 (e := 72) (sz := 2) (by' := 32) ((((x211)), (ts217))) rfl (by kernel_rfl) rfl rfl rfl rfl rfl rfl (.cons .sc (.take (.own rfl) rfl .nil)) rfl (by first | omega | assumption | (rw [holeL_len]; omega) | (have e7 := k7 _ (by assumption); omega) | (simp only [List.length_cons, List.length_nil]; omega)) (by first | omega | assumption | (rw [holeL_len]; omega) | (have e7 := k7 _ (by assumption); omega) | (simp only [List.length_cons, List.length_nil]; omega))) ?_
              refine d_take 8 rfl rfl (by kernel_rfl) (by kernel_rfl) (by kernel_rfl) (p_fieldb (off := 1) (by kernel_rfl) rfl) ?_
              refine d_only 9 rfl (by kernel_rfl) rfl (o_storeb (n := 1) (by kernel_rfl) rfl rfl rfl rfl rfl rfl) ?_
              refine d_end (by kernel_rfl) ?_
              refine t_endblock ?_
              refine t_seq ?_
              refine t_region ?_
              refine r_op (o_loadAb rfl (n := 5) (by kernel_rfl) (by kernel_rfl) rfl rfl rfl) ?_
              refine r_op (o_storeb (n := 5) (by kernel_rfl) rfl rfl rfl rfl rfl rfl) ?_
              refine r_end ?_
              refine t_ret Tryd.func32 (.cells (n := 5) (by kernel_rfl) (by kernel_rfl) rfl rfl rfl .nil) rfl fun E S w u hI hd => ?_
              refine post_mkG (⟨(b1), (hs2) ++ [(((x211)), (ts217))], (e3), (lv4), (rv5), (i2218), (h2219)⟩) ?_ hI hd ?_ ⟨rfl, ⟨rfl, ⟨rfl, trivial⟩⟩⟩ rfl rfl <;> clear hI hd
              · (try dsimp only) <;> (first | exact ⟨by assumption, by omega⟩ | (refine ⟨⟨by (simp only [List.length_set]; omega), k2, mem_set k3 (by have e8 := k3 _ (List.mem_of_getElem? (by assumption)); exact ⟨by (try dsimp only); (try simp only [IntKind.wrap_i64] at *); omega, e8.2.1, e8.2.2⟩), k4, k5, k6⟩, by omega⟩; done) | (refine ⟨⟨by (simp only [List.length_set]; omega), k2, mem_set k3 (by have e8 := k3 _ (List.mem_of_getElem? (by assumption)); exact ⟨e8.1, by (simp only [List.length_set]; exact e8.2.1), mem_set e8.2.2 (by have e9 := pick3 (by assumption); omega)⟩), k4, k5, k6⟩, by omega⟩; done) | exact ⟨⟨k1, k2, k3, k4, by (try dsimp only); omega, k6⟩, by omega⟩ | exact ⟨⟨k1, k2, k3, k4, k5, k6⟩, by omega⟩ | exact ⟨⟨k1, by (simp only [List.length_append, List.length_singleton]; omega), k3, mem_snoc k4 ⟨by (try dsimp only); omega, by (try dsimp only); omega, fun x hx => by have e9 := hy9 x hx; omega⟩, k5, k6⟩, by omega⟩)
              · rfl
            ·
              rintro ⟨⟨x205, i2206, h2207⟩, hq208⟩
              try dsimp only at hq208
              try dsimp only
              obtain ⟨q209, q210⟩ := hq208
              refine d_twoX 1 5 rfl rfl (by kernel_rfl) rfl rfl (osX (o_load1b rfl (by kernel_rfl) rfl rfl rfl)) (o_callGM 0 12 17 (pv := some (v0)) (Go.Proofs.enters_of Tryd.func42 (by kernel_rfl) rfl) (c_spec_l9Atom ((((code)))) ((i2206)) ((h2207)) ((x205)) (3) (by first | omega | assumption | (rw [holeL_len]; omega) | (have e7 := k7 _ (by assumption); omega) | (simp only [List.length_cons, List.length_nil]; omega)) (by first | omega | assumption | (rw [holeL_len]; omega) | (have e7 := k7 _ (by assumption); omega) | (simp only [List.length_cons, List.length_nil]; omega)) (by first | omega | assumption | (rw [holeL_len]; omega) | (have e7 := k7 _ (by assumption); omega) | (simp only [List.length_cons, List.length_nil]; omega)) (by first | omega | assumption | (rw [holeL_len]; omega) | (have e7 := k7 _ (by assumption); omega) | (simp only [List.length_cons, List.length_nil]; omega)) (by first | omega | assumption | (rw [holeL_len]; omega) | (have e7 := k7 _ (by assumption); omega) | (simp only [List.length_cons, List.length_nil]; omega))) rfl rfl (.cur rfl (.cons rfl (.cons rfl .nil))) rfl (fun ⟨_, _, _⟩ => rfl) (fun _ => rfl) (fun ⟨_, _, _⟩ => rfl) rfl rfl) ?_ ?_
              ·
                rintro ⟨⟩
                refine d_onlyX 5 rfl (by kernel_rfl) rfl (o_callGM 0 12 17 (pv := some (v0)) (Go.Proofs.enters_of Tryd.func42 (by kernel_rfl) rfl) (c_spec_l9Atom ((((code)))) ((i2206)) ((h2207)) ((x205)) (3) (by first | omega | assumption | (rw [holeL_len]; omega) | (have e7 := k7 _ (by assumption); omega) | (simp only [List.length_cons, List.length_nil]; omega)) (by first | omega | assumption | (rw [holeL_len]; omega) | (have e7 := k7 _ (by assumption); omega) | (simp only [List.length_cons, List.length_nil]; omega)) (by first | omega | assumption | (rw [holeL_len]; omega) | (have e7 := k7 _ (by assumption); omega) | (simp only [List.length_cons, List.length_nil]; omega)) (by first | omega | assumption | (rw [holeL_len]; omega) | (have e7 := k7 _ (by assumption); omega) | (simp only [List.length_cons, List.length_nil]; omega)) (by first | omega | assumption | (rw [holeL_len]; omega) | (have e7 := k7 _ (by assumption); omega) | (simp only [List.length_cons, List.length_nil]; omega))) rfl rfl (.cur rfl (.cons rfl (.cons rfl .nil))) rfl (fun ⟨_, _, _⟩ => rfl) (fun _ => rfl) (fun ⟨_, _, _⟩ => rfl) rfl rfl) ?_
                rintro ⟨⟨ts231, i2232, h2233⟩, hq234⟩
                try dsimp only at hq234
                try dsimp only
                obtain ⟨q235, q236, q237⟩ := hq234
                have hy9 : ∀ x ∈ ts231, -3 ≤ x ∧ x ≤ 4 := (by assumption)
                refine d_only 6 rfl (by kernel_rfl) rfl (o_litS 17 (e := 72) (sz := 2) (zs := [.int .i64 (0), .slice none 0 0]) rfl rfl (by kernel_rfl) rfl rfl rfl rfl rfl) ?_
                refine d_only 7 rfl (by kernel_rfl) rfl (o_append 8 (e := 72) (sz := 2) (by' := 32) ((((x205)), (ts231))) rfl (by kernel_rfl) rfl rfl rfl rfl rfl rfl (.cons .sc (.take (.own rfl) rfl .nil)) rfl (by first | omega | assumption | (rw [holeL_len]; omega) | (have e7 := k7 _ (by assumption); omega) | (simp only [List.length_cons, List.length_nil]; omega)) (by first | omega | assumption | (rw [holeL_len]; omega) | (have e7 := k7 _ (by assumption); omega) | (simp only [List.length_cons, List.length_nil]; omega))) ?_
                refine d_take 8 rfl rfl (by kernel_rfl) (by kernel_rfl) (by kernel_rfl) (p_fieldb (off := 1) (by kernel_rfl) rfl) ?_
                refine d_only 9 rfl (by kernel_rfl) rfl (o_storeb (n := 1) (by kernel_rfl) rfl rfl rfl rfl rfl rfl) ?_
                refine d_end (by kernel_rfl) ?_
                refine t_endblock ?_
                refine t_seq ?_
                refine t_region ?_
                refine r_op (o_loadAb rfl (n := 5) (by kernel_rfl) (by kernel_rfl) rfl rfl rfl) ?_
                refine r_op (o_storeb (n := 5) (by kernel_rfl) rfl rfl rfl rfl rfl rfl) ?_
                refine r_end ?_
                refine t_ret Tryd.func32 (.cells (n := 5) (by kernel_rfl) (by kernel_rfl) rfl rfl rfl .nil) rfl fun E S w u hI hd => ?_
                refine post_mkG (⟨(b1), (hs2) ++ [(((x205)), (ts231))], (e3), (lv4), (rv5), (i2232), (h2233)⟩) ?_ hI hd ?_ ⟨rfl, ⟨rfl, ⟨rfl, trivial⟩⟩⟩ rfl rfl <;> clear hI hd
                · (try dsimp only) <;> (first | exact ⟨by assumption, by omega⟩ | (refine ⟨⟨by (simp only [List.length_set]; omega), k2, mem_set k3 (by have e8 := k3 _ (List.mem_of_getElem? (by assumption)); exact ⟨by (try dsimp only); (try simp only [IntKind.wrap_i64] at *); omega, e8.2.1, e8.2.2⟩), k4, k5, k6⟩, by omega⟩; done) | (refine ⟨⟨by (simp only [List.length_set]; omega), k2, mem_set k3 (by have e8 := k3 _ (List.mem_of_getElem? (by assumption)); exact ⟨e8.1, by (simp only [List.length_set]; exact e8.2.1), mem_set e8.2.2 (by have e9 := pick3 (by assumption); omega)⟩), k4, k5, k6⟩, by omega⟩; done) | exact ⟨⟨k1, k2, k3, k4, by (try dsimp only); omega, k6⟩, by omega⟩ | exact ⟨⟨k1, k2, k3, k4, k5, k6⟩, by omega⟩ | exact ⟨⟨k1, by (simp only [List.length_append, List.length_singleton]; omega), k3, mem_snoc k4 ⟨by (try dsimp only); omega, by (try dsimp only); omega, fun x hx => by have e9 := hy9 x hx; omega⟩, k5, k6⟩, by omega⟩)
                · rfl
              ·
                rintro ⟨⟨ts224, i2225, h2226⟩, hq227⟩
                try dsimp only at hq227
                try dsimp only
                obtain ⟨q228, q229, q230⟩ := hq227
                have hy9 : ∀ x ∈ ts224, -3 ≤ x ∧ x ≤ 4 := (by assumption)
                refine d_take 1 rfl rfl (by kernel_rfl) (by kernel_rfl) (by kernel_rfl) (p_load1b (by kernel_rfl) rfl rfl rfl) ?_
                refine d_only 6 rfl (by kernel_rfl) rfl (o_litS 17 (e := 72) (sz := 2) (zs := [.int .i64 (0), .slice none 0 0]) rfl rfl (by kernel_rfl) rfl rfl rfl rfl rfl) ?_
                refine d_only 7 rfl (by kernel_rfl) rfl (o_append 8 (e := 72) (sz := 2) (by' := 32) ((((x205)), (ts224))) rfl (by kernel_rfl) rfl rfl rfl rfl rfl rfl (.cons .sc (.take (.own rfl) rfl .nil)) rfl (by first | omega | assumption | (rw [holeL_len]; omega) | (have e7 := k7 _ (by assumption); omega) | (simp only [List.length_cons, List.length_nil]; omega)) (by first | omega | assumption | (rw [holeL_len]; omega) | (have e7 := k7 _ (by assumption); omega) | (simp only [List.length_cons, List.length_nil]; omega))) ?_
                refine d_take 8 rfl rfl (by kernel_rfl) (by kernel_rfl) (by kernel_rfl) (p_fieldb (off := 1) (by kernel_rfl) rfl) ?_
                refine d_only 9 rfl (by kernel_rfl) rfl (o_storeb (n := 1) (by kernel_rfl) rfl rfl rfl rfl rfl rfl) ?_
                refine d_end (by kernel_rfl) ?_
                refine t_endblock ?_
                refine t_seq ?_
                refine t_region ?_
                refine r_op (o_loadAb rfl (n := 5) (by kernel_rfl) (by kernel_rfl) rfl rfl rfl) ?_
                refine r_op (o_storeb (n := 5) (by kernel_rfl) rfl rfl rfl rfl rfl rfl) ?_
                refine r_end ?_
                refine t_ret Tryd.func32 (.cells (n := 5) (by kernel_rfl) (by kernel_rfl) rfl rfl rfl .nil) rfl fun E S w u hI hd => ?_
                refine post_mkG (⟨(b1), (hs2) ++ [(((x205)), (ts224))], (e3), (lv4), (rv5), (i2225), (h2226)⟩) ?_ hI hd ?_ ⟨rfl, ⟨rfl, ⟨rfl, trivial⟩⟩⟩ rfl rfl <;> clear hI hd
                · (try dsimp only) <;> (first | exact ⟨by assumption, by omega⟩ | (refine ⟨⟨by (simp only [List.length_set]; omega), k2, mem_set k3 (by have e8 := k3 _ (List.mem_of_getElem? (by assumption)); exact ⟨by (try dsimp only); (try simp only [IntKind.wrap_i64] at *); omega, e8.2.1, e8.2.2⟩), k4, k5, k6⟩, by omega⟩; done) | (refine ⟨⟨by (simp only [List.length_set]; omega), k2, mem_set k3 (by have e8 := k3 _ (List.mem_of_getElem? (by assumption)); exact ⟨e8.1, by (simp only [List.length_set]; exact e8.2.1), mem_set e8.2.2 (by have e9 := pick3 (by assumption); omega)⟩), k4, k5, k6⟩, by omega⟩; done) | exact ⟨⟨k1, k2, k3, k4, by (try dsimp only); omega, k6⟩, by omega⟩ | exact ⟨⟨k1, k2, k3, k4, k5, k6⟩, by omega⟩ | exact ⟨⟨k1, by (simp only [List.length_append, List.length_singleton]; omega), k3, mem_snoc k4 ⟨by (try dsimp only); omega, by (try dsimp only); omega, fun x hx => by have e9 := hy9 x hx; omega⟩, k5, k6⟩, by omega⟩)
                · rfl
          ·
            have h204' := of_decide_eq_false h204
            refine t_skip ?_
            refine t_endblock ?_
            refine t_seq ?_
            refine t_region ?_
            refine r_op (o_loadAb rfl (n := 5) (by kernel_rfl) (by kernel_rfl) rfl rfl rfl) ?_
            refine r_op (o_storeb (n := 5) (by kernel_rfl) rfl rfl rfl rfl rfl rfl) ?_
            refine r_end ?_
            refine t_ret Tryd.func32 (.cells (n := 5) (by kernel_rfl) (by kernel_rfl) rfl rfl rfl .nil) rfl fun E S w u hI hd => ?_
            refine post_mkG (⟨(b1), (hs2), (e3), (lv4), (rv5), (i213), (h214)⟩) ?_ hI hd ?_ ⟨rfl, ⟨rfl, ⟨rfl, trivial⟩⟩⟩ rfl rfl <;> clear hI hd
            · (try dsimp only) <;> (first | exact ⟨by assumption, by omega⟩ | (refine ⟨⟨by (simp only [List.length_set]; omega), k2, mem_set k3 (by have e8 := k3 _ (List.mem_of_getElem? (by assumption)); exact ⟨by (try dsimp only); (try simp only [IntKind.wrap_i64] at *); omega, e8.2.1, e8.2.2⟩), k4, k5, k6⟩, by omega⟩; done) | (refine ⟨⟨by (simp only [List.length_set]; omega), k2, mem_set k3 (by have e8 := k3 _ (List.mem_of_getElem? (by assumption)); exact ⟨e8.1, by (simp only [List.length_set]; exact e8.2.1), mem_set e8.2.2 (by have e9 := pick3 (by assumption); omega)⟩), k4, k5, k6⟩, by omega⟩; done) | exact ⟨⟨k1, k2, k3, k4, by (try dsimp only); omega, k6⟩, by omega⟩ | exact ⟨⟨k1, k2, k3, k4, k5, k6⟩, by omega⟩ | exact ⟨⟨k1, by (simp only [List.length_append, List.length_singleton]; omega), k3, mem_snoc k4 ⟨by (try dsimp only); omega, by (try dsimp only); omega, fun x hx => by have e9 := hy9 x hx; omega⟩, k5, k6⟩, by omega⟩)
            · rfl
set_option maxHeartbeats 1000000 in
set_option maxRecDepth 10000 in
theorem c_spec_DrawAreValidDependencies (code : List Int) (hc : code.length ≤ 1048576) : PuG Tryd.prog 20 [.c (.t none (.sl 1 encU (code)))] (fun (ds : (List Dep)) => ds.length ≤ 6 ∧ (∀ d ∈ ds, depL d)) (fun (ds : (List Dep)) => []) 0 (fun (ds : (List Dep)) => .tup [(false, [.t none (.sl 3 (enS3 encS encI encB) (sigs5))]), (false, [.t none (.sl 5 (enS5 (enSl 2 (enS2 encI (enSl 1 encI))) (enSl 2 (enS2 encI (enSl 1 encI))) encB encI encI) (ds))])]) := by
  refine pu_enterG Tryd.func20 rfl (Nat.le_of_ble_eq_true rfl) fun w S => ?_
  refine t_seq ?_
  refine t_region ?_
  refine r_op (o_assign rfl rfl) ?_
  refine r_op (o_assign rfl rfl) ?_
  refine r_end ?_
  refine t_seq ?_
  refine t_region ?_
  refine r_op (o_move rfl rfl) ?_
  refine r_opX (o_callG 0 1 (Go.Proofs.enters_of Tryd.func15 (by kernel_rfl) rfl) (c_spec_l1New (code) (by first | omega | assumption | (unfold okI; omega) | (simp only [List.length_cons, List.length_nil]; omega))) rfl (.cons rfl (.c .t0) .nil) rfl rfl) ?_
  rintro ⟨h1, hq2⟩
  try dsimp only at hq2
  try dsimp only
  refine r_op (o_assign rfl rfl) ?_
  refine r_end ?_
  refine t_seq ?_
  refine t_region ?_
  refine r_op (o_move rfl rfl) ?_
  refine r_opX (o_callGM 0 1 3 (pv := none) (Go.Proofs.enters_of Tryd.func31 (by kernel_rfl) rfl) (c_spec_l9Rules ((code)) (0) ((h1)) (by first | omega | assumption | (unfold okI; omega) | (simp only [List.length_cons, List.length_nil]; omega)) (by first | omega | assumption | (unfold okI; omega) | (simp only [List.length_cons, List.length_nil]; omega)) (by first | omega | assumption | (unfold okI; omega) | (simp only [List.length_cons, List.length_nil]; omega))) rfl rfl (.cur rfl .nil) rfl (fun ⟨_, _, _⟩ => rfl) (fun _ => rfl) (fun ⟨_, _, _⟩ => rfl) rfl rfl) ?_
  rintro ⟨⟨ds4, i25, h26⟩, hq7⟩
  try dsimp only at hq7
  try dsimp only
  obtain ⟨q8, q9, q10⟩ := hq7
  refine r_op (o_assign rfl rfl) ?_
  refine r_end ?_
  refine t_seq ?_
  refine t_seq ?_
  refine t_region ?_
  refine r_op (o_move rfl rfl) ?_
  refine r_opX (o_callGM 0 3 4 (pv := none) (Go.Proofs.enters_of Tryd.func22 (by kernel_rfl) rfl) (c_spec_l1Once (((code))) ((i25)) ((h26)) (4) (by first | omega | assumption | (unfold okI; omega) | (simp only [List.length_cons, List.length_nil]; omega)) (by first | omega | assumption | (unfold okI; omega) | (simp only [List.length_cons, List.length_nil]; omega)) (by first | omega | assumption | (unfold okI; omega) | (simp only [List.length_cons, List.length_nil]; omega)) (by first | omega | assumption | (unfold okI; omega) | (simp only [List.length_cons, List.length_nil]; omega)) (by first | omega | assumption | (unfold okI; omega) | (simp only [List.length_cons, List.length_nil]; omega))) rfl rfl (.cur rfl (.cons rfl .nil)) rfl (fun ⟨_, _, _⟩ => rfl) (fun _ => rfl) (fun ⟨_, _, _⟩ => rfl) rfl rfl) ?_
  rintro ⟨⟨b11, i212, h213⟩, hq14⟩
  try dsimp only at hq14
  try dsimp only
  refine r_end ?_
  refine t_cond rfl (fun h16 => ?_) (fun h16 => ?_)
  ·
    have h16' := h16
    refine t_region ?_
    refine r_op (o_move rfl rfl) ?_
    refine r_op (o_move rfl rfl) ?_
    refine r_opX (o_callGM 0 4 13 (pv := none) (Go.Proofs.enters_of Tryd.func32 (by kernel_rfl) rfl) (c_spec_l9Any ((((code)))) ((i212)) ((h213)) (by first | omega | assumption | (unfold okI; omega) | (simp only [List.length_cons, List.length_nil]; omega)) (by first | omega | assumption | (unfold okI; omega) | (simp only [List.length_cons, List.length_nil]; omega)) (by first | omega | assumption | (unfold okI; omega) | (simp only [List.length_cons, List.length_nil]; omega))) rfl rfl (.cur rfl .nil) rfl (fun ⟨_, _, _, _, _, _, _⟩ => rfl) (fun _ => rfl) (fun ⟨_, _, _, _, _, _, _⟩ => rfl) rfl rfl) ?_
    rintro ⟨⟨b17, hs18, e19, lv20, rv21, i222, h223⟩, hq24⟩
    try dsimp only at hq24
    try dsimp only
    obtain ⟨q25, q26⟩ := hq24
    refine r_op (o_move rfl rfl) ?_
    refine r_opX (o_callGM 0 13 22 (pv := none) (Go.Proofs.enters_of Tryd.func32 (by kernel_rfl) rfl) (c_spec_l9Any (((((code))))) ((i222)) ((h223)) (by first | omega | assumption | (unfold okI; omega) | (simp only [List.length_cons, List.length_nil]; omega)) (by first | omega | assumption | (unfold okI; omega) | (simp only [List.length_cons, List.length_nil]; omega)) (by first | omega | assumption | (unfold okI; omega) | (simp only [List.length_cons, List.length_nil]; omega))) rfl rfl (.cur rfl .nil) rfl (fun ⟨_, _, _, _, _, _, _⟩ => rfl) (fun _ => rfl) (fun ⟨_, _, _, _, _, _, _⟩ => rfl) rfl rfl) ?_
    rintro ⟨⟨b27, hs28, e29, lv30, rv31, i232, h233⟩, hq34⟩
    try dsimp only at hq34
    try dsimp only
    obtain ⟨q35, q36⟩ := hq34
    refine r_op (o_litN 22 (e := 62) (sz := 5) (zs := [.slice none 0 0, .slice none 0 0, .bool (false), .int .i64 (0), .int .i64 (0)]) (enc := (enS5 (enSl 2 (enS2 encI (enSl 1 encI))) (enSl 2 (enS2 encI (enSl 1 encI))) encB encI encI)) [((b17), (hs18), (e19), (lv20), (rv21)), ((b27), (hs28), (e29), (lv30), (rv31))] rfl rfl (by kernel_rfl) rfl rfl rfl rfl rfl rfl rfl rfl (.take (.own rfl) rfl (.take (.own rfl) rfl (.cons .sc (.cons .sc (.cons .sc (.take (.own rfl) rfl (.take (.own rfl) rfl (.cons .sc (.cons .sc (.cons .sc .nil)))))))))) rfl) ?_
    refine r_op (o_appendD 2 (e := 62) (sz := 5) (by' := 72) rfl (by kernel_rfl) rfl rfl rfl rfl rfl rfl (by first | omega | assumption | (unfold okI; omega) | (simp only [List.length_cons, List.length_nil]; omega)) (by first | omega | assumption | (unfold okI; omega) | (simp only [List.length_cons, List.length_nil]; omega))) ?_
    refine r_op (o_assign rfl rfl) ?_
    refine r_end ?_
    refine t_seq ?_
    refine t_region ?_
    refine r_op (o_call 23 24 false (Go.Proofs.enters_of Tryd.func27 (by kernel_rfl) rfl) (c_spec_l3Sigs ) rfl .nil rfl rfl rfl) ?_
    refine r_op (o_move rfl rfl) ?_
    refine r_op (o_assign rfl rfl) ?_
    refine r_op (o_assign rfl rfl) ?_
    refine r_end ?_
    refine gt_freeze 23 rfl (frz_pu rfl) ?_
    refine gt_freeze 2 rfl (frz_pu rfl) ?_
    refine t_ret Tryd.func20 (.tmp rfl (.tmp rfl .nil)) rfl fun E S w u hI hd => ?_
    refine post_mkG ((ds4) ++ ([((b17), (hs18), (e19), (lv20), (rv21)), ((b27), (hs28), (e29), (lv30), (rv31))])) ?_ hI hd ?_ trivial rfl rfl <;> clear hI hd
    · (try dsimp only) <;> (first | exact ⟨by omega, by assumption⟩ | exact ⟨by (simp only [List.length_append, List.length_cons, List.length_nil]; omega), mem_two (by assumption) (by assumption) (by assumption)⟩)
    · rfl
  ·
    have h16' := h16
    refine t_skip ?_
    refine t_seq ?_
    refine t_region ?_
    refine r_op (o_call 4 5 false (Go.Proofs.enters_of Tryd.func27 (by kernel_rfl) rfl) (c_spec_l3Sigs ) rfl .nil rfl rfl rfl) ?_
    refine r_op (o_move rfl rfl) ?_
    refine r_op (o_assign rfl rfl) ?_
    refine r_op (o_assign rfl rfl) ?_
    refine r_end ?_
    refine gt_freeze 4 rfl (frz_pu rfl) ?_
    refine gt_freeze 2 rfl (frz_pu rfl) ?_
    refine t_ret Tryd.func20 (.tmp rfl (.tmp rfl .nil)) rfl fun E S w u hI hd => ?_
    refine post_mkG ((ds4)) ?_ hI hd ?_ trivial rfl rfl <;> clear hI hd
    · (try dsimp only) <;> (first | exact ⟨by omega, by assumption⟩ | exact ⟨by (simp only [List.length_append, List.length_cons, List.length_nil]; omega), mem_two (by assumption) (by assumption) (by assumption)⟩)
    · rfl
set_option maxHeartbeats 1000000 in
set_option maxRecDepth 10000 in
theorem c_spec_l1In (a0 a1 a2 : Int) : Pu Tryd.prog 25 [.c (.t none (.v (.int .i64 (a0)))), .c (.t none (.v (.int .i64 (a1)))), .c (.t none (.v (.int .i64 (a2))))] [] 0 (.c (.t none (.v (.bool (decide (a1 ≤ a0 ∧ a0 ≤ a2)))))) := by
  refine pu_enter Tryd.func25 rfl (Nat.le_of_ble_eq_true rfl) fun w S => ?_
  refine t_seq ?_
  refine t_region ?_
  refine r_op (o_assign rfl rfl) ?_
  refine r_end ?_
  refine t_seq ?_
  refine t_region ?_
  refine r_op (o_move rfl rfl) ?_
  refine r_op (o_move rfl rfl) ?_
  refine r_op (o_bin rfl rfl rfl rfl) ?_
  refine r_op (o_move rfl rfl) ?_
  refine r_guard rfl rfl rfl (fun g1 => ?_) (fun g1 => ?_)
  ·
    have g1' := of_decide_eq_true g1
    refine r_op (o_move rfl rfl) ?_
    refine r_guard rfl rfl rfl (fun _ => ?_) (nc g1)
    refine r_op (o_move rfl rfl) ?_
    refine r_guard rfl rfl rfl (fun _ => ?_) (nc g1)
    refine r_op (o_bin rfl rfl rfl rfl) ?_
    refine r_op (o_pickT rfl rfl g1 rfl) ?_
    refine r_op (o_assign rfl rfl) ?_
    refine r_end ?_
    refine t_ret Tryd.func25 (.tmp rfl .nil) rfl fun E S w u hI hd => ?_
    refine post_mk hI hd ?_ trivial rfl rfl rfl <;> clear hI hd
    all_goals first | rfl | (simp_all <;> omega)
  ·
    have g1' := of_decide_eq_false g1
    refine r_guard rfl rfl rfl (ncf g1) (fun _ => ?_)
    refine r_guard rfl rfl rfl (ncf g1) (fun _ => ?_)
    refine r_op (o_pickF rfl rfl g1 rfl) ?_
    refine r_op (o_assign rfl rfl) ?_
    refine r_end ?_
    refine t_ret Tryd.func25 (.tmp rfl .nil) rfl fun E S w u hI hd => ?_
    refine post_mk hI hd ?_ trivial rfl rfl rfl <;> clear hI hd
    all_goals first | rfl | (simp_all <;> omega)
set_option maxHeartbeats 1000000 in
set_option maxRecDepth 10000 in
theorem c_spec_IsValidRelation (n : List UInt8) (a : Int) (s : Bool) : Pu Tryd.prog 38 [.agg [.t none (.v (.string (mkS (n)))), .t none (.v (.int .i64 (a))), .t none (.v (.bool (s)))]] [] 0 (.c (.t none (.v (.bool (relOk (n, a, s)))))) := by
  refine pu_enter Tryd.func38 rfl (Nat.le_of_ble_eq_true rfl) fun w S => ?_
  refine t_seq ?_
  refine t_region ?_
  refine r_op (o_box 0 rfl rfl rfl rfl) ?_
  refine r_op (o_assign rfl rfl) ?_
  refine r_end ?_
  refine t_seq ?_
  refine t_region ?_
  refine r_op (o_fieldb rfl (off := 0) (by kernel_rfl) rfl) ?_
  refine r_op (o_load1b rfl (by kernel_rfl) rfl rfl rfl) ?_
  refine r_op (o_lenS rfl Tryd.underlying9 rfl) ?_
  refine r_op (o_bin rfl rfl rfl rfl) ?_
  refine r_op (o_move rfl rfl) ?_
  refine r_guard rfl rfl rfl (fun g1 => ?_) (fun g1 => ?_)
  ·
    have g1' := of_decide_eq_true g1
    refine r_op (o_fieldb rfl (off := 0) (by kernel_rfl) rfl) ?_
    refine r_guard rfl rfl rfl (fun _ => ?_) (nc g1)
    refine r_op (o_load1b rfl (by kernel_rfl) rfl rfl rfl) ?_
    refine r_guard rfl rfl rfl (fun _ => ?_) (nc g1)
    obtain ⟨z2, hz3, b4⟩ := at_get (xs := n) (n := 0) (by first | omega | (simp; omega)) (by first | omega | (simp; omega))
    refine r_op (o_indexS rfl Tryd.underlying9 rfl rfl b4 hz3) ?_
    refine r_guard rfl rfl rfl (fun _ => ?_) (nc g1)
    refine r_op (o_bin rfl rfl rfl rfl) ?_
    refine r_op (o_pickT rfl rfl g1 rfl) ?_
    refine r_op (o_move rfl rfl) ?_
    refine r_guard rfl rfl rfl (fun g5 => ?_) (fun g5 => ?_)
    ·
      have g5' := of_decide_eq_true g5
      refine r_op (o_fieldb rfl (off := 0) (by kernel_rfl) rfl) ?_
      refine r_guard rfl rfl rfl (fun _ => ?_) (nc g5)
      refine r_op (o_load1b rfl (by kernel_rfl) rfl rfl rfl) ?_
      refine r_guard rfl rfl rfl (fun _ => ?_) (nc g5)
      refine r_op (o_indexS rfl Tryd.underlying9 rfl rfl b4 hz3) ?_
      refine r_guard rfl rfl rfl (fun _ => ?_) (nc g5)
      refine r_op (o_bin rfl rfl rfl rfl) ?_
      refine r_op (o_pickT rfl rfl g5 rfl) ?_
      refine r_op (o_move rfl rfl) ?_
      refine r_guard rfl rfl rfl (fun g6 => ?_) (fun g6 => ?_)
      ·
        have g6' := of_decide_eq_true g6
        refine r_op (o_fieldb rfl (off := 1) (by kernel_rfl) rfl) ?_
        refine r_guard rfl rfl rfl (fun _ => ?_) (nc g6)
        refine r_op (o_load1b rfl (by kernel_rfl) rfl rfl rfl) ?_
        refine r_guard rfl rfl rfl (fun _ => ?_) (nc g6)
        refine r_op (o_call 1 1 false (Go.Proofs.enters_of Tryd.func25 (by kernel_rfl) rfl) (c_spec_l1In (a) (1) (3)) rfl (.cons rfl (.c .t0) (.cons rfl (.c .t0) (.cons rfl (.c .t0) .nil))) rfl rfl rfl) ?_
        refine r_op (o_pickT rfl rfl g6 rfl) ?_
        refine r_op (o_assign rfl rfl) ?_
        refine r_end ?_
        refine t_ret Tryd.func38 (.tmp rfl .nil) rfl fun E S w u hI hd => ?_
        refine post_mk hI hd ?_ trivial rfl rfl rfl <;> clear hI hd
        all_goals first | rfl | (refine scB ?_; first | (have e := nameOk_not (by assumption); simp [relOk, e]; done) | (obtain ⟨c, rfl⟩ := one_of (by assumption); simp at *; subst_vars; simp [relOk, nameOk]; omega))
      ·
        have g6' := of_decide_eq_false g6
        refine r_guard rfl rfl rfl (ncf g6) (fun _ => ?_)
        refine r_guard rfl rfl rfl (ncf g6) (fun _ => ?_)
        refine r_op (o_pickF rfl rfl g6 rfl) ?_
        refine r_op (o_assign rfl rfl) ?_
        refine r_end ?_
        refine t_ret Tryd.func38 (.tmp rfl .nil) rfl fun E S w u hI hd => ?_
        refine post_mk hI hd ?_ trivial rfl rfl rfl <;> clear hI hd
        all_goals first | rfl | (refine scB ?_; first | (have e := nameOk_not (by assumption); simp [relOk, e]; done) | (obtain ⟨c, rfl⟩ := one_of (by assumption); simp at *; subst_vars; simp [relOk, nameOk]; omega))
    ·
      have g5' := of_decide_eq_false g5
      refine r_guard rfl rfl rfl (ncf g5) (fun _ => ?_)
      refine r_guard rfl rfl rfl (ncf g5) (fun _ => ?_)
      refine r_guard rfl rfl rfl (ncf g5) (fun _ => ?_)
      refine r_op (o_pickF rfl rfl g5 rfl) ?_
      refine r_op (o_move rfl rfl) ?_
      refine r_guard rfl rfl rfl (ncf rfl) (fun _ => ?_)
      refine r_guard rfl rfl rfl (ncf rfl) (fun _ => ?_)
      refine r_guard rfl rfl rfl (ncf rfl) (fun _ => ?_)
      refine r_op (o_pickF rfl rfl rfl rfl) ?_
      refine r_op (o_assign rfl rfl) ?_
      refine r_end ?_
      refine t_ret Tryd.func38 (.tmp rfl .nil) rfl fun E S w u hI hd => ?_
      refine post_mk hI hd ?_ trivial rfl rfl rfl <;> clear hI hd
      all_goals first | rfl | (refine scB ?_; first | (have e := nameOk_not (by assumption); simp [relOk, e]; done) | (obtain ⟨c, rfl⟩ := one_of (by assumption); simp at *; subst_vars; simp [relOk, nameOk]; omega))
  ·
    have g1' := of_decide_eq_false g1
    refine r_guard rfl rfl rfl (ncf g1) (fun _ => ?_)
    refine r_guard rfl rfl rfl (ncf g1) (fun _ => ?_)
    refine r_guard rfl rfl rfl (ncf g1) (fun _ => ?_)
    refine r_op (o_pickF rfl rfl g1 rfl) ?_
    refine r_op (o_move rfl rfl) ?_
    refine r_guard rfl rfl rfl (ncf rfl) (fun _ => ?_)
    refine r_guard rfl rfl rfl (ncf rfl) (fun _ => ?_)
    refine r_guard rfl rfl rfl (ncf rfl) (fun _ => ?_)
    refine r_guard rfl rfl rfl (ncf rfl) (fun _ => ?_)
    refine r_op (o_pickF rfl rfl rfl rfl) ?_
    refine r_op (o_move rfl rfl) ?_
    refine r_guard rfl rfl rfl (ncf rfl) (fun _ => ?_)
    refine r_guard rfl rfl rfl (ncf rfl) (fun _ => ?_)
    refine r_guard rfl rfl rfl (ncf rfl) (fun _ => ?_)
    refine r_op (o_pickF rfl rfl rfl rfl) ?_
    refine r_op (o_assign rfl rfl) ?_
    refine r_end ?_
    refine t_ret Tryd.func38 (.tmp rfl .nil) rfl fun E S w u hI hd => ?_
    refine post_mk hI hd ?_ trivial rfl rfl rfl <;> clear hI hd
    all_goals first | rfl | (refine scB ?_; first | (have e := nameOk_not (by assumption); simp [relOk, e]; done) | (obtain ⟨c, rfl⟩ := one_of (by assumption); simp at *; subst_vars; simp [relOk, nameOk]; omega))
set_option maxHeartbeats 1000000 in
set_option maxRecDepth 10000 in
theorem c_spec_AreValidRelations (l : List (List UInt8 × Int × Bool)) (hl : l.length ≤ 4611686018427387904) : Pu Tryd.prog 24 [.c (.t none (.sl 3 (enS3 encS encI encB) (l)))] [] 0 (.c (.t none (.v (.bool (relsOk l))))) := by
  refine pu_enter Tryd.func24 rfl (Nat.le_of_ble_eq_true rfl) fun w S => ?_
  refine t_seq ?_
  refine t_region ?_
  refine r_op (o_assign rfl rfl) ?_
  refine r_end ?_
  refine t_seq ?_
  refine t_seq ?_
  refine t_region ?_
  refine r_op (o_assign rfl rfl) ?_
  refine r_end ?_
  refine t_block ?_
  refine t_loopL (fun m => ⟨[(0, some (.c (.t none (.sl 3 (enS3 encS encI encB) (l))))), (3, some (.c (.t none (.v (.int .i64 ((m : Int)))))))], [], 0⟩ : Nat → St) (fun m => m ≤ l.length ∧ ∀ j, j < m → relStep l j = true) (fun m => l.length - m) 0 ⟨⟨rfl, ⟨rfl, trivial⟩⟩, trivial, rfl⟩ (by exact ⟨Nat.zero_le _, fun j h => by omega⟩) ?_
  rintro m hI ih0
  try dsimp only at hI ih0
  obtain ⟨i1, i2⟩ := hI
  refine t_seq ?_
  refine t_seq ?_
  refine t_region ?_
  refine r_op (o_move rfl rfl) ?_
  refine r_op (o_move rfl rfl) ?_
  refine r_op (o_len rfl rfl rfl) ?_
  refine r_op (o_bin rfl rfl rfl rfl) ?_
  refine r_end ?_
  refine t_cond rfl (fun h1 => ?_) (fun h1 => ?_)
  ·
    have h1' := of_decide_eq_true h1
    refine t_skip ?_
    refine t_seq ?_
    refine t_block ?_
    refine t_seq ?_
    refine t_draw (fun _ => true) (by kernel_rfl) ?_
    refine d_take 0 rfl rfl (by kernel_rfl) (by kernel_rfl) (by kernel_rfl) (p_move rfl) ?_
    refine d_take 1 rfl rfl (by kernel_rfl) (by kernel_rfl) (by kernel_rfl) (p_move rfl) ?_
    obtain ⟨z2, hz3, b4⟩ := at_get (xs := l) (n := (m : Int)) (by first | omega | (simp; omega) | (simp only [IntKind.wrap_i64]; omega)) (by first | omega | (simp; omega) | (simp only [IntKind.wrap_i64]; omega))
    refine d_take 2 rfl rfl (by kernel_rfl) (by kernel_rfl) (by kernel_rfl) (p_index (by kernel_rfl) rfl rfl b4 hz3) ?_
    refine d_take 3 rfl rfl (by kernel_rfl) (by kernel_rfl) (by kernel_rfl) (p_loadA (n := 3) (by kernel_rfl) (by kernel_rfl) rfl rfl) ?_
    refine d_only 4 rfl (by kernel_rfl) rfl (o_call 0 0 false (Go.Proofs.enters_of Tryd.func38 (by kernel_rfl) rfl) (c_spec_IsValidRelation (z2.1) (z2.2.1) (z2.2.2)) rfl (.cons rfl (.agg (.cons .t0 (.cons .t0 (.cons .t0 .nil)))) .nil) rfl rfl rfl) ?_
    refine d_take 5 rfl rfl (by kernel_rfl) (by kernel_rfl) (by kernel_rfl) (p_not rfl) ?_
    refine d_take 6 rfl rfl (by kernel_rfl) (by kernel_rfl) (by kernel_rfl) (p_move rfl) ?_
    refine d_guard 7 rfl rfl (by kernel_rfl) (by kernel_rfl) (by kernel_rfl) rfl rfl (fun _ => p_move rfl) (fun g5 => ?_) (fun g5 => ?_)
    ·
      have g5' := (bnf g5)
      refine d_guard 8 rfl rfl (by kernel_rfl) (by kernel_rfl) (by kernel_rfl) rfl rfl (fun _ => p_bin rfl rfl rfl) (fun _ => ?_) (ncf g5)
      refine d_guard 9 rfl rfl (by kernel_rfl) (by kernel_rfl) (by kernel_rfl) rfl rfl (fun _ => p_move rfl) (fun _ => ?_) (ncf g5)
      refine d_guard 10 rfl rfl (by kernel_rfl) (by kernel_rfl) (by kernel_rfl) rfl rfl (fun _ => p_move rfl) (fun g6 => ?_) (fun g6 => ?_)
      ·
        have g6' := of_decide_eq_true g6
        refine d_guard 11 rfl rfl (by kernel_rfl) (by kernel_rfl) (by kernel_rfl) rfl rfl (fun _ => p_move rfl) (fun _ => ?_) (nc g6)
        refine d_guard 12 rfl rfl (by kernel_rfl) (by kernel_rfl) (by kernel_rfl) rfl rfl (fun _ => p_bin rfl rfl rfl) (fun _ => ?_) (nc g6)
        obtain ⟨z7, hz8, b9⟩ := at_get (xs := l) (n := IntKind.i64.wrap ((m : Int) - 1)) (by first | omega | (simp; omega) | (simp only [IntKind.wrap_i64]; omega)) (by first | omega | (simp; omega) | (simp only [IntKind.wrap_i64]; omega))
        refine d_guard 13 rfl rfl (by kernel_rfl) (by kernel_rfl) (by kernel_rfl) rfl rfl (fun _ => p_index (by kernel_rfl) rfl rfl b9 hz8) (fun _ => ?_) (nc g6)
        refine d_guard 14 rfl rfl (by kernel_rfl) (by kernel_rfl) (by kernel_rfl) rfl rfl (fun _ => p_field (off := 0) (by kernel_rfl) rfl) (fun _ => ?_) (nc g6)
        refine d_guard 15 rfl rfl (by kernel_rfl) (by kernel_rfl) (by kernel_rfl) rfl rfl (fun _ => p_load1 (by kernel_rfl) rfl rfl) (fun _ => ?_) (nc g6)
        refine d_guard 16 rfl rfl (by kernel_rfl) (by kernel_rfl) (by kernel_rfl) rfl rfl (fun _ => p_move rfl) (fun _ => ?_) (nc g6)
        refine d_guard 17 rfl rfl (by kernel_rfl) (by kernel_rfl) (by kernel_rfl) rfl rfl (fun _ => p_move rfl) (fun _ => ?_) (nc g6)
        refine d_guard 18 rfl rfl (by kernel_rfl) (by kernel_rfl) (by kernel_rfl) rfl rfl (fun _ => p_index (by kernel_rfl) rfl rfl b4 hz3) (fun _ => ?_) (nc g6)
        refine d_guard 19 rfl rfl (by kernel_rfl) (by kernel_rfl) (by kernel_rfl) rfl rfl (fun _ => p_field (off := 0) (by kernel_rfl) rfl) (fun _ => ?_) (nc g6)
        refine d_guard 20 rfl rfl (by kernel_rfl) (by kernel_rfl) (by kernel_rfl) rfl rfl (fun _ => p_load1 (by kernel_rfl) rfl rfl) (fun _ => ?_) (nc g6)
        refine d_guard 21 rfl rfl (by kernel_rfl) (by kernel_rfl) (by kernel_rfl) rfl rfl (fun _ => p_str rfl rfl rfl) (fun _ => ?_) (nc g6)
        refine d_guard 22 rfl rfl (by kernel_rfl) (by kernel_rfl) (by kernel_rfl) rfl rfl (fun _ => p_pickT rfl g6 rfl) (fun _ => ?_) (ncf g5)
        refine d_take 23 rfl rfl (by kernel_rfl) (by kernel_rfl) (by kernel_rfl) (p_pickF rfl g5 rfl) ?_
        refine d_end (by kernel_rfl) ?_
        refine t_cond rfl (fun h10 => ?_) (fun h10 => ?_)
        ·
          have h10' := (bnt h10)
          refine t_seq ?_
          refine t_region ?_
          refine r_op (o_assign rfl rfl) ?_
          refine r_end ?_
          refine t_ret Tryd.func24 (.tmp rfl .nil) rfl fun E S w u hI hd => ?_
          refine post_mk hI hd ?_ trivial rfl rfl rfl <;> clear hI hd <;> (try clear ih0)
          all_goals first | rfl | (rw [relsOk_not (m := m) (by omega) (relStep_pos (n := (IntKind.i64.wrap ((m : Int) - 1)).toNat) (by assumption) (by assumption) (by omega) (by simp only [IntKind.wrap_i64]; omega) (by assumption) (by assumption))])
        ·
          have h10' := (bnf h10)
          refine t_skip ?_
          refine t_endblock ?_
          refine t_region ?_
          refine r_op (o_move rfl rfl) ?_
          refine r_op (o_bin rfl rfl rfl rfl) ?_
          refine r_op (o_assign rfl rfl) ?_
          refine r_end ?_
          refine t_le ?_ (ih0 (m + 1) (by (try dsimp only); omega) (by (try dsimp only); exact ⟨by omega, step_all i2 (relStep_pos (n := (IntKind.i64.wrap ((m : Int) - 1)).toNat) (by assumption) (by assumption) (by omega) (by simp only [IntKind.wrap_i64]; omega) (by assumption) (by assumption))⟩))
          exact ⟨⟨rfl, ⟨(eqI (wr64 (by omega) (by omega))), trivial⟩⟩, trivial, rfl⟩
      ·
        have g6' := of_decide_eq_false g6
        refine d_guard 11 rfl rfl (by kernel_rfl) (by kernel_rfl) (by kernel_rfl) rfl rfl (v := .c .top) (ncf g6) (ncf g6) (fun _ => ?_)
        refine d_guard 12 rfl rfl (by kernel_rfl) (by kernel_rfl) (by kernel_rfl) rfl rfl (v := .c .top) (ncf g6) (ncf g6) (fun _ => ?_)
        refine d_guard 13 rfl rfl (by kernel_rfl) (by kernel_rfl) (by kernel_rfl) rfl rfl (v := .c .top) (ncf g6) (ncf g6) (fun _ => ?_)
        refine d_guard 14 rfl rfl (by kernel_rfl) (by kernel_rfl) (by kernel_rfl) rfl rfl (v := .c .top) (ncf g6) (ncf g6) (fun _ => ?_)
        refine d_guard 15 rfl rfl (by kernel_rfl) (by kernel_rfl) (by kernel_rfl) rfl rfl (v := .c .top) (ncf g6) (ncf g6) (fun _ => ?_)
        refine d_guard 16 rfl rfl (by kernel_rfl) (by kernel_rfl) (by kernel_rfl) rfl rfl (v := .c .top) (ncf g6) (ncf g6) (fun _ => ?_)
        refine d_guard 17 rfl rfl (by kernel_rfl) (by kernel_rfl) (by kernel_rfl) rfl rfl (v := .c .top) (ncf g6) (ncf g6) (fun _ => ?_)
        refine d_guard 18 rfl rfl (by kernel_rfl) (by kernel_rfl) (by kernel_rfl) rfl rfl (v := .c .top) (ncf g6) (ncf g6) (fun _ => ?_)
        refine d_guard 19 rfl rfl (by kernel_rfl) (by kernel_rfl) (by kernel_rfl) rfl rfl (v := .c .top) (ncf g6) (ncf g6) (fun _ => ?_)
        refine d_guard 20 rfl rfl (by kernel_rfl) (by kernel_rfl) (by kernel_rfl) rfl rfl (v := .c .top) (ncf g6) (ncf g6) (fun _ => ?_)
        refine d_guard 21 rfl rfl (by kernel_rfl) (by kernel_rfl) (by kernel_rfl) rfl rfl (v := .c .top) (ncf g6) (ncf g6) (fun _ => ?_)
        refine d_guard 22 rfl rfl (by kernel_rfl) (by kernel_rfl) (by kernel_rfl) rfl rfl (fun _ => p_pickF rfl g6 rfl) (fun _ => ?_) (ncf g5)
        refine d_take 23 rfl rfl (by kernel_rfl) (by kernel_rfl) (by kernel_rfl) (p_pickF rfl g5 rfl) ?_
        refine d_end (by kernel_rfl) ?_
        refine t_cond rfl (ncf rfl) (fun _ => ?_)
        refine t_skip ?_
        refine t_endblock ?_
        refine t_region ?_
        refine r_op (o_move rfl rfl) ?_
        refine r_op (o_bin rfl rfl rfl rfl) ?_
        refine r_op (o_assign rfl rfl) ?_
        refine r_end ?_
        refine t_le ?_ (ih0 (m + 1) (by (try dsimp only); omega) (by (try dsimp only); exact ⟨by omega, step_all i2 (relStep_zero (by assumption) (by assumption) (by omega))⟩))
        exact ⟨⟨rfl, ⟨(eqI (wr64 (by omega) (by omega))), trivial⟩⟩, trivial, rfl⟩
    ·
      have g5' := (bnt g5)
      refine d_guard 8 rfl rfl (by kernel_rfl) (by kernel_rfl) (by kernel_rfl) rfl rfl (v := .c .top) (nc g5) (nc g5) (fun _ => ?_)
      refine d_guard 9 rfl rfl (by kernel_rfl) (by kernel_rfl) (by kernel_rfl) rfl rfl (v := .c .top) (nc g5) (nc g5) (fun _ => ?_)
      refine d_skip 10 rfl rfl (by kernel_rfl) (by kernel_rfl) (by kernel_rfl) rfl rfl ?_
      refine d_skip 11 rfl rfl (by kernel_rfl) (by kernel_rfl) (by kernel_rfl) rfl rfl ?_
      refine d_skip 12 rfl rfl (by kernel_rfl) (by kernel_rfl) (by kernel_rfl) rfl rfl ?_
      refine d_skip 13 rfl rfl (by kernel_rfl) (by kernel_rfl) (by kernel_rfl) rfl rfl ?_
      refine d_skip 14 rfl rfl (by kernel_rfl) (by kernel_rfl) (by kernel_rfl) rfl rfl ?_
      refine d_skip 15 rfl rfl (by kernel_rfl) (by kernel_rfl) (by kernel_rfl) rfl rfl ?_
      refine d_skip 16 rfl rfl (by kernel_rfl) (by kernel_rfl) (by kernel_rfl) rfl rfl ?_
      refine d_skip 17 rfl rfl (by kernel_rfl) (by kernel_rfl) (by kernel_rfl) rfl rfl ?_
      refine d_skip 18 rfl rfl (by kernel_rfl) (by kernel_rfl) (by kernel_rfl) rfl rfl ?_
      refine d_skip 19 rfl rfl (by kernel_rfl) (by kernel_rfl) (by kernel_rfl) rfl rfl ?_
      refine d_skip 20 rfl rfl (by kernel_rfl) (by kernel_rfl) (by kernel_rfl) rfl rfl ?_
      refine d_skip 21 rfl rfl (by kernel_rfl) (by kernel_rfl) (by kernel_rfl) rfl rfl ?_
      refine d_guard 22 rfl rfl (by kernel_rfl) (by kernel_rfl) (by kernel_rfl) rfl rfl (v := .c .top) (nc g5) (nc g5) (fun _ => ?_)
      refine d_take 23 rfl rfl (by kernel_rfl) (by kernel_rfl) (by kernel_rfl) (p_pickT rfl g5 rfl) ?_
      refine d_end (by kernel_rfl) ?_
      refine t_cond rfl (fun _ => ?_) (nc rfl)
      refine t_seq ?_
      refine t_region ?_
      refine r_op (o_assign rfl rfl) ?_
      refine r_end ?_
      refine t_ret Tryd.func24 (.tmp rfl .nil) rfl fun E S w u hI hd => ?_
      refine post_mk hI hd ?_ trivial rfl rfl rfl <;> clear hI hd <;> (try clear ih0)
      all_goals first | rfl | (rw [relsOk_not (m := m) (by omega) (relStep_bad (by assumption) (by assumption))])
  ·
    have h1' := of_decide_eq_false h1
    refine t_exit rfl ?_
    refine t_seq ?_
    refine t_region ?_
    refine r_op (o_move rfl rfl) ?_
    refine r_op (o_len rfl rfl rfl) ?_
    refine r_op (o_bin rfl rfl rfl rfl) ?_
    refine r_op (o_assign rfl rfl) ?_
    refine r_end ?_
    refine t_ret Tryd.func24 (.tmp rfl .nil) rfl fun E S w u hI hd => ?_
    refine post_mk hI hd ?_ trivial rfl rfl rfl <;> clear hI hd <;> (try clear ih0)
    all_goals first | rfl | (rw [relsOk_end (m := m) i2 (by omega)]; exact scD (by omega))
set_option maxHeartbeats 1000000 in
set_option maxRecDepth 10000 in
theorem c_spec_IsValidAtom (rs : List (List UInt8 × Int × Bool)) (r : Int) (ts : List Int) (hrs : rs.length ≤ 4611686018427387904) (hts : ts.length ≤ 4611686018427387904) : Pu Tryd.prog 48 [.c (.t none (.sl 3 (enS3 encS encI encB) (rs))), .agg [.t none (.v (.int .i64 (r))), .t none (.sl 1 encI (ts))]] [] 0 (.c (.t none (.v (.bool (atomOk rs r ts))))) := by
  refine pu_enter Tryd.func48 rfl (Nat.le_of_ble_eq_true rfl) fun w S => ?_
  refine t_seq ?_
  refine t_region ?_
  refine r_op (o_box 0 rfl rfl rfl rfl) ?_
  refine r_op (o_assign rfl rfl) ?_
  refine r_end ?_
  refine t_seq ?_
  refine t_seq ?_
  refine t_draw (fun _ => true) (by kernel_rfl) ?_
  refine d_take 0 rfl rfl (by kernel_rfl) (by kernel_rfl) (by kernel_rfl) (p_move rfl) ?_
  refine d_only 1 rfl (by kernel_rfl) rfl (o_call 1 1 false (Go.Proofs.enters_of Tryd.func24 (by kernel_rfl) rfl) (c_spec_AreValidRelations (rs) (by first | omega | assumption | (simp; omega) | (simp only [IntKind.wrap_i64] at *; omega))) rfl (.cons rfl (.c .t0) .nil) rfl rfl rfl) ?_
  refine d_take 2 rfl rfl (by kernel_rfl) (by kernel_rfl) (by kernel_rfl) (p_not rfl) ?_
  refine d_take 3 rfl rfl (by kernel_rfl) (by kernel_rfl) (by kernel_rfl) (p_move rfl) ?_
  refine d_guard 4 rfl rfl (by kernel_rfl) (by kernel_rfl) (by kernel_rfl) rfl rfl (fun _ => p_fieldb (off := 0) (by kernel_rfl) rfl) (fun g1 => ?_) (fun g1 => ?_)
  ·
    have g1' := (bnf g1)
    refine d_guard 5 rfl rfl (by kernel_rfl) (by kernel_rfl) (by kernel_rfl) rfl rfl (fun _ => p_load1b (by kernel_rfl) rfl rfl rfl) (fun _ => ?_) (ncf g1)
    refine d_guard 6 rfl rfl (by kernel_rfl) (by kernel_rfl) (by kernel_rfl) rfl rfl (fun _ => p_move rfl) (fun _ => ?_) (ncf g1)
    refine d_guard 7 rfl rfl (by kernel_rfl) (by kernel_rfl) (by kernel_rfl) rfl rfl (fun _ => p_len rfl rfl) (fun _ => ?_) (ncf g1)
    refine d_guard 8 rfl rfl (by kernel_rfl) (by kernel_rfl) (by kernel_rfl) rfl rfl (fun _ => p_bin rfl rfl rfl) (fun _ => ?_) (ncf g1)
    refine d_onlyG 9 rfl rfl (by kernel_rfl) rfl rfl rfl (fun _ => (o_call 1 1 false (Go.Proofs.enters_of Tryd.func25 (by kernel_rfl) rfl) (c_spec_l1In (r) (0) (IntKind.i64.wrap (((rs).length : Int) - 1))) rfl (.cons rfl (.c .t0) (.cons rfl (.c .t0) (.cons rfl (.c .t0) .nil))) rfl rfl rfl)) (fun _ => ?_) (ncf g1)
    refine d_guard 10 rfl rfl (by kernel_rfl) (by kernel_rfl) (by kernel_rfl) rfl rfl (fun _ => p_not rfl) (fun _ => ?_) (ncf g1)
    refine d_take 11 rfl rfl (by kernel_rfl) (by kernel_rfl) (by kernel_rfl) (p_pickF rfl g1 rfl) ?_
    refine d_take 12 rfl rfl (by kernel_rfl) (by kernel_rfl) (by kernel_rfl) (p_move rfl) ?_
    refine d_guard 13 rfl rfl (by kernel_rfl) (by kernel_rfl) (by kernel_rfl) rfl rfl (fun _ => p_fieldb (off := 1) (by kernel_rfl) rfl) (fun g2 => ?_) (fun g2 => ?_)
    ·
      have g2' := of_decide_eq_true (bnf g2)
      refine d_guard 14 rfl rfl (by kernel_rfl) (by kernel_rfl) (by kernel_rfl) rfl rfl (fun _ => p_load1b (by kernel_rfl) rfl rfl rfl) (fun _ => ?_) (ncf g2)
      refine d_guard 15 rfl rfl (by kernel_rfl) (by kernel_rfl) (by kernel_rfl) rfl rfl (fun _ => p_len rfl rfl) (fun _ => ?_) (ncf g2)
      refine d_guard 16 rfl rfl (by kernel_rfl) (by kernel_rfl) (by kernel_rfl) rfl rfl (fun _ => p_move rfl) (fun _ => ?_) (ncf g2)
      refine d_guard 17 rfl rfl (by kernel_rfl) (by kernel_rfl) (by kernel_rfl) rfl rfl (fun _ => p_fieldb (off := 0) (by kernel_rfl) rfl) (fun _ => ?_) (ncf g2)
      refine d_guard 18 rfl rfl (by kernel_rfl) (by kernel_rfl) (by kernel_rfl) rfl rfl (fun _ => p_load1b (by kernel_rfl) rfl rfl rfl) (fun _ => ?_) (ncf g2)
      obtain ⟨z3, hz4, b5⟩ := at_get (xs := rs) (n := r) (by first | omega | assumption | (simp; omega) | (simp only [IntKind.wrap_i64] at *; omega)) (by first | omega | assumption | (simp; omega) | (simp only [IntKind.wrap_i64] at *; omega))
      refine d_guard 19 rfl rfl (by kernel_rfl) (by kernel_rfl) (by kernel_rfl) rfl rfl (fun _ => p_index (by kernel_rfl) rfl rfl b5 hz4) (fun _ => ?_) (ncf g2)
      refine d_guard 20 rfl rfl (by kernel_rfl) (by kernel_rfl) (by kernel_rfl) rfl rfl (fun _ => p_field (off := 1) (by kernel_rfl) rfl) (fun _ => ?_) (ncf g2)
      refine d_guard 21 rfl rfl (by kernel_rfl) (by kernel_rfl) (by kernel_rfl) rfl rfl (fun _ => p_load1 (by kernel_rfl) rfl rfl) (fun _ => ?_) (ncf g2)
      refine d_guard 22 rfl rfl (by kernel_rfl) (by kernel_rfl) (by kernel_rfl) rfl rfl (fun _ => p_bin rfl rfl rfl) (fun _ => ?_) (ncf g2)
      refine d_take 23 rfl rfl (by kernel_rfl) (by kernel_rfl) (by kernel_rfl) (p_pickF rfl g2 rfl) ?_
      refine d_end (by kernel_rfl) ?_
      refine t_cond rfl (fun h6 => ?_) (fun h6 => ?_)
      ·
        have h6' := of_decide_eq_true h6
        refine t_seq ?_
        refine t_region ?_
        refine r_op (o_assign rfl rfl) ?_
        refine r_end ?_
        refine t_ret Tryd.func48 (.tmp rfl .nil) rfl fun E S w u hI hd => ?_
        refine post_mk hI hd ?_ trivial rfl rfl rfl <;> clear hI hd <;> (try clear ih0)
        all_goals first | rfl | (refine scB ?_; first | (rw [atom_no1 (by assumption)]; done) | (rw [atom_no2 (by simp only [IntKind.wrap_i64] at *; omega)]; done) | (rw [atom_no3 (by assumption) (by assumption)]; done) | (rw [atom_yes (by assumption) (by simp only [IntKind.wrap_i64] at *; omega) (by assumption) (by omega)]; done) | (rw [atom_yes (by assumption) (by simp only [IntKind.wrap_i64] at *; omega) (by assumption) (by omega), any_true (p := fun t => !termOk t) (by assumption) (by simp only [termOk, Bool.not_eq_true']; exact decide_eq_false (by assumption))]; rfl) | (rw [atom_yes (by assumption) (by simp only [IntKind.wrap_i64] at *; omega) (by assumption) (by omega), any_false (p := fun t => !termOk t) i2 (by omega)]; rfl))
      ·
        have h6' := of_decide_eq_false h6
        refine t_skip ?_
        refine t_seq ?_
        refine t_seq ?_
        refine t_region ?_
        refine r_op (o_assign rfl rfl) ?_
        refine r_end ?_
        refine t_block ?_
        refine t_loopL (fun m => ⟨[(3, some (.c (.ptr 0 0))), (5, some (.c (.t none (.v (.int .i64 ((m : Int)))))))], [(0, some (.box [.t none (.v (.int .i64 (r))), .t none (.sl 1 encI (ts))]))], 1⟩ : Nat → St) (fun m => m ≤ ts.length ∧ ∀ j z, j < m → ts[j]? = some z → (fun t => !termOk t) z = false) (fun m => ts.length - m) 0 ⟨⟨rfl, ⟨rfl, trivial⟩⟩, ⟨rfl, trivial⟩, rfl⟩ (by exact ⟨Nat.zero_le _, fun j z h => by omega⟩) ?_
        rintro m hI ih0
        try dsimp only at hI ih0
        obtain ⟨i1, i2⟩ := hI
        refine t_seq ?_
        refine t_seq ?_
        refine t_region ?_
        refine r_op (o_move rfl rfl) ?_
        refine r_op (o_fieldb rfl (off := 1) (by kernel_rfl) rfl) ?_
        refine r_op (o_load1b rfl (by kernel_rfl) rfl rfl rfl) ?_
        refine r_op (o_len rfl rfl rfl) ?_
        refine r_op (o_bin rfl rfl rfl rfl) ?_
        refine r_end ?_
        refine t_cond rfl (fun h7 => ?_) (fun h7 => ?_)
        ·
          have h7' := of_decide_eq_true h7
          refine t_skip ?_
          refine t_seq ?_
          refine t_block ?_
          refine t_seq ?_
          refine t_region ?_
          refine r_op (o_fieldb rfl (off := 1) (by kernel_rfl) rfl) ?_
          refine r_op (o_load1b rfl (by kernel_rfl) rfl rfl rfl) ?_
          refine r_op (o_move rfl rfl) ?_
          obtain ⟨z8, hz9, b10⟩ := at_get (xs := ts) (n := (m : Int)) (by first | omega | assumption | (simp; omega) | (simp only [IntKind.wrap_i64] at *; omega)) (by first | omega | assumption | (simp; omega) | (simp only [IntKind.wrap_i64] at *; omega))
          refine r_op (o_index rfl (by kernel_rfl) rfl rfl b10 hz9) ?_
          refine r_op (o_load1 rfl (by kernel_rfl) rfl rfl) ?_
          refine r_op (o_call 1 1 false (Go.Proofs.enters_of Tryd.func25 (by kernel_rfl) rfl) (c_spec_l1In (z8) (-10) (4)) rfl (.cons rfl (.c .t0) (.cons rfl (.c .t0) (.cons rfl (.c .t0) .nil))) rfl rfl rfl) ?_
          refine r_op (o_not rfl rfl) ?_
          refine r_end ?_
          refine t_cond rfl (fun h11 => ?_) (fun h11 => ?_)
          ·
            have h11' := of_decide_eq_false (bnt h11)
            refine t_seq ?_
            refine t_region ?_
            refine r_op (o_assign rfl rfl) ?_
            refine r_end ?_
            refine t_ret Tryd.func48 (.tmp rfl .nil) rfl fun E S w u hI hd => ?_
            refine post_mk hI hd ?_ trivial rfl rfl rfl <;> clear hI hd <;> (try clear ih0)
            all_goals first | rfl | (refine scB ?_; first | (rw [atom_no1 (by assumption)]; done) | (rw [atom_no2 (by simp only [IntKind.wrap_i64] at *; omega)]; done) | (rw [atom_no3 (by assumption) (by assumption)]; done) | (rw [atom_yes (by assumption) (by simp only [IntKind.wrap_i64] at *; omega) (by assumption) (by omega)]; done) | (rw [atom_yes (by assumption) (by simp only [IntKind.wrap_i64] at *; omega) (by assumption) (by omega), any_true (p := fun t => !termOk t) (by assumption) (by simp only [termOk, Bool.not_eq_true']; exact decide_eq_false (by assumption))]; rfl) | (rw [atom_yes (by assumption) (by simp only [IntKind.wrap_i64] at *; omega) (by assumption) (by omega), any_false (p := fun t => !termOk t) i2 (by omega)]; rfl))
          ·
            have h11' := of_decide_eq_true (bnf h11)
            refine t_skip ?_
            refine t_endblock ?_
            refine t_region ?_
            refine r_op (o_move rfl rfl) ?_
            refine r_op (o_bin rfl rfl rfl rfl) ?_
            refine r_op (o_assign rfl rfl) ?_
            refine r_end ?_
            refine t_le ?_ (ih0 (m + 1) (by (try dsimp only); omega) (by (try dsimp only); exact ⟨by omega, no_step i2 (by assumption) rfl (by simp only [termOk, Bool.not_eq_false']; exact decide_eq_true (by assumption))⟩))
            exact ⟨⟨rfl, ⟨(eqI (wr64 (by omega) (by omega))), trivial⟩⟩, ⟨rfl, trivial⟩, rfl⟩
        ·
          have h7' := of_decide_eq_false h7
          refine t_exit rfl ?_
          refine t_seq ?_
          refine t_region ?_
          refine r_op (o_assign rfl rfl) ?_
          refine r_end ?_
          refine t_ret Tryd.func48 (.tmp rfl .nil) rfl fun E S w u hI hd => ?_
          refine post_mk hI hd ?_ trivial rfl rfl rfl <;> clear hI hd <;> (try clear ih0)
          all_goals first | rfl | (refine scB ?_; first | (rw [atom_no1 (by assumption)]; done) | (rw [atom_no2 (by simp only [IntKind.wrap_i64] at *; omega)]; done) | (rw [atom_no3 (by assumption) (by assumption)]; done) | (rw [atom_yes (by assumption) (by simp only [IntKind.wrap_i64] at *; omega) (by assumption) (by omega)]; done) | (rw [atom_yes (by assumption) (by simp only [IntKind.wrap_i64] at *; omega) (by assumption) (by omega), any_true (p := fun t => !termOk t) (by assumption) (by simp only [termOk, Bool.not_eq_true']; exact decide_eq_false (by assumption))]; rfl) | (rw [atom_yes (by assumption) (by simp only [IntKind.wrap_i64] at *; omega) (by assumption) (by omega), any_false (p := fun t => !termOk t) i2 (by omega)]; rfl))
    ·
      have g2' := of_decide_eq_false (bnt g2)
      refine d_guard 14 rfl rfl (by kernel_rfl) (by kernel_rfl) (by kernel_rfl) rfl rfl (v := .c .top) (nc g2) (nc g2) (fun _ => ?_)
      refine d_guard 15 rfl rfl (by kernel_rfl) (by kernel_rfl) (by kernel_rfl) rfl rfl (v := .c .top) (nc g2) (nc g2) (fun _ => ?_)
      refine d_guard 16 rfl rfl (by kernel_rfl) (by kernel_rfl) (by kernel_rfl) rfl rfl (v := .c .top) (nc g2) (nc g2) (fun _ => ?_)
      refine d_guard 17 rfl rfl (by kernel_rfl) (by kernel_rfl) (by kernel_rfl) rfl rfl (v := .c .top) (nc g2) (nc g2) (fun _ => ?_)
      refine d_guard 18 rfl rfl (by kernel_rfl) (by kernel_rfl) (by kernel_rfl) rfl rfl (v := .c .top) (nc g2) (nc g2) (fun _ => ?_)
      refine d_guard 19 rfl rfl (by kernel_rfl) (by kernel_rfl) (by kernel_rfl) rfl rfl (v := .c .top) (nc g2) (nc g2) (fun _ => ?_)
      refine d_guard 20 rfl rfl (by kernel_rfl) (by kernel_rfl) (by kernel_rfl) rfl rfl (v := .c .top) (nc g2) (nc g2) (fun _ => ?_)
      refine d_guard 21 rfl rfl (by kernel_rfl) (by kernel_rfl) (by kernel_rfl) rfl rfl (v := .c .top) (nc g2) (nc g2) (fun _ => ?_)
      refine d_guard 22 rfl rfl (by kernel_rfl) (by kernel_rfl) (by kernel_rfl) rfl rfl (v := .c .top) (nc g2) (nc g2) (fun _ => ?_)
      refine d_take 23 rfl rfl (by kernel_rfl) (by kernel_rfl) (by kernel_rfl) (p_pickT rfl g2 rfl) ?_
      refine d_end (by kernel_rfl) ?_
      refine t_cond rfl (fun _ => ?_) (nc rfl)
      refine t_seq ?_
      refine t_region ?_
      refine r_op (o_assign rfl rfl) ?_
      refine r_end ?_
      refine t_ret Tryd.func48 (.tmp rfl .nil) rfl fun E S w u hI hd => ?_
      refine post_mk hI hd ?_ trivial rfl rfl rfl <;> clear hI hd <;> (try clear ih0)
      all_goals first | rfl | (refine scB ?_; first | (rw [atom_no1 (by assumption)]; done) | (rw [atom_no2 (by simp only [IntKind.wrap_i64] at *; omega)]; done) | (rw [atom_no3 (by assumption) (by assumption)]; done) | (rw [atom_yes (by assumption) (by simp only [IntKind.wrap_i64] at *; omega) (by assumption) (by omega)]; done) | (rw [atom_yes (by assumption) (by simp only [IntKind.wrap_i64] at *; omega) (by assumption) (by omega), any_true (p := fun t => !termOk t) (by assumption) (by simp only [termOk, Bool.not_eq_true']; exact decide_eq_false (by assumption))]; rfl) | (rw [atom_yes (by assumption) (by simp only [IntKind.wrap_i64] at *; omega) (by assumption) (by omega), any_false (p := fun t => !termOk t) i2 (by omega)]; rfl))
  ·
    have g1' := (bnt g1)
    refine d_guard 5 rfl rfl (by kernel_rfl) (by kernel_rfl) (by kernel_rfl) rfl rfl (v := .c .top) (nc g1) (nc g1) (fun _ => ?_)
    refine d_guard 6 rfl rfl (by kernel_rfl) (by kernel_rfl) (by kernel_rfl) rfl rfl (v := .c .top) (nc g1) (nc g1) (fun _ => ?_)
    refine d_guard 7 rfl rfl (by kernel_rfl) (by kernel_rfl) (by kernel_rfl) rfl rfl (v := .c .top) (nc g1) (nc g1) (fun _ => ?_)
    refine d_guard 8 rfl rfl (by kernel_rfl) (by kernel_rfl) (by kernel_rfl) rfl rfl (v := .c .top) (nc g1) (nc g1) (fun _ => ?_)
    refine d_guard 9 rfl rfl (by kernel_rfl) (by kernel_rfl) (by kernel_rfl) rfl rfl (v := .c .top) (nc g1) (nc g1) (fun _ => ?_)
    refine d_guard 10 rfl rfl (by kernel_rfl) (by kernel_rfl) (by kernel_rfl) rfl rfl (v := .c .top) (nc g1) (nc g1) (fun _ => ?_)
    refine d_take 11 rfl rfl (by kernel_rfl) (by kernel_rfl) (by kernel_rfl) (p_pickT rfl g1 rfl) ?_
    refine d_take 12 rfl rfl (by kernel_rfl) (by kernel_rfl) (by kernel_rfl) (p_move rfl) ?_
    refine d_guard 13 rfl rfl (by kernel_rfl) (by kernel_rfl) (by kernel_rfl) rfl rfl (v := .c .top) (nc rfl) (nc rfl) (fun _ => ?_)
    refine d_guard 14 rfl rfl (by kernel_rfl) (by kernel_rfl) (by kernel_rfl) rfl rfl (v := .c .top) (nc rfl) (nc rfl) (fun _ => ?_)
    refine d_guard 15 rfl rfl (by kernel_rfl) (by kernel_rfl) (by kernel_rfl) rfl rfl (v := .c .top) (nc rfl) (nc rfl) (fun _ => ?_)
    refine d_guard 16 rfl rfl (by kernel_rfl) (by kernel_rfl) (by kernel_rfl) rfl rfl (v := .c .top) (nc rfl) (nc rfl) (fun _ => ?_)
    refine d_guard 17 rfl rfl (by kernel_rfl) (by kernel_rfl) (by kernel_rfl) rfl rfl (v := .c .top) (nc rfl) (nc rfl) (fun _ => ?_)
    refine d_guard 18 rfl rfl (by kernel_rfl) (by kernel_rfl) (by kernel_rfl) rfl rfl (v := .c .top) (nc rfl) (nc rfl) (fun _ => ?_)
    refine d_guard 19 rfl rfl (by kernel_rfl) (by kernel_rfl) (by kernel_rfl) rfl rfl (v := .c .top) (nc rfl) (nc rfl) (fun _ => ?_)
    refine d_guard 20 rfl rfl (by kernel_rfl) (by kernel_rfl) (by kernel_rfl) rfl rfl (v := .c .top) (nc rfl) (nc rfl) (fun _ => ?_)
    refine d_guard 21 rfl rfl (by kernel_rfl) (by kernel_rfl) (by kernel_rfl) rfl rfl (v := .c .top) (nc rfl) (nc rfl) (fun _ => ?_)
    refine d_guard 22 rfl rfl (by kernel_rfl) (by kernel_rfl) (by kernel_rfl) rfl rfl (v := .c .top) (nc rfl) (nc rfl) (fun _ => ?_)
    refine d_take 23 rfl rfl (by kernel_rfl) (by kernel_rfl) (by kernel_rfl) (p_pickT rfl rfl rfl) ?_
    refine d_end (by kernel_rfl) ?_
    refine t_cond rfl (fun _ => ?_) (nc rfl)
    refine t_seq ?_
    refine t_region ?_
    refine r_op (o_assign rfl rfl) ?_
    refine r_end ?_
    refine t_ret Tryd.func48 (.tmp rfl .nil) rfl fun E S w u hI hd => ?_
    refine post_mk hI hd ?_ trivial rfl rfl rfl <;> clear hI hd <;> (try clear ih0)
    all_goals first | rfl | (refine scB ?_; first | (rw [atom_no1 (by assumption)]; done) | (rw [atom_no2 (by simp only [IntKind.wrap_i64] at *; omega)]; done) | (rw [atom_no3 (by assumption) (by assumption)]; done) | (rw [atom_yes (by assumption) (by simp only [IntKind.wrap_i64] at *; omega) (by assumption) (by omega)]; done) | (rw [atom_yes (by assumption) (by simp only [IntKind.wrap_i64] at *; omega) (by assumption) (by omega), any_true (p := fun t => !termOk t) (by assumption) (by simp only [termOk, Bool.not_eq_true']; exact decide_eq_false (by assumption))]; rfl) | (rw [atom_yes (by assumption) (by simp only [IntKind.wrap_i64] at *; omega) (by assumption) (by omega), any_false (p := fun t => !termOk t) i2 (by omega)]; rfl))
set_option maxHeartbeats 1000000 in
set_option maxRecDepth 10000 in
theorem c_spec_l4Has (l : List Int) (v : Int) (hl : l.length ≤ 4611686018427387904) : Pu Tryd.prog 45 [.c (.t none (.sl 1 encI (l))), .c (.t none (.v (.int .i64 (v))))] [] 0 (.c (.t none (.v (.bool (hasI l v))))) := by
  refine pu_enter Tryd.func45 rfl (Nat.le_of_ble_eq_true rfl) fun w S => ?_
  refine t_seq ?_
  refine t_region ?_
  refine r_op (o_assign rfl rfl) ?_
  refine r_end ?_
  refine t_seq ?_
  refine t_seq ?_
  refine t_region ?_
  refine r_op (o_assign rfl rfl) ?_
  refine r_end ?_
  refine t_block ?_
  refine t_loopL (fun m => ⟨[(0, some (.c (.t none (.sl 1 encI (l))))), (1, some (.c (.t none (.v (.int .i64 (v)))))), (5, some (.c (.t none (.v (.int .i64 ((m : Int)))))))], [], 0⟩ : Nat → St) (fun m => m ≤ l.length ∧ ∀ j z, j < m → l[j]? = some z → (fun y => decide (y = v)) z = false) (fun m => l.length - m) 0 ⟨⟨rfl, ⟨rfl, ⟨rfl, trivial⟩⟩⟩, trivial, rfl⟩ (by exact ⟨Nat.zero_le _, fun j z h => by omega⟩) ?_
  rintro m hI ih0
  try dsimp only at hI ih0
  obtain ⟨i1, i2⟩ := hI
  refine t_seq ?_
  refine t_seq ?_
  refine t_region ?_
  refine r_op (o_move rfl rfl) ?_
  refine r_op (o_move rfl rfl) ?_
  refine r_op (o_len rfl rfl rfl) ?_
  refine r_op (o_bin rfl rfl rfl rfl) ?_
  refine r_end ?_
  refine t_cond rfl (fun h1 => ?_) (fun h1 => ?_)
  ·
    have h1' := of_decide_eq_true h1
    refine t_skip ?_
    refine t_seq ?_
    refine t_block ?_
    refine t_seq ?_
    refine t_region ?_
    refine r_op (o_move rfl rfl) ?_
    refine r_op (o_move rfl rfl) ?_
    obtain ⟨z2, hz3, b4⟩ := at_get (xs := l) (n := (m : Int)) (by first | omega | (simp; omega)) (by first | omega | (simp; omega))
    refine r_op (o_index rfl (by kernel_rfl) rfl rfl b4 hz3) ?_
    refine r_op (o_load1 rfl (by kernel_rfl) rfl rfl) ?_
    refine r_op (o_move rfl rfl) ?_
    refine r_op (o_bin rfl rfl rfl rfl) ?_
    refine r_end ?_
    refine t_cond rfl (fun h5 => ?_) (fun h5 => ?_)
    ·
      have h5' := of_decide_eq_true h5
      refine t_seq ?_
      refine t_region ?_
      refine r_op (o_assign rfl rfl) ?_
      refine r_end ?_
      refine t_ret Tryd.func45 (.tmp rfl .nil) rfl fun E S w u hI hd => ?_
      refine post_mk hI hd ?_ trivial rfl rfl rfl <;> clear hI hd <;> (try clear ih0)
      all_goals first | rfl | (refine scB ?_; exact (any_true (p := fun y => decide (y = v)) (by assumption) (decide_eq_true (by omega))).symm)
    ·
      have h5' := of_decide_eq_false h5
      refine t_skip ?_
      refine t_endblock ?_
      refine t_region ?_
      refine r_op (o_move rfl rfl) ?_
      refine r_op (o_bin rfl rfl rfl rfl) ?_
      refine r_op (o_assign rfl rfl) ?_
      refine r_end ?_
      refine t_le ?_ (ih0 (m + 1) (by (try dsimp only); omega) (by (try dsimp only); exact ⟨by omega, no_step i2 (by assumption) rfl (decide_eq_false (by omega))⟩))
      exact ⟨⟨rfl, ⟨rfl, ⟨(eqI (wr64 (by omega) (by omega))), trivial⟩⟩⟩, trivial, rfl⟩
  ·
    have h1' := of_decide_eq_false h1
    refine t_exit rfl ?_
    refine t_seq ?_
    refine t_region ?_
    refine r_op (o_assign rfl rfl) ?_
    refine r_end ?_
    refine t_ret Tryd.func45 (.tmp rfl .nil) rfl fun E S w u hI hd => ?_
    refine post_mk hI hd ?_ trivial rfl rfl rfl <;> clear hI hd <;> (try clear ih0)
    all_goals first | rfl | (refine scB ?_; exact (any_false (p := fun y => decide (y = v)) i2 (by omega)).symm)
set_option maxHeartbeats 1000000 in
set_option maxRecDepth 10000 in
theorem c_spec_IsValidDependency (rs : Rels) (a0 : List (Int × (List (Int)))) (a1 : List (Int × (List (Int)))) (a2 : Bool) (a3 : Int) (a4 : Int) (hrs : rs.length ≤ 4611686018427387904) (hs : szS (fun (x : Int × (List (Int))) => (x.2).length) a0 + szS (fun (x : Int × (List (Int))) => (x.2).length) a1 ≤ 1048576) : Pu Tryd.prog 43 [.c (.t none (.sl 3 (enS3 encS encI encB) (rs))), .agg [.t none (.sl 2 (enS2 encI (enSl 1 encI)) (a0)), .t none (.sl 2 (enS2 encI (enSl 1 encI)) (a1)), .t none (.v (.bool (a2))), .t none (.v (.int .i64 (a3))), .t none (.v (.int .i64 (a4)))]] [] 0 (.c (.t none (.v (.bool (depOk rs a0 a1 a2 a3 a4))))) := by
  refine pu_enter Tryd.func43 rfl (Nat.le_of_ble_eq_true rfl) fun w S => ?_
  have g0 := sz_len (f := (fun (x : Int × (List (Int))) => (x.2).length)) (l := a0); have g1 := sz_len (f := (fun (x : Int × (List (Int))) => (x.2).length)) (l := a1); have v0 := setI_len (varsL a0); have v1 := varsL_size a0
  refine t_seq ?_
  refine t_region ?_
  refine r_op (o_box 0 rfl rfl rfl rfl) ?_
  refine r_op (o_assign rfl rfl) ?_
  refine r_end ?_
  refine t_seq ?_
  refine t_seq ?_
  refine t_region ?_
  refine r_op (o_fieldb rfl (off := 0) (by kernel_rfl) rfl) ?_
  refine r_op (o_load1b rfl (by kernel_rfl) rfl rfl rfl) ?_
  refine r_op (o_len rfl rfl rfl) ?_
  refine r_op (o_call 1 1 false (Go.Proofs.enters_of Tryd.func25 (by kernel_rfl) rfl) (c_spec_l1In (((a0).length : Int)) (1) (2)) rfl (.cons rfl (.c .t0) (.cons rfl (.c .t0) (.cons rfl (.c .t0) .nil))) rfl rfl rfl) ?_
  refine r_op (o_not rfl rfl) ?_
  refine r_end ?_
  refine t_cond rfl (fun h1 => ?_) (fun h1 => ?_)
  ·
    have h1' := of_decide_eq_false (bnt h1)
    refine t_seq ?_
    refine t_region ?_
    refine r_op (o_assign rfl rfl) ?_
    refine r_end ?_
    refine t_ret Tryd.func43 (.tmp rfl .nil) rfl fun E S w u hI hd => ?_
    refine post_mk hI hd ?_ trivial rfl rfl rfl <;> clear hI hd <;> (try clear ih0) <;> (try clear ih1)
    all_goals first | rfl | (refine scB ?_; (try (have qA := iA (by omega))); (try (have qK := kA (by omega))); (try (have qB := any_true (p := badA rs) (l := a0) (m := m) (by assumption) (by unfold badA; grind))); (try (have qC := any_true (p := badA rs) (l := a1) (m := n) (by assumption) (by unfold badA; grind))); (try (have qS := srcA_at (rs := rs) (r := (by assumption).1) (ts := (by assumption).2) (by assumption); have qD := any_true (p := srcA rs) (l := a1) (m := n) (by assumption) (by grind))); clear hs g0 g1 v0 v1; unfold depOk atomsOk; grind)
  ·
    have h1' := of_decide_eq_true (bnf h1)
    refine t_skip ?_
    refine t_seq ?_
    refine t_seq ?_
    refine t_region ?_
    refine r_op (o_assign rfl rfl) ?_
    refine r_end ?_
    refine t_block ?_
    refine t_loopL (fun m => ⟨[(0, some (.c (.t none (.sl 3 (enS3 encS encI encB) (rs))))), (3, some (.c (.ptr 0 0))), (5, some (.c (.t none (.v (.int .i64 ((m : Int)))))))], [(0, some (.box [.t none (.sl 2 (enS2 encI (enSl 1 encI)) (a0)), .t none (.sl 2 (enS2 encI (enSl 1 encI)) (a1)), .t none (.v (.bool (a2))), .t none (.v (.int .i64 (a3))), .t none (.v (.int .i64 (a4)))]))], 1⟩ : Nat → St) (fun m => m ≤ a0.length ∧ ∀ j z, j < m → a0[j]? = some z → badA rs z = false) (fun m => a0.length - m) 0 ⟨⟨rfl, ⟨rfl, ⟨rfl, trivial⟩⟩⟩, ⟨rfl, trivial⟩, rfl⟩ (by exact ⟨Nat.zero_le _, fun j z h => by omega⟩) ?_
    rintro m hI ih0
    try dsimp only at hI ih0
    obtain ⟨i1, i2⟩ := hI; have iA : a0.length ≤ m → a0.any (badA rs) = false := fun e => any_false i2 e
    refine t_seq ?_
    refine t_seq ?_
    refine t_region ?_
    refine r_op (o_move rfl rfl) ?_
    refine r_op (o_fieldb rfl (off := 0) (by kernel_rfl) rfl) ?_
    refine r_op (o_load1b rfl (by kernel_rfl) rfl rfl rfl) ?_
    refine r_op (o_len rfl rfl rfl) ?_
    refine r_op (o_bin rfl rfl rfl rfl) ?_
    refine r_end ?_
    refine t_cond rfl (fun h2 => ?_) (fun h2 => ?_)
    ·
      have h2' := of_decide_eq_true h2
      refine t_skip ?_
      refine t_seq ?_
      refine t_block ?_
      refine t_seq ?_
      refine t_region ?_
      refine r_op (o_move rfl rfl) ?_
      refine r_op (o_fieldb rfl (off := 0) (by kernel_rfl) rfl) ?_
      refine r_op (o_load1b rfl (by kernel_rfl) rfl rfl rfl) ?_
      refine r_op (o_move rfl rfl) ?_
      obtain ⟨z3, hz4, b5⟩ := at_get (xs := a0) (n := (m : Int)) (by first | omega | assumption | (have e1 := sz_at (f := (fun (x : Int × (List (Int))) => (x.2).length)) (l := a0) (m := m) (by assumption); (try dsimp only at e1); omega) | (have e1 := sz_at (f := (fun (x : Int × (List (Int))) => (x.2).length)) (l := a1) (m := n) (by assumption); (try dsimp only at e1); omega) | exact (atom_idx (by assumption)).1 | exact (atom_idx (by assumption)).2) (by first | omega | assumption | (have e1 := sz_at (f := (fun (x : Int × (List (Int))) => (x.2).length)) (l := a0) (m := m) (by assumption); (try dsimp only at e1); omega) | (have e1 := sz_at (f := (fun (x : Int × (List (Int))) => (x.2).length)) (l := a1) (m := n) (by assumption); (try dsimp only at e1); omega) | exact (atom_idx (by assumption)).1 | exact (atom_idx (by assumption)).2)
      refine r_op (o_index rfl (by kernel_rfl) rfl rfl b5 hz4) ?_
      refine r_op (o_loadA rfl (n := 2) (by kernel_rfl) (by kernel_rfl) rfl rfl) ?_
      refine r_op (o_call 1 1 false (Go.Proofs.enters_of Tryd.func48 (by kernel_rfl) rfl) (c_spec_IsValidAtom (rs) (z3.1) (z3.2) (by first | omega | assumption | (have e1 := sz_at (f := (fun (x : Int × (List (Int))) => (x.2).length)) (l := a0) (m := m) (by assumption); (try dsimp only at e1); omega) | (have e1 := sz_at (f := (fun (x : Int × (List (Int))) => (x.2).length)) (l := a1) (m := n) (by assumption); (try dsimp only at e1); omega) | exact (atom_idx (by assumption)).1 | exact (atom_idx (by assumption)).2) (by first | omega | assumption | (have e1 := sz_at (f := (fun (x : Int × (List (Int))) => (x.2).length)) (l := a0) (m := m) (by assumption); (try dsimp only at e1); omega) | (have e1 := sz_at (f := (fun (x : Int × (List (Int))) => (x.2).length)) (l := a1) (m := n) (by assumption); (try dsimp only at e1); omega) | exact (atom_idx (by assumption)).1 | exact (atom_idx (by assumption)).2)) rfl (.cons rfl (.c .t0) (.cons rfl (.agg (.cons .t0 (.cons .t0 .nil))) .nil)) rfl rfl rfl) ?_
      refine r_op (o_not rfl rfl) ?_
      refine r_end ?_
      refine t_cond rfl (fun h6 => ?_) (fun h6 => ?_)
      ·
        have h6' := (bnt h6)
        refine t_seq ?_
        refine t_region ?_
        refine r_op (o_assign rfl rfl) ?_
        refine r_end ?_
        refine t_ret Tryd.func43 (.tmp rfl .nil) rfl fun E S w u hI hd => ?_
        refine post_mk hI hd ?_ trivial rfl rfl rfl <;> clear hI hd <;> (try clear ih0) <;> (try clear ih1)
        all_goals first | rfl | (refine scB ?_; (try (have qA := iA (by omega))); (try (have qK := kA (by omega))); (try (have qB := any_true (p := badA rs) (l := a0) (m := m) hz4 (by unfold badA; grind))); (try (have qC := any_true (p := badA rs) (l := a1) (m := n) hz4 (by unfold badA; grind))); (try (have qS := srcA_at (rs := rs) (r := z3.1) (ts := z3.2) (by assumption); have qD := any_true (p := srcA rs) (l := a1) (m := n) hz4 (by grind))); clear hs g0 g1 v0 v1; unfold depOk atomsOk; grind)
      ·
        have h6' := (bnf h6)
        refine t_skip ?_
        refine t_endblock ?_
        refine t_region ?_
        refine r_op (o_move rfl rfl) ?_
        refine r_op (o_bin rfl rfl rfl rfl) ?_
        refine r_op (o_assign rfl rfl) ?_
        refine r_end ?_
        refine t_le ?_ (ih0 (m + 1) (by (try dsimp only); omega) (by (try dsimp only); exact ⟨by omega, no_step i2 (by assumption) rfl (by unfold badA; grind)⟩))
        exact ⟨⟨rfl, ⟨rfl, ⟨(eqI (wr64 (by omega) (by omega))), trivial⟩⟩⟩, ⟨rfl, trivial⟩, rfl⟩
    ·
      have h2' := of_decide_eq_false h2
      refine t_exit rfl ?_
      refine t_seq ?_
      refine t_seq ?_
      refine t_region ?_
      refine r_op (o_fieldb rfl (off := 2) (by kernel_rfl) rfl) ?_
      refine r_op (o_load1b rfl (by kernel_rfl) rfl rfl rfl) ?_
      refine r_end ?_
      refine t_cond rfl (fun h7 => ?_) (fun h7 => ?_)
      ·
        have h7' := h7
        refine t_seq ?_
        refine t_region ?_
        refine r_op (o_fieldb rfl (off := 0) (by kernel_rfl) rfl) ?_
        refine r_op (o_load1b rfl (by kernel_rfl) rfl rfl rfl) ?_
        refine r_op (o_call 1 2 false (Go.Proofs.enters_of Tryd.func44 (by kernel_rfl) rfl) (c_spec_Variables (a0) (by first | omega | assumption | (have e1 := sz_at (f := (fun (x : Int × (List (Int))) => (x.2).length)) (l := a0) (m := m) (by assumption); (try dsimp only at e1); omega) | (have e1 := sz_at (f := (fun (x : Int × (List (Int))) => (x.2).length)) (l := a1) (m := n) (by assumption); (try dsimp only at e1); omega) | exact (atom_idx (by assumption)).1 | exact (atom_idx (by assumption)).2)) rfl (.cons rfl (.c .t0) .nil) rfl rfl rfl) ?_
        refine r_op (o_assign rfl rfl) ?_
        refine r_end ?_
        refine t_seq ?_
        refine t_region ?_
        refine r_op (o_fieldb rfl (off := 1) (by kernel_rfl) rfl) ?_
        refine r_op (o_load1b rfl (by kernel_rfl) rfl rfl rfl) ?_
        refine r_op (o_len rfl rfl rfl) ?_
        refine r_op (o_bin rfl rfl rfl rfl) ?_
        refine r_op (o_move rfl rfl) ?_
        refine r_guard rfl rfl rfl (fun g8 => ?_) (fun g8 => ?_)
        ·
          have g8' := of_decide_eq_true g8
          refine r_op (o_move rfl rfl) ?_
          refine r_guard rfl rfl rfl (fun _ => ?_) (nc g8)
          refine r_op (o_fieldb rfl (off := 3) (by kernel_rfl) rfl) ?_
          refine r_guard rfl rfl rfl (fun _ => ?_) (nc g8)
          refine r_op (o_load1b rfl (by kernel_rfl) rfl rfl rfl) ?_
          refine r_guard rfl rfl rfl (fun _ => ?_) (nc g8)
          refine r_op (o_call 2 2 false (Go.Proofs.enters_of Tryd.func45 (by kernel_rfl) rfl) (c_spec_l4Has (setI (varsL (a0))) (a3) (by first | omega | assumption | (have e1 := sz_at (f := (fun (x : Int × (List (Int))) => (x.2).length)) (l := a0) (m := m) (by assumption); (try dsimp only at e1); omega) | (have e1 := sz_at (f := (fun (x : Int × (List (Int))) => (x.2).length)) (l := a1) (m := n) (by assumption); (try dsimp only at e1); omega) | exact (atom_idx (by assumption)).1 | exact (atom_idx (by assumption)).2)) rfl (.cons rfl (.c (.own rfl)) (.cons rfl (.c .t0) .nil)) rfl rfl rfl) ?_
          refine r_op (o_pickT rfl rfl g8 rfl) ?_
          refine r_op (o_move rfl rfl) ?_
          refine r_guard rfl rfl rfl (fun g9 => ?_) (fun g9 => ?_)
          ·
            have g9' := g9
            refine r_op (o_move rfl rfl) ?_
            refine r_guard rfl rfl rfl (fun _ => ?_) (nc g9)
            refine r_op (o_fieldb rfl (off := 4) (by kernel_rfl) rfl) ?_
            refine r_guard rfl rfl rfl (fun _ => ?_) (nc g9)
            refine r_op (o_load1b rfl (by kernel_rfl) rfl rfl rfl) ?_
            refine r_guard rfl rfl rfl (fun _ => ?_) (nc g9)
            refine r_op (o_call 2 2 false (Go.Proofs.enters_of Tryd.func45 (by kernel_rfl) rfl) (c_spec_l4Has (setI (varsL (a0))) (a4) (by first | omega | assumption | (have e1 := sz_at (f := (fun (x : Int × (List (Int))) => (x.2).length)) (l := a0) (m := m) (by assumption); (try dsimp only at e1); omega) | (have e1 := sz_at (f := (fun (x : Int × (List (Int))) => (x.2).length)) (l := a1) (m := n) (by assumption); (try dsimp only at e1); omega) | exact (atom_idx (by assumption)).1 | exact (atom_idx (by assumption)).2)) rfl (.cons rfl (.c (.own rfl)) (.cons rfl (.c .t0) .nil)) rfl rfl rfl) ?_
            refine r_op (o_pickT rfl rfl g9 rfl) ?_
            refine r_op (o_move rfl rfl) ?_
            refine r_guard rfl rfl rfl (fun g10 => ?_) (fun g10 => ?_)
            ·
              have g10' := g10
              refine r_op (o_fieldb rfl (off := 3) (by kernel_rfl) rfl) ?_
              refine r_guard rfl rfl rfl (fun _ => ?_) (nc g10)
              refine r_op (o_load1b rfl (by kernel_rfl) rfl rfl rfl) ?_
              refine r_guard rfl rfl rfl (fun _ => ?_) (nc g10)
              refine r_op (o_fieldb rfl (off := 4) (by kernel_rfl) rfl) ?_
              refine r_guard rfl rfl rfl (fun _ => ?_) (nc g10)
              refine r_op (o_load1b rfl (by kernel_rfl) rfl rfl rfl) ?_
              refine r_guard rfl rfl rfl (fun _ => ?_) (nc g10)
              refine r_op (o_bin rfl rfl rfl rfl) ?_
              refine r_op (o_pickT rfl rfl g10 rfl) ?_
              refine r_op (o_assign rfl rfl) ?_
              refine r_end ?_
              refine t_ret Tryd.func43 (.tmp rfl .nil) rfl fun E S w u hI hd => ?_
              refine post_mk hI hd ?_ trivial rfl rfl rfl <;> clear hI hd <;> (try clear ih0) <;> (try clear ih1)
              all_goals first | rfl | (refine scB ?_; (try (have qA := iA (by omega))); (try (have qK := kA (by omega))); (try (have qB := any_true (p := badA rs) (l := a0) (m := m) (by assumption) (by unfold badA; grind))); (try (have qC := any_true (p := badA rs) (l := a1) (m := n) (by assumption) (by unfold badA; grind))); (try (have qS := srcA_at (rs := rs) (r := (by assumption).1) (ts := (by assumption).2) (by assumption); have qD := any_true (p := srcA rs) (l := a1) (m := n) (by assumption) (by grind))); clear hs g0 g1 v0 v1; unfold depOk atomsOk; grind)
            ·
              have g10' := g10
              refine r_guard rfl rfl rfl (ncf g10) (fun _ => ?_)
              refine r_guard rfl rfl rfl (ncf g10) (fun _ => ?_)
              refine r_guard rfl rfl rfl (ncf g10) (fun _ => ?_)
              refine r_guard rfl rfl rfl (ncf g10) (fun _ => ?_)
              refine r_op (o_pickF rfl rfl g10 rfl) ?_
              refine r_op (o_assign rfl rfl) ?_
              refine r_end ?_
              refine t_ret Tryd.func43 (.tmp rfl .nil) rfl fun E S w u hI hd => ?_
              refine post_mk hI hd ?_ trivial rfl rfl rfl <;> clear hI hd <;> (try clear ih0) <;> (try clear ih1)
              all_goals first | rfl | (refine scB ?_; (try (have qA := iA (by omega))); (try (have qK := kA (by omega))); (try (have qB := any_true (p := badA rs) (l := a0) (m := m) (by assumption) (by unfold badA; grind))); (try (have qC := any_true (p := badA rs) (l := a1) (m := n) (by assumption) (by unfold badA; grind))); (try (have qS := srcA_at (rs := rs) (r := (by assumption).1) (ts := (by assumption).2) (by assumption); have qD := any_true (p := srcA rs) (l := a1) (m := n) (by assumption) (by grind))); clear hs g0 g1 v0 v1; unfold depOk atomsOk; grind)
          ·
            have g9' := g9
            refine r_guard rfl rfl rfl (ncf g9) (fun _ => ?_)
            refine r_guard rfl rfl rfl (ncf g9) (fun _ => ?_)
            refine r_guard rfl rfl rfl (ncf g9) (fun _ => ?_)
            refine r_op (o_pickF rfl rfl g9 rfl) ?_
            refine r_op (o_move rfl rfl) ?_
            refine r_guard rfl rfl rfl (ncf rfl) (fun _ => ?_)
            refine r_guard rfl rfl rfl (ncf rfl) (fun _ => ?_)
            refine r_guard rfl rfl rfl (ncf rfl) (fun _ => ?_)
            refine r_guard rfl rfl rfl (ncf rfl) (fun _ => ?_)
            refine r_guard rfl rfl rfl (ncf rfl) (fun _ => ?_)
            refine r_op (o_pickF rfl rfl rfl rfl) ?_
            refine r_op (o_assign rfl rfl) ?_
            refine r_end ?_
            refine t_ret Tryd.func43 (.tmp rfl .nil) rfl fun E S w u hI hd => ?_
            refine post_mk hI hd ?_ trivial rfl rfl rfl <;> clear hI hd <;> (try clear ih0) <;> (try clear ih1)
            all_goals first | rfl | (refine scB ?_; (try (have qA := iA (by omega))); (try (have qK := kA (by omega))); (try (have qB := any_true (p := badA rs) (l := a0) (m := m) (by assumption) (by unfold badA; grind))); (try (have qC := any_true (p := badA rs) (l := a1) (m := n) (by assumption) (by unfold badA; grind))); (try (have qS := srcA_at (rs := rs) (r := (by assumption).1) (ts := (by assumption).2) (by assumption); have qD := any_true (p := srcA rs) (l := a1) (m := n) (by assumption) (by grind))); clear hs g0 g1 v0 v1; unfold depOk atomsOk; grind)
        ·
          have g8' := of_decide_eq_false g8
          refine r_guard rfl rfl rfl (ncf g8) (fun _ => ?_)
          refine r_guard rfl rfl rfl (ncf g8) (fun _ => ?_)
          refine r_guard rfl rfl rfl (ncf g8) (fun _ => ?_)
          refine r_op (o_pickF rfl rfl g8 rfl) ?_
          refine r_op (o_move rfl rfl) ?_
          refine r_guard rfl rfl rfl (ncf rfl) (fun _ => ?_)
          refine r_guard rfl rfl rfl (ncf rfl) (fun _ => ?_)
          refine r_guard rfl rfl rfl (ncf rfl) (fun _ => ?_)
          refine r_guard rfl rfl rfl (ncf rfl) (fun _ => ?_)
          refine r_op (o_pickF rfl rfl rfl rfl) ?_
          refine r_op (o_move rfl rfl) ?_
          refine r_guard rfl rfl rfl (ncf rfl) (fun _ => ?_)
          refine r_guard rfl rfl rfl (ncf rfl) (fun _ => ?_)
          refine r_guard rfl rfl rfl (ncf rfl) (fun _ => ?_)
          refine r_guard rfl rfl rfl (ncf rfl) (fun _ => ?_)
          refine r_guard rfl rfl rfl (ncf rfl) (fun _ => ?_)
          refine r_op (o_pickF rfl rfl rfl rfl) ?_
          refine r_op (o_assign rfl rfl) ?_
          refine r_end ?_
          refine t_ret Tryd.func43 (.tmp rfl .nil) rfl fun E S w u hI hd => ?_
          refine post_mk hI hd ?_ trivial rfl rfl rfl <;> clear hI hd <;> (try clear ih0) <;> (try clear ih1)
          all_goals first | rfl | (refine scB ?_; (try (have qA := iA (by omega))); (try (have qK := kA (by omega))); (try (have qB := any_true (p := badA rs) (l := a0) (m := m) (by assumption) (by unfold badA; grind))); (try (have qC := any_true (p := badA rs) (l := a1) (m := n) (by assumption) (by unfold badA; grind))); (try (have qS := srcA_at (rs := rs) (r := (by assumption).1) (ts := (by assumption).2) (by assumption); have qD := any_true (p := srcA rs) (l := a1) (m := n) (by assumption) (by grind))); clear hs g0 g1 v0 v1; unfold depOk atomsOk; grind)
      ·
        have h7' := h7
        refine t_skip ?_
        refine t_seq ?_
        refine t_seq ?_
        refine t_region ?_
        refine r_op (o_assign rfl rfl) ?_
        refine r_end ?_
        refine t_block ?_
        refine t_loopL (fun n => ⟨[(0, some (.c (.t none (.sl 3 (enS3 encS encI encB) (rs))))), (3, some (.c (.ptr 0 0))), (7, some (.c (.t none (.v (.int .i64 ((n : Int)))))))], [(0, some (.box [.t none (.sl 2 (enS2 encI (enSl 1 encI)) (a0)), .t none (.sl 2 (enS2 encI (enSl 1 encI)) (a1)), .t none (.v (.bool (a2))), .t none (.v (.int .i64 (a3))), .t none (.v (.int .i64 (a4)))]))], 1⟩ : Nat → St) (fun n => n ≤ a1.length ∧ ∀ j z, j < n → a1[j]? = some z → (badA rs z || srcA rs z) = false) (fun n => a1.length - n) 0 ⟨⟨rfl, ⟨rfl, ⟨rfl, trivial⟩⟩⟩, ⟨rfl, trivial⟩, rfl⟩ (by exact ⟨Nat.zero_le _, fun j z h => by omega⟩) ?_
        rintro n hI ih1
        try dsimp only at hI ih1
        obtain ⟨k1, k2⟩ := hI; (have kA : a1.length ≤ n → a1.any (badA rs) = false ∧ a1.any (srcA rs) = false := fun e => ⟨any_false (fun j z h h2 => by have := k2 j z h h2; simp_all) e, any_false (fun j z h h2 => by have := k2 j z h h2; simp_all) e⟩)
        refine t_seq ?_
        refine t_seq ?_
        refine t_region ?_
        refine r_op (o_move rfl rfl) ?_
        refine r_op (o_fieldb rfl (off := 1) (by kernel_rfl) rfl) ?_
        refine r_op (o_load1b rfl (by kernel_rfl) rfl rfl rfl) ?_
        refine r_op (o_len rfl rfl rfl) ?_
        refine r_op (o_bin rfl rfl rfl rfl) ?_
        refine r_end ?_
        refine t_cond rfl (fun h11 => ?_) (fun h11 => ?_)
        ·
          have h11' := of_decide_eq_true h11
          refine t_skip ?_
          refine t_seq ?_
          refine t_block ?_
          refine t_seq ?_
          refine t_region ?_
          refine r_op (o_move rfl rfl) ?_
          refine r_op (o_fieldb rfl (off := 1) (by kernel_rfl) rfl) ?_
          refine r_op (o_load1b rfl (by kernel_rfl) rfl rfl rfl) ?_
          refine r_op (o_move rfl rfl) ?_
          obtain ⟨z12, hz13, b14⟩ := at_get (xs := a1) (n := (n : Int)) (by first | omega | assumption | (have e1 := sz_at (f := (fun (x : Int × (List (Int))) => (x.2).length)) (l := a0) (m := m) (by assumption); (try dsimp only at e1); omega) | (have e1 := sz_at (f := (fun (x : Int × (List (Int))) => (x.2).length)) (l := a1) (m := n) (by assumption); (try dsimp only at e1); omega) | exact (atom_idx (by assumption)).1 | exact (atom_idx (by assumption)).2) (by first | omega | assumption | (have e1 := sz_at (f := (fun (x : Int × (List (Int))) => (x.2).length)) (l := a0) (m := m) (by assumption); (try dsimp only at e1); omega) | (have e1 := sz_at (f := (fun (x : Int × (List (Int))) => (x.2).length)) (l := a1) (m := n) (by assumption); (try dsimp only at e1); omega) | exact (atom_idx (by assumption)).1 | exact (atom_idx (by assumption)).2)
          refine r_op (o_index rfl (by kernel_rfl) rfl rfl b14 hz13) ?_
          refine r_op (o_loadA rfl (n := 2) (by kernel_rfl) (by kernel_rfl) rfl rfl) ?_
          refine r_op (o_call 1 1 false (Go.Proofs.enters_of Tryd.func48 (by kernel_rfl) rfl) (c_spec_IsValidAtom (rs) (z12.1) (z12.2) (by first | omega | assumption | (have e1 := sz_at (f := (fun (x : Int × (List (Int))) => (x.2).length)) (l := a0) (m := m) (by assumption); (try dsimp only at e1); omega) | (have e1 := sz_at (f := (fun (x : Int × (List (Int))) => (x.2).length)) (l := a1) (m := n) (by assumption); (try dsimp only at e1); omega) | exact (atom_idx (by assumption)).1 | exact (atom_idx (by assumption)).2) (by first | omega | assumption | (have e1 := sz_at (f := (fun (x : Int × (List (Int))) => (x.2).length)) (l := a0) (m := m) (by assumption); (try dsimp only at e1); omega) | (have e1 := sz_at (f := (fun (x : Int × (List (Int))) => (x.2).length)) (l := a1) (m := n) (by assumption); (try dsimp only at e1); omega) | exact (atom_idx (by assumption)).1 | exact (atom_idx (by assumption)).2)) rfl (.cons rfl (.c .t0) (.cons rfl (.agg (.cons .t0 (.cons .t0 .nil))) .nil)) rfl rfl rfl) ?_
          refine r_op (o_not rfl rfl) ?_
          refine r_op (o_move rfl rfl) ?_
          refine r_guard rfl rfl rfl (fun g15 => ?_) (fun g15 => ?_)
          ·
            have g15' := (bnf g15)
            refine r_op (o_move rfl rfl) ?_
            refine r_guard rfl rfl rfl (fun _ => ?_) (ncf g15)
            refine r_op (o_fieldb rfl (off := 1) (by kernel_rfl) rfl) ?_
            refine r_guard rfl rfl rfl (fun _ => ?_) (ncf g15)
            refine r_op (o_load1b rfl (by kernel_rfl) rfl rfl rfl) ?_
            refine r_guard rfl rfl rfl (fun _ => ?_) (ncf g15)
            refine r_op (o_move rfl rfl) ?_
            refine r_guard rfl rfl rfl (fun _ => ?_) (ncf g15)
            refine r_op (o_index rfl (by kernel_rfl) rfl rfl b14 hz13) ?_
            refine r_guard rfl rfl rfl (fun _ => ?_) (ncf g15)
            refine r_op (o_field rfl (off := 0) (by kernel_rfl) rfl) ?_
            refine r_guard rfl rfl rfl (fun _ => ?_) (ncf g15)
            refine r_op (o_load1 rfl (by kernel_rfl) rfl rfl) ?_
            refine r_guard rfl rfl rfl (fun _ => ?_) (ncf g15)
            obtain ⟨z16, hz17, b18⟩ := at_get (xs := rs) (n := z12.1) (by first | omega | assumption | (have e1 := sz_at (f := (fun (x : Int × (List (Int))) => (x.2).length)) (l := a0) (m := m) (by assumption); (try dsimp only at e1); omega) | (have e1 := sz_at (f := (fun (x : Int × (List (Int))) => (x.2).length)) (l := a1) (m := n) (by assumption); (try dsimp only at e1); omega) | exact (atom_idx (by assumption)).1 | exact (atom_idx (by assumption)).2) (by first | omega | assumption | (have e1 := sz_at (f := (fun (x : Int × (List (Int))) => (x.2).length)) (l := a0) (m := m) (by assumption); (try dsimp only at e1); omega) | (have e1 := sz_at (f := (fun (x : Int × (List (Int))) => (x.2).length)) (l := a1) (m := n) (by assumption); (try dsimp only at e1); omega) | exact (atom_idx (by assumption)).1 | exact (atom_idx (by assumption)).2)
            refine r_op (o_index rfl (by kernel_rfl) rfl rfl b18 hz17) ?_
            refine r_guard rfl rfl rfl (fun _ => ?_) (ncf g15)
            refine r_op (o_field rfl (off := 2) (by kernel_rfl) rfl) ?_
            refine r_guard rfl rfl rfl (fun _ => ?_) (ncf g15)
            refine r_op (o_load1 rfl (by kernel_rfl) rfl rfl) ?_
            refine r_op (o_pickF rfl rfl g15 rfl) ?_
            refine r_end ?_
            refine t_cond rfl (fun h19 => ?_) (fun h19 => ?_)
            ·
              have h19' := h19
              refine t_seq ?_
              refine t_region ?_
              refine r_op (o_assign rfl rfl) ?_
              refine r_end ?_
              refine t_ret Tryd.func43 (.tmp rfl .nil) rfl fun E S w u hI hd => ?_
              refine post_mk hI hd ?_ trivial rfl rfl rfl <;> clear hI hd <;> (try clear ih0) <;> (try clear ih1)
              all_goals first | rfl | (refine scB ?_; (try (have qA := iA (by omega))); (try (have qK := kA (by omega))); (try (have qB := any_true (p := badA rs) (l := a0) (m := m) hz13 (by unfold badA; grind))); (try (have qC := any_true (p := badA rs) (l := a1) (m := n) hz13 (by unfold badA; grind))); (try (have qS := srcA_at (rs := rs) (r := z12.1) (ts := z12.2) hz17; have qD := any_true (p := srcA rs) (l := a1) (m := n) hz13 (by grind))); clear hs g0 g1 v0 v1; unfold depOk atomsOk; grind)
            ·
              have h19' := h19
              refine t_skip ?_
              refine t_endblock ?_
              refine t_region ?_
              refine r_op (o_move rfl rfl) ?_
              refine r_op (o_bin rfl rfl rfl rfl) ?_
              refine r_op (o_assign rfl rfl) ?_
              refine r_end ?_
              refine t_le ?_ (ih1 (n + 1) (by (try dsimp only); omega) (by (try dsimp only); exact ⟨by omega, no_step (p := fun z => badA rs z || srcA rs z) k2 (by assumption) rfl (by have q1 := srcA_at (rs := rs) (r := z12.1) (ts := z12.2) hz17; unfold badA; grind)⟩))
              exact ⟨⟨rfl, ⟨rfl, ⟨(eqI (wr64 (by omega) (by omega))), trivial⟩⟩⟩, ⟨rfl, trivial⟩, rfl⟩
          ·
            have g15' := (bnt g15)
            refine r_guard rfl rfl rfl (nc g15) (fun _ => ?_)
            refine r_guard rfl rfl rfl (nc g15) (fun _ => ?_)
            refine r_guard rfl rfl rfl (nc g15) (fun _ => ?_)
            refine r_guard rfl rfl rfl (nc g15) (fun _ => ?_)
            refine r_guard rfl rfl rfl (nc g15) (fun _ => ?_)
            refine r_guard rfl rfl rfl (nc g15) (fun _ => ?_)
            refine r_guard rfl rfl rfl (nc g15) (fun _ => ?_)
            refine r_guard rfl rfl rfl (nc g15) (fun _ => ?_)
            refine r_guard rfl rfl rfl (nc g15) (fun _ => ?_)
            refine r_op (o_pickT rfl rfl g15 rfl) ?_
            refine r_end ?_
            refine t_cond rfl (fun _ => ?_) (nc rfl)
            refine t_seq ?_
            refine t_region ?_
            refine r_op (o_assign rfl rfl) ?_
            refine r_end ?_
            refine t_ret Tryd.func43 (.tmp rfl .nil) rfl fun E S w u hI hd => ?_
            refine post_mk hI hd ?_ trivial rfl rfl rfl <;> clear hI hd <;> (try clear ih0) <;> (try clear ih1)
            all_goals first | rfl | (refine scB ?_; (try (have qA := iA (by omega))); (try (have qK := kA (by omega))); (try (have qB := any_true (p := badA rs) (l := a0) (m := m) hz13 (by unfold badA; grind))); (try (have qC := any_true (p := badA rs) (l := a1) (m := n) hz13 (by unfold badA; grind))); (try (have qS := srcA_at (rs := rs) (r := z12.1) (ts := z12.2) (by assumption); have qD := any_true (p := srcA rs) (l := a1) (m := n) hz13 (by grind))); clear hs g0 g1 v0 v1; unfold depOk atomsOk; grind)
        ·
          have h11' := of_decide_eq_false h11
          refine t_exit rfl ?_
          refine t_seq ?_
          refine t_region ?_
          refine r_op (o_fieldb rfl (off := 1) (by kernel_rfl) rfl) ?_
          refine r_op (o_load1b rfl (by kernel_rfl) rfl rfl rfl) ?_
          refine r_op (o_len rfl rfl rfl) ?_
          refine r_op (o_call 1 1 false (Go.Proofs.enters_of Tryd.func25 (by kernel_rfl) rfl) (c_spec_l1In (((a1).length : Int)) (1) (2)) rfl (.cons rfl (.c .t0) (.cons rfl (.c .t0) (.cons rfl (.c .t0) .nil))) rfl rfl rfl) ?_
          refine r_op (o_move rfl rfl) ?_
          refine r_guard rfl rfl rfl (fun g20 => ?_) (fun g20 => ?_)
          ·
            have g20' := of_decide_eq_true g20
            refine r_op (o_fieldb rfl (off := 3) (by kernel_rfl) rfl) ?_
            refine r_guard rfl rfl rfl (fun _ => ?_) (nc g20)
            refine r_op (o_load1b rfl (by kernel_rfl) rfl rfl rfl) ?_
            refine r_guard rfl rfl rfl (fun _ => ?_) (nc g20)
            refine r_op (o_bin rfl rfl rfl rfl) ?_
            refine r_op (o_pickT rfl rfl g20 rfl) ?_
            refine r_op (o_move rfl rfl) ?_
            refine r_guard rfl rfl rfl (fun g21 => ?_) (fun g21 => ?_)
            ·
              have g21' := of_decide_eq_true g21
              refine r_op (o_fieldb rfl (off := 4) (by kernel_rfl) rfl) ?_
              refine r_guard rfl rfl rfl (fun _ => ?_) (nc g21)
              refine r_op (o_load1b rfl (by kernel_rfl) rfl rfl rfl) ?_
              refine r_guard rfl rfl rfl (fun _ => ?_) (nc g21)
              refine r_op (o_bin rfl rfl rfl rfl) ?_
              refine r_op (o_pickT rfl rfl g21 rfl) ?_
              refine r_op (o_assign rfl rfl) ?_
              refine r_end ?_
              refine t_ret Tryd.func43 (.tmp rfl .nil) rfl fun E S w u hI hd => ?_
              refine post_mk hI hd ?_ trivial rfl rfl rfl <;> clear hI hd <;> (try clear ih0) <;> (try clear ih1)
              all_goals first | rfl | (refine scB ?_; (try (have qA := iA (by omega))); (try (have qK := kA (by omega))); (try (have qB := any_true (p := badA rs) (l := a0) (m := m) (by assumption) (by unfold badA; grind))); (try (have qC := any_true (p := badA rs) (l := a1) (m := n) (by assumption) (by unfold badA; grind))); (try (have qS := srcA_at (rs := rs) (r := (by assumption).1) (ts := (by assumption).2) (by assumption); have qD := any_true (p := srcA rs) (l := a1) (m := n) (by assumption) (by grind))); clear hs g0 g1 v0 v1; unfold depOk atomsOk; grind)
            ·
              have g21' := of_decide_eq_false g21
              refine r_guard rfl rfl rfl (ncf g21) (fun _ => ?_)
              refine r_guard rfl rfl rfl (ncf g21) (fun _ => ?_)
              refine r_op (o_pickF rfl rfl g21 rfl) ?_
              refine r_op (o_assign rfl rfl) ?_
              refine r_end ?_
              refine t_ret Tryd.func43 (.tmp rfl .nil) rfl fun E S w u hI hd => ?_
              refine post_mk hI hd ?_ trivial rfl rfl rfl <;> clear hI hd <;> (try clear ih0) <;> (try clear ih1)
              all_goals first | rfl | (refine scB ?_; (try (have qA := iA (by omega))); (try (have qK := kA (by omega))); (try (have qB := any_true (p := badA rs) (l := a0) (m := m) (by assumption) (by unfold badA; grind))); (try (have qC := any_true (p := badA rs) (l := a1) (m := n) (by assumption) (by unfold badA; grind))); (try (have qS := srcA_at (rs := rs) (r := (by assumption).1) (ts := (by assumption).2) (by assumption); have qD := any_true (p := srcA rs) (l := a1) (m := n) (by assumption) (by grind))); clear hs g0 g1 v0 v1; unfold depOk atomsOk; grind)
          ·
            have g20' := of_decide_eq_false g20
            refine r_guard rfl rfl rfl (ncf g20) (fun _ => ?_)
            refine r_guard rfl rfl rfl (ncf g20) (fun _ => ?_)
            refine r_op (o_pickF rfl rfl g20 rfl) ?_
            refine r_op (o_move rfl rfl) ?_
            refine r_guard rfl rfl rfl (ncf rfl) (fun _ => ?_)
            refine r_guard rfl rfl rfl (ncf rfl) (fun _ => ?_)
            refine r_guard rfl rfl rfl (ncf rfl) (fun _ => ?_)
            refine r_op (o_pickF rfl rfl rfl rfl) ?_
            refine r_op (o_assign rfl rfl) ?_
            refine r_end ?_
            refine t_ret Tryd.func43 (.tmp rfl .nil) rfl fun E S w u hI hd => ?_
            refine post_mk hI hd ?_ trivial rfl rfl rfl <;> clear hI hd <;> (try clear ih0) <;> (try clear ih1)
            all_goals first | rfl | (refine scB ?_; (try (have qA := iA (by omega))); (try (have qK := kA (by omega))); (try (have qB := any_true (p := badA rs) (l := a0) (m := m) (by assumption) (by unfold badA; grind))); (try (have qC := any_true (p := badA rs) (l := a1) (m := n) (by assumption) (by unfold badA; grind))); (try (have qS := srcA_at (rs := rs) (r := (by assumption).1) (ts := (by assumption).2) (by assumption); have qD := any_true (p := srcA rs) (l := a1) (m := n) (by assumption) (by grind))); clear hs g0 g1 v0 v1; unfold depOk atomsOk; grind)
set_option maxHeartbeats 1000000 in
set_option maxRecDepth 10000 in
theorem c_spec_AreValidDependencies (rs : Rels) (l : List Dep) (hrs : rs.length ≤ 4611686018427387904) (hs : szS (fun (x : (List (Int × (List (Int)))) × (List (Int × (List (Int)))) × Bool × Int × Int) => (szS (fun (x : Int × (List (Int))) => (x.2).length) (x.1)) + (szS (fun (x : Int × (List (Int))) => (x.2).length) (x.2.1))) l ≤ 1048576) : Pu Tryd.prog 33 [.c (.t none (.sl 3 (enS3 encS encI encB) (rs))), .c (.t none (.sl 5 (enS5 (enSl 2 (enS2 encI (enSl 1 encI))) (enSl 2 (enS2 encI (enSl 1 encI))) encB encI encI) (l)))] [] 0 (.c (.t none (.v (.bool (depsOk rs l))))) := by
  refine pu_enter Tryd.func33 rfl (Nat.le_of_ble_eq_true rfl) fun w S => ?_
  have gl := sz_len (f := (fun (x : (List (Int × (List (Int)))) × (List (Int × (List (Int)))) × Bool × Int × Int) => (szS (fun (x : Int × (List (Int))) => (x.2).length) (x.1)) + (szS (fun (x : Int × (List (Int))) => (x.2).length) (x.2.1)))) (l := l)
  refine t_seq ?_
  refine t_region ?_
  refine r_op (o_assign rfl rfl) ?_
  refine r_end ?_
  refine t_seq ?_
  refine t_seq ?_
  refine t_region ?_
  refine r_op (o_assign rfl rfl) ?_
  refine r_end ?_
  refine t_block ?_
  refine t_loopL (fun m => ⟨[(0, some (.c (.t none (.sl 3 (enS3 encS encI encB) (rs))))), (1, some (.c (.t none (.sl 5 (enS5 (enSl 2 (enS2 encI (enSl 1 encI))) (enSl 2 (enS2 encI (enSl 1 encI))) encB encI encI) (l))))), (5, some (.c (.t none (.v (.int .i64 ((m : Int)))))))], [], 0⟩ : Nat → St) (fun m => m ≤ l.length ∧ ∀ j z, j < m → l[j]? = some z → badD rs z = false) (fun m => l.length - m) 0 ⟨⟨rfl, ⟨rfl, ⟨rfl, trivial⟩⟩⟩, trivial, rfl⟩ (by exact ⟨Nat.zero_le _, fun j z h => by omega⟩) ?_
  rintro m hI ih0
  try dsimp only at hI ih0
  obtain ⟨i1, i2⟩ := hI; have iA : l.length ≤ m → l.any (badD rs) = false := fun e => any_false i2 e
  refine t_seq ?_
  refine t_seq ?_
  refine t_region ?_
  refine r_op (o_move rfl rfl) ?_
  refine r_op (o_move rfl rfl) ?_
  refine r_op (o_len rfl rfl rfl) ?_
  refine r_op (o_bin rfl rfl rfl rfl) ?_
  refine r_end ?_
  refine t_cond rfl (fun h1 => ?_) (fun h1 => ?_)
  ·
    have h1' := of_decide_eq_true h1
    refine t_skip ?_
    refine t_seq ?_
    refine t_block ?_
    refine t_seq ?_
    refine t_region ?_
    refine r_op (o_move rfl rfl) ?_
    refine r_op (o_move rfl rfl) ?_
    refine r_op (o_move rfl rfl) ?_
    obtain ⟨z2, hz3, b4⟩ := at_get (xs := l) (n := (m : Int)) (by first | omega | assumption | (have e1 := sz_at (f := (fun (x : (List (Int × (List (Int)))) × (List (Int × (List (Int)))) × Bool × Int × Int) => (szS (fun (x : Int × (List (Int))) => (x.2).length) (x.1)) + (szS (fun (x : Int × (List (Int))) => (x.2).length) (x.2.1)))) (l := l) (m := m) (by assumption); (try dsimp only at e1); omega)) (by first | omega | assumption | (have e1 := sz_at (f := (fun (x : (List (Int × (List (Int)))) × (List (Int × (List (Int)))) × Bool × Int × Int) => (szS (fun (x : Int × (List (Int))) => (x.2).length) (x.1)) + (szS (fun (x : Int × (List (Int))) => (x.2).length) (x.2.1)))) (l := l) (m := m) (by assumption); (try dsimp only at e1); omega))
    refine r_op (o_index rfl (by kernel_rfl) rfl rfl b4 hz3) ?_
    refine r_op (o_loadA rfl (n := 5) (by kernel_rfl) (by kernel_rfl) rfl rfl) ?_
    refine r_op (o_call 0 0 false (Go.Proofs.enters_of Tryd.func43 (by kernel_rfl) rfl) (c_spec_IsValidDependency (rs) (z2.1) (z2.2.1) (z2.2.2.1) (z2.2.2.2.1) (z2.2.2.2.2) (by first | omega | assumption | (have e1 := sz_at (f := (fun (x : (List (Int × (List (Int)))) × (List (Int × (List (Int)))) × Bool × Int × Int) => (szS (fun (x : Int × (List (Int))) => (x.2).length) (x.1)) + (szS (fun (x : Int × (List (Int))) => (x.2).length) (x.2.1)))) (l := l) (m := m) (by assumption); (try dsimp only at e1); omega)) (by first | omega | assumption | (have e1 := sz_at (f := (fun (x : (List (Int × (List (Int)))) × (List (Int × (List (Int)))) × Bool × Int × Int) => (szS (fun (x : Int × (List (Int))) => (x.2).length) (x.1)) + (szS (fun (x : Int × (List (Int))) => (x.2).length) (x.2.1)))) (l := l) (m := m) (by assumption); (try dsimp only at e1); omega))) rfl (.cons rfl (.c .t0) (.cons rfl (.agg (.cons .t0 (.cons .t0 (.cons .t0 (.cons .t0 (.cons .t0 .nil)))))) .nil)) rfl rfl rfl) ?_
    refine r_op (o_not rfl rfl) ?_
    refine r_end ?_
    refine t_cond rfl (fun h5 => ?_) (fun h5 => ?_)
    ·
      have h5' := (bnt h5)
      refine t_seq ?_
      refine t_region ?_
      refine r_op (o_assign rfl rfl) ?_
      refine r_end ?_
      refine t_ret Tryd.func33 (.tmp rfl .nil) rfl fun E S w u hI hd => ?_
      refine post_mk hI hd ?_ trivial rfl rfl rfl <;> clear hI hd <;> (try clear ih0)
      all_goals first | rfl | (refine scB ?_; (try (have qA := iA (by omega))); (try (have qB := any_true (p := badD rs) (l := l) (m := m) hz3 (by unfold badD; grind))); clear hs gl; unfold depsOk; grind)
    ·
      have h5' := (bnf h5)
      refine t_skip ?_
      refine t_endblock ?_
      refine t_region ?_
      refine r_op (o_move rfl rfl) ?_
      refine r_op (o_bin rfl rfl rfl rfl) ?_
      refine r_op (o_assign rfl rfl) ?_
      refine r_end ?_
      refine t_le ?_ (ih0 (m + 1) (by (try dsimp only); omega) (by (try dsimp only); exact ⟨by omega, no_step i2 (by assumption) rfl (by unfold badD; grind)⟩))
      exact ⟨⟨rfl, ⟨rfl, ⟨(eqI (wr64 (by omega) (by omega))), trivial⟩⟩⟩, trivial, rfl⟩
  ·
    have h1' := of_decide_eq_false h1
    refine t_exit rfl ?_
    refine t_seq ?_
    refine t_region ?_
    refine r_op (o_move rfl rfl) ?_
    refine r_op (o_call 0 0 false (Go.Proofs.enters_of Tryd.func24 (by kernel_rfl) rfl) (c_spec_AreValidRelations (rs) (by first | omega | assumption | (have e1 := sz_at (f := (fun (x : (List (Int × (List (Int)))) × (List (Int × (List (Int)))) × Bool × Int × Int) => (szS (fun (x : Int × (List (Int))) => (x.2).length) (x.1)) + (szS (fun (x : Int × (List (Int))) => (x.2).length) (x.2.1)))) (l := l) (m := m) (by assumption); (try dsimp only at e1); omega))) rfl (.cons rfl (.c .t0) .nil) rfl rfl rfl) ?_
    refine r_op (o_move rfl rfl) ?_
    refine r_guard rfl rfl rfl (fun g6 => ?_) (fun g6 => ?_)
    ·
      have g6' := g6
      refine r_op (o_move rfl rfl) ?_
      refine r_guard rfl rfl rfl (fun _ => ?_) (nc g6)
      refine r_op (o_len rfl rfl rfl) ?_
      refine r_guard rfl rfl rfl (fun _ => ?_) (nc g6)
      refine r_op (o_bin rfl rfl rfl rfl) ?_
      refine r_op (o_pickT rfl rfl g6 rfl) ?_
      refine r_op (o_assign rfl rfl) ?_
      refine r_end ?_
      refine t_ret Tryd.func33 (.tmp rfl .nil) rfl fun E S w u hI hd => ?_
      refine post_mk hI hd ?_ trivial rfl rfl rfl <;> clear hI hd <;> (try clear ih0)
      all_goals first | rfl | (refine scB ?_; (try (have qA := iA (by omega))); (try (have qB := any_true (p := badD rs) (l := l) (m := m) (by assumption) (by unfold badD; grind))); clear hs gl; unfold depsOk; grind)
    ·
      have g6' := g6
      refine r_guard rfl rfl rfl (ncf g6) (fun _ => ?_)
      refine r_guard rfl rfl rfl (ncf g6) (fun _ => ?_)
      refine r_op (o_pickF rfl rfl g6 rfl) ?_
      refine r_op (o_assign rfl rfl) ?_
      refine r_end ?_
      refine t_ret Tryd.func33 (.tmp rfl .nil) rfl fun E S w u hI hd => ?_
      refine post_mk hI hd ?_ trivial rfl rfl rfl <;> clear hI hd <;> (try clear ih0)
      all_goals first | rfl | (refine scB ?_; (try (have qA := iA (by omega))); (try (have qB := any_true (p := badD rs) (l := l) (m := m) (by assumption) (by unfold badD; grind))); clear hs gl; unfold depsOk; grind)
set_option maxHeartbeats 1000000 in
set_option maxRecDepth 10000 in
theorem c_spec_FrontierVariables (a0 : List (Int × (List (Int)))) (a1 : List (Int × (List (Int)))) (a2 : Bool) (a3 : Int) (a4 : Int) (hs : szS (fun (x : Int × (List (Int))) => (x.2).length) a0 + szS (fun (x : Int × (List (Int))) => (x.2).length) a1 ≤ 1048576) : Pu Tryd.prog 34 [.agg [.t none (.sl 2 (enS2 encI (enSl 1 encI)) (a0)), .t none (.sl 2 (enS2 encI (enSl 1 encI)) (a1)), .t none (.v (.bool (a2))), .t none (.v (.int .i64 (a3))), .t none (.v (.int .i64 (a4)))]] [(1, some (.row none 3 true 1 encI (selV true (setI (varsL a0)) (setI (varsL a1)))))] 4 (.c (.own 1)) := by
  refine pu_enter Tryd.func34 rfl (Nat.le_of_ble_eq_true rfl) fun w S => ?_
  have g0 := sz_len (f := (fun (x : Int × (List (Int))) => (x.2).length)) (l := a0); have g1 := sz_len (f := (fun (x : Int × (List (Int))) => (x.2).length)) (l := a1); have v0 := setI_len (varsL a0); have v1 := varsL_size a0; have v2 := setI_len (varsL a1); have v3 := varsL_size a1
  refine t_seq ?_
  refine t_region ?_
  refine r_op (o_box 0 rfl rfl rfl rfl) ?_
  refine r_op (o_assign rfl rfl) ?_
  refine r_end ?_
  refine t_seq ?_
  refine t_region ?_
  refine r_op (o_lit0 1 (e := 3) (sz := 1) (zs := [.int .i64 (0)]) encI rfl rfl (by kernel_rfl) rfl) ?_
  refine r_op (o_assign rfl rfl) ?_
  refine r_end ?_
  refine t_seq ?_
  refine t_region ?_
  refine r_op (o_fieldb rfl (off := 0) (by kernel_rfl) rfl) ?_
  refine r_op (o_load1b rfl (by kernel_rfl) rfl rfl rfl) ?_
  refine r_op (o_call 2 3 false (Go.Proofs.enters_of Tryd.func44 (by kernel_rfl) rfl) (c_spec_Variables (a0) (by first | omega | (simp; omega))) rfl (.cons rfl (.c .t0) .nil) rfl rfl rfl) ?_
  refine r_op (o_assign rfl rfl) ?_
  refine r_end ?_
  refine t_seq ?_
  refine t_region ?_
  refine r_op (o_fieldb rfl (off := 1) (by kernel_rfl) rfl) ?_
  refine r_op (o_load1b rfl (by kernel_rfl) rfl rfl rfl) ?_
  refine r_op (o_call 3 4 false (Go.Proofs.enters_of Tryd.func44 (by kernel_rfl) rfl) (c_spec_Variables (a1) (by first | omega | (simp; omega))) rfl (.cons rfl (.c .t0) .nil) rfl rfl rfl) ?_
  refine r_op (o_assign rfl rfl) ?_
  refine r_end ?_
  refine t_seq ?_
  refine t_seq ?_
  refine t_region ?_
  refine r_op (o_assign rfl rfl) ?_
  refine r_end ?_
  refine t_block ?_
  refine t_loopL (fun m => ⟨[(2, some (.c (.t none (.v (.slice none 0 0))))), (3, some (.c (.own 1))), (4, some (.c (.own 2))), (5, some (.c (.own 3))), (6, some (.c (.t none (.v (.int .i64 ((m : Int)))))))], [(0, some (.box [.t none (.sl 2 (enS2 encI (enSl 1 encI)) (a0)), .t none (.sl 2 (enS2 encI (enSl 1 encI)) (a1)), .t none (.v (.bool (a2))), .t none (.v (.int .i64 (a3))), .t none (.v (.int .i64 (a4)))])), (1, some (.row none 3 true 1 encI (((setI (varsL a1)).take m).filter (fun x => hasI (setI (varsL a0)) x == true)))), (2, some (.row none 3 true 1 encI (setI (varsL (a0))))), (3, some (.row none 3 true 1 encI (setI (varsL (a1)))))], 4⟩ : Nat → St) (fun m => m ≤ (setI (varsL a1)).length) (fun m => (setI (varsL a1)).length - m) 0 ⟨⟨rfl, ⟨rfl, ⟨rfl, ⟨rfl, ⟨rfl, trivial⟩⟩⟩⟩⟩, ⟨rfl, ⟨rfl, ⟨rfl, ⟨rfl, trivial⟩⟩⟩⟩, rfl⟩ (by exact Nat.zero_le _) ?_
  rintro m hI ih0
  try dsimp only at hI ih0
  have i1 := hI; have fl := filt_len (p := (fun x => hasI (setI (varsL a0)) x == true)) (l := setI (varsL a1)) (m := m)
  refine t_seq ?_
  refine t_seq ?_
  refine t_region ?_
  refine r_op (o_move rfl rfl) ?_
  refine r_op (o_move rfl rfl) ?_
  refine r_op (o_leno rfl rfl rfl rfl) ?_
  refine r_op (o_bin rfl rfl rfl rfl) ?_
  refine r_end ?_
  refine t_cond rfl (fun h1 => ?_) (fun h1 => ?_)
  ·
    have h1' := of_decide_eq_true h1
    refine t_skip ?_
    refine t_seq ?_
    refine t_block ?_
    refine t_seq ?_
    refine t_region ?_
    refine r_op (o_move rfl rfl) ?_
    refine r_op (o_move rfl rfl) ?_
    refine r_op (o_move rfl rfl) ?_
    obtain ⟨z2, hz3, b4⟩ := at_get (xs := setI (varsL (a1))) (n := (m : Int)) (by first | omega | (simp; omega)) (by first | omega | (simp; omega))
    refine r_op (o_indexo rfl (by kernel_rfl) rfl rfl rfl b4 (at_lt b4 hz3)) ?_
    refine r_op (o_load1o rfl (by kernel_rfl) rfl rfl rfl hz3) ?_
    refine r_op (o_call 4 4 false (Go.Proofs.enters_of Tryd.func45 (by kernel_rfl) rfl) (c_spec_l4Has (setI (varsL (a0))) (z2) (by first | omega | (simp; omega))) rfl (.cons rfl (.c (.own rfl)) (.cons rfl (.c .t0) .nil)) rfl rfl rfl) ?_
    refine r_end ?_
    refine t_cond rfl (fun h5 => ?_) (fun h5 => ?_)
    ·
      have h5' := h5
      refine t_region ?_
      refine r_op (o_move rfl rfl) ?_
      refine r_op (o_move rfl rfl) ?_
      refine r_op (o_move rfl rfl) ?_
      refine r_op (o_indexo rfl (by kernel_rfl) rfl rfl rfl b4 (at_lt b4 hz3)) ?_
      refine r_op (o_load1o rfl (by kernel_rfl) rfl rfl rfl hz3) ?_
      refine r_op (o_litS 4 (e := 3) (sz := 1) (zs := [.int .i64 (0)]) rfl rfl (by kernel_rfl) rfl rfl rfl rfl rfl) ?_
      refine r_op (o_append 1 (e := 3) (sz := 1) (by' := 8) (z2) rfl (by kernel_rfl) rfl rfl rfl rfl rfl rfl (.cons .sc .nil) rfl (by first | omega | (simp; omega)) (by first | omega | (simp; omega))) ?_
      refine r_op (o_assign rfl rfl) ?_
      refine r_end ?_
      refine t_endblock ?_
      refine t_region ?_
      refine r_op (o_move rfl rfl) ?_
      refine r_op (o_bin rfl rfl rfl rfl) ?_
      refine r_op (o_assign rfl rfl) ?_
      refine r_end ?_
      refine t_le ?_ (ih0 (m + 1) (by (try dsimp only); omega) (by (try dsimp only); omega))
      exact ⟨⟨rfl, ⟨rfl, ⟨rfl, ⟨rfl, ⟨(eqI (wr64 (by omega) (by omega))), trivial⟩⟩⟩⟩⟩, ⟨rfl, ⟨(eqR (by first | (rw [filt_more (by assumption) (by simp_all)]; done) | (rw [filt_same (by assumption) (by simp_all)]; done))), ⟨rfl, ⟨rfl, trivial⟩⟩⟩⟩, rfl⟩
    ·
      have h5' := h5
      refine t_skip ?_
      refine t_endblock ?_
      refine t_region ?_
      refine r_op (o_move rfl rfl) ?_
      refine r_op (o_bin rfl rfl rfl rfl) ?_
      refine r_op (o_assign rfl rfl) ?_
      refine r_end ?_
      refine t_le ?_ (ih0 (m + 1) (by (try dsimp only); omega) (by (try dsimp only); omega))
      exact ⟨⟨rfl, ⟨rfl, ⟨rfl, ⟨rfl, ⟨(eqI (wr64 (by omega) (by omega))), trivial⟩⟩⟩⟩⟩, ⟨rfl, ⟨(eqR (by first | (rw [filt_more (by assumption) (by simp_all)]; done) | (rw [filt_same (by assumption) (by simp_all)]; done))), ⟨rfl, ⟨rfl, trivial⟩⟩⟩⟩, rfl⟩
  ·
    have h1' := of_decide_eq_false h1
    refine t_exit rfl ?_
    refine t_seq ?_
    refine t_region ?_
    refine r_op (o_move rfl rfl) ?_
    refine r_op (o_assign rfl rfl) ?_
    refine r_end ?_
    refine t_ret Tryd.func34 (.tmp rfl .nil) rfl fun E S w u hI hd => ?_
    refine post_mk hI hd ?_ ⟨eqR ?_, trivial⟩ rfl rfl rfl <;> clear hI hd <;> (try clear ih0)
    all_goals first | rfl | (first | rfl | (rw [filt_end (by omega)]; rfl))
set_option maxHeartbeats 1000000 in
set_option maxRecDepth 10000 in
theorem c_spec_ExistentialVariables (a0 : List (Int × (List (Int)))) (a1 : List (Int × (List (Int)))) (a2 : Bool) (a3 : Int) (a4 : Int) (hs : szS (fun (x : Int × (List (Int))) => (x.2).length) a0 + szS (fun (x : Int × (List (Int))) => (x.2).length) a1 ≤ 1048576) : Pu Tryd.prog 35 [.agg [.t none (.sl 2 (enS2 encI (enSl 1 encI)) (a0)), .t none (.sl 2 (enS2 encI (enSl 1 encI)) (a1)), .t none (.v (.bool (a2))), .t none (.v (.int .i64 (a3))), .t none (.v (.int .i64 (a4)))]] [(1, some (.row none 3 true 1 encI (selV false (setI (varsL a0)) (setI (varsL a1)))))] 4 (.c (.own 1)) := by
  refine pu_enter Tryd.func35 rfl (Nat.le_of_ble_eq_true rfl) fun w S => ?_
  have g0 := sz_len (f := (fun (x : Int × (List (Int))) => (x.2).length)) (l := a0); have g1 := sz_len (f := (fun (x : Int × (List (Int))) => (x.2).length)) (l := a1); have v0 := setI_len (varsL a0); have v1 := varsL_size a0; have v2 := setI_len (varsL a1); have v3 := varsL_size a1
  refine t_seq ?_
  refine t_region ?_
  refine r_op (o_box 0 rfl rfl rfl rfl) ?_
  refine r_op (o_assign rfl rfl) ?_
  refine r_end ?_
  refine t_seq ?_
  refine t_region ?_
  refine r_op (o_lit0 1 (e := 3) (sz := 1) (zs := [.int .i64 (0)]) encI rfl rfl (by kernel_rfl) rfl) ?_
  refine r_op (o_assign rfl rfl) ?_
  refine r_end ?_
  refine t_seq ?_
  refine t_region ?_
  refine r_op (o_fieldb rfl (off := 0) (by kernel_rfl) rfl) ?_
  refine r_op (o_load1b rfl (by kernel_rfl) rfl rfl rfl) ?_
  refine r_op (o_call 2 3 false (Go.Proofs.enters_of Tryd.func44 (by kernel_rfl) rfl) (c_spec_Variables (a0) (by first | omega | (simp; omega))) rfl (.cons rfl (.c .t0) .nil) rfl rfl rfl) ?_
  refine r_op (o_assign rfl rfl) ?_
  refine r_end ?_
  refine t_seq ?_
  refine t_region ?_
  refine r_op (o_fieldb rfl (off := 1) (by kernel_rfl) rfl) ?_
  refine r_op (o_load1b rfl (by kernel_rfl) rfl rfl rfl) ?_
  refine r_op (o_call 3 4 false (Go.Proofs.enters_of Tryd.func44 (by kernel_rfl) rfl) (c_spec_Variables (a1) (by first | omega | (simp; omega))) rfl (.cons rfl (.c .t0) .nil) rfl rfl rfl) ?_
  refine r_op (o_assign rfl rfl) ?_
  refine r_end ?_
  refine t_seq ?_
  refine t_seq ?_
  refine t_region ?_
  refine r_op (o_assign rfl rfl) ?_
  refine r_end ?_
  refine t_block ?_
  refine t_loopL (fun m => ⟨[(2, some (.c (.t none (.v (.slice none 0 0))))), (3, some (.c (.own 1))), (4, some (.c (.own 2))), (5, some (.c (.own 3))), (6, some (.c (.t none (.v (.int .i64 ((m : Int)))))))], [(0, some (.box [.t none (.sl 2 (enS2 encI (enSl 1 encI)) (a0)), .t none (.sl 2 (enS2 encI (enSl 1 encI)) (a1)), .t none (.v (.bool (a2))), .t none (.v (.int .i64 (a3))), .t none (.v (.int .i64 (a4)))])), (1, some (.row none 3 true 1 encI (((setI (varsL a1)).take m).filter (fun x => hasI (setI (varsL a0)) x == false)))), (2, some (.row none 3 true 1 encI (setI (varsL (a0))))), (3, some (.row none 3 true 1 encI (setI (varsL (a1)))))], 4⟩ : Nat → St) (fun m => m ≤ (setI (varsL a1)).length) (fun m => (setI (varsL a1)).length - m) 0 ⟨⟨rfl, ⟨rfl, ⟨rfl, ⟨rfl, ⟨rfl, trivial⟩⟩⟩⟩⟩, ⟨rfl, ⟨rfl, ⟨rfl, ⟨rfl, trivial⟩⟩⟩⟩, rfl⟩ (by exact Nat.zero_le _) ?_
  rintro m hI ih0
  try dsimp only at hI ih0
  have i1 := hI; have fl := filt_len (p := (fun x => hasI (setI (varsL a0)) x == false)) (l := setI (varsL a1)) (m := m)
  refine t_seq ?_
  refine t_seq ?_
  refine t_region ?_
  refine r_op (o_move rfl rfl) ?_
  refine r_op (o_move rfl rfl) ?_
  refine r_op (o_leno rfl rfl rfl rfl) ?_
  refine r_op (o_bin rfl rfl rfl rfl) ?_
  refine r_end ?_
  refine t_cond rfl (fun h1 => ?_) (fun h1 => ?_)
  ·
    have h1' := of_decide_eq_true h1
    refine t_skip ?_
    refine t_seq ?_
    refine t_block ?_
    refine t_seq ?_
    refine t_region ?_
    refine r_op (o_move rfl rfl) ?_
    refine r_op (o_move rfl rfl) ?_
    refine r_op (o_move rfl rfl) ?_
    obtain ⟨z2, hz3, b4⟩ := at_get (xs := setI (varsL (a1))) (n := (m : Int)) (by first | omega | (simp; omega)) (by first | omega | (simp; omega))
    refine r_op (o_indexo rfl (by kernel_rfl) rfl rfl rfl b4 (at_lt b4 hz3)) ?_
    refine r_op (o_load1o rfl (by kernel_rfl) rfl rfl rfl hz3) ?_
    refine r_op (o_call 4 4 false (Go.Proofs.enters_of Tryd.func45 (by kernel_rfl) rfl) (c_spec_l4Has (setI (varsL (a0))) (z2) (by first | omega | (simp; omega))) rfl (.cons rfl (.c (.own rfl)) (.cons rfl (.c .t0) .nil)) rfl rfl rfl) ?_
    refine r_op (o_not rfl rfl) ?_
    refine r_end ?_
    refine t_cond rfl (fun h5 => ?_) (fun h5 => ?_)
    ·
      have h5' := (bnt h5)
      refine t_region ?_
      refine r_op (o_move rfl rfl) ?_
      refine r_op (o_move rfl rfl) ?_
      refine r_op (o_move rfl rfl) ?_
      refine r_op (o_indexo rfl (by kernel_rfl) rfl rfl rfl b4 (at_lt b4 hz3)) ?_
      refine r_op (o_load1o rfl (by kernel_rfl) rfl rfl rfl hz3) ?_
      refine r_op (o_litS 4 (e := 3) (sz := 1) (zs := [.int .i64 (0)]) rfl rfl (by kernel_rfl) rfl rfl rfl rfl rfl) ?_
      refine r_op (o_append 1 (e := 3) (sz := 1) (by' := 8) (z2) rfl (by kernel_rfl) rfl rfl rfl rfl rfl rfl (.cons .sc .nil) rfl (by first | omega | (simp; omega)) (by first | omega | (simp; omega))) ?_
      refine r_op (o_assign rfl rfl) ?_
      refine r_end ?_
      refine t_endblock ?_
      refine t_region ?_
      refine r_op (o_move rfl rfl) ?_
      refine r_op (o_bin rfl rfl rfl rfl) ?_
      refine r_op (o_assign rfl rfl) ?_
      refine r_end ?_
      refine t_le ?_ (ih0 (m + 1) (by (try dsimp only); omega) (by (try dsimp only); omega))
      exact ⟨⟨rfl, ⟨rfl, ⟨rfl, ⟨rfl, ⟨(eqI (wr64 (by omega) (by omega))), trivial⟩⟩⟩⟩⟩, ⟨rfl, ⟨(eqR (by first | (rw [filt_more (by assumption) (by simp_all)]; done) | (rw [filt_same (by assumption) (by simp_all)]; done))), ⟨rfl, ⟨rfl, trivial⟩⟩⟩⟩, rfl⟩
    ·
      have h5' := (bnf h5)
      refine t_skip ?_
      refine t_endblock ?_
      refine t_region ?_
      refine r_op (o_move rfl rfl) ?_
      refine r_op (o_bin rfl rfl rfl rfl) ?_
      refine r_op (o_assign rfl rfl) ?_
      refine r_end ?_
      refine t_le ?_ (ih0 (m + 1) (by (try dsimp only); omega) (by (try dsimp only); omega))
      exact ⟨⟨rfl, ⟨rfl, ⟨rfl, ⟨rfl, ⟨(eqI (wr64 (by omega) (by omega))), trivial⟩⟩⟩⟩⟩, ⟨rfl, ⟨(eqR (by first | (rw [filt_more (by assumption) (by simp_all)]; done) | (rw [filt_same (by assumption) (by simp_all)]; done))), ⟨rfl, ⟨rfl, trivial⟩⟩⟩⟩, rfl⟩
  ·
    have h1' := of_decide_eq_false h1
    refine t_exit rfl ?_
    refine t_seq ?_
    refine t_region ?_
    refine r_op (o_move rfl rfl) ?_
    refine r_op (o_assign rfl rfl) ?_
    refine r_end ?_
    refine t_ret Tryd.func35 (.tmp rfl .nil) rfl fun E S w u hI hd => ?_
    refine post_mk hI hd ?_ ⟨eqR ?_, trivial⟩ rfl rfl rfl <;> clear hI hd <;> (try clear ih0)
    all_goals first | rfl | (first | rfl | (rw [filt_end (by omega)]; rfl))
set_option maxHeartbeats 1000000 in
set_option maxRecDepth 10000 in
theorem c_spec_PositionIndex (rs : Rels) (r i : Int) (hrs : rs.length ≤ 4611686018427387904) : Pu Tryd.prog 9 [.c (.t none (.sl 3 (enS3 encS encI encB) (rs))), .c (.t none (.v (.int .i64 (r)))), .c (.t none (.v (.int .i64 (i))))] [] 0 (.c (.t none (.v (.int .i64 (posIx rs r i))))) := by
  refine pu_enter Tryd.func9 rfl (Nat.le_of_ble_eq_true rfl) fun w S => ?_
  refine t_seq ?_
  refine t_region ?_
  refine r_op (o_assign rfl rfl) ?_
  refine r_end ?_
  refine t_seq ?_
  refine t_seq ?_
  refine t_region ?_
  refine r_op (o_move rfl rfl) ?_
  refine r_op (o_call 0 0 false (Go.Proofs.enters_of Tryd.func24 (by kernel_rfl) rfl) (c_spec_AreValidRelations (rs) (by first | omega | assumption | (simp only [IntKind.wrap_i64]; omega) | (simp only [IntKind.wrap_i64] at *; omega))) rfl (.cons rfl (.c .t0) .nil) rfl rfl rfl) ?_
  refine r_op (o_not rfl rfl) ?_
  refine r_op (o_move rfl rfl) ?_
  refine r_guard rfl rfl rfl (fun g1 => ?_) (fun g1 => ?_)
  ·
    have g1' := (bnf g1)
    refine r_op (o_move rfl rfl) ?_
    refine r_guard rfl rfl rfl (fun _ => ?_) (ncf g1)
    refine r_op (o_move rfl rfl) ?_
    refine r_guard rfl rfl rfl (fun _ => ?_) (ncf g1)
    refine r_op (o_len rfl rfl rfl) ?_
    refine r_guard rfl rfl rfl (fun _ => ?_) (ncf g1)
    refine r_op (o_bin rfl rfl rfl rfl) ?_
    refine r_guard rfl rfl rfl (fun _ => ?_) (ncf g1)
    refine r_op (o_call 0 0 false (Go.Proofs.enters_of Tryd.func25 (by kernel_rfl) rfl) (c_spec_l1In (r) (0) (IntKind.i64.wrap (((rs).length : Int) - 1))) rfl (.cons rfl (.c .t0) (.cons rfl (.c .t0) (.cons rfl (.c .t0) .nil))) rfl rfl rfl) ?_
    refine r_guard rfl rfl rfl (fun _ => ?_) (ncf g1)
    refine r_op (o_not rfl rfl) ?_
    refine r_op (o_pickF rfl rfl g1 rfl) ?_
    refine r_op (o_move rfl rfl) ?_
    refine r_guard rfl rfl rfl (fun g2 => ?_) (fun g2 => ?_)
    ·
      have g2' := of_decide_eq_true (bnf g2)
      refine r_op (o_move rfl rfl) ?_
      refine r_guard rfl rfl rfl (fun _ => ?_) (ncf g2)
      refine r_op (o_move rfl rfl) ?_
      refine r_guard rfl rfl rfl (fun _ => ?_) (ncf g2)
      refine r_op (o_move rfl rfl) ?_
      refine r_guard rfl rfl rfl (fun _ => ?_) (ncf g2)
      obtain ⟨z3, hz4, b5⟩ := at_get (xs := rs) (n := r) (by first | omega | assumption | (simp only [IntKind.wrap_i64]; omega) | (simp only [IntKind.wrap_i64] at *; omega)) (by first | omega | assumption | (simp only [IntKind.wrap_i64]; omega) | (simp only [IntKind.wrap_i64] at *; omega))
      refine r_op (o_index rfl (by kernel_rfl) rfl rfl b5 hz4) ?_
      refine r_guard rfl rfl rfl (fun _ => ?_) (ncf g2)
      refine r_op (o_field rfl (off := 1) (by kernel_rfl) rfl) ?_
      refine r_guard rfl rfl rfl (fun _ => ?_) (ncf g2)
      refine r_op (o_load1 rfl (by kernel_rfl) rfl rfl) ?_
      refine r_guard rfl rfl rfl (fun _ => ?_) (ncf g2)
      refine r_op (o_bin rfl rfl rfl rfl) ?_
      refine r_guard rfl rfl rfl (fun _ => ?_) (ncf g2)
      refine r_op (o_call 0 0 false (Go.Proofs.enters_of Tryd.func25 (by kernel_rfl) rfl) (c_spec_l1In (i) (0) (IntKind.i64.wrap ((z3.2.1) - 1))) rfl (.cons rfl (.c .t0) (.cons rfl (.c .t0) (.cons rfl (.c .t0) .nil))) rfl rfl rfl) ?_
      refine r_guard rfl rfl rfl (fun _ => ?_) (ncf g2)
      refine r_op (o_not rfl rfl) ?_
      refine r_op (o_pickF rfl rfl g2 rfl) ?_
      refine r_end ?_
      refine t_cond rfl (fun h6 => ?_) (fun h6 => ?_)
      ·
        have h6' := of_decide_eq_false (bnt h6)
        refine t_seq ?_
        refine t_region ?_
        refine r_op (o_assign rfl rfl) ?_
        refine r_end ?_
        refine t_ret Tryd.func9 (.tmp rfl .nil) rfl fun E S w u hI hd => ?_
        refine post_mk hI hd ?_ trivial rfl rfl rfl <;> clear hI hd <;> (try clear ih0)
        all_goals first | rfl | (refine scI ?_; (try (have ra := (rels_ok (l := rs) (by assumption)).2 _ (List.mem_of_getElem? hz4))); first | exact posIx_no1 (by assumption) | exact posIx_no2 (by (simp only [IntKind.wrap_i64] at *; omega)) | exact posIx_no3 hz4 (by first | omega | (simp only [IntKind.wrap_i64] at *; omega)) | (rw [posIx_yes (by assumption) (by (simp only [IntKind.wrap_i64] at *; omega)) hz4 (by first | omega | (simp only [IntKind.wrap_i64] at *; omega))]; (have em : m = r.toNat := by omega); rw [em, wr64 (by have := sumA_bnd (l := rs) (by assumption) r.toNat; omega) (by have := sumA_bnd (l := rs) (by assumption) r.toNat; omega)]))
      ·
        have h6' := of_decide_eq_true (bnf h6)
        refine t_skip ?_
        refine t_seq ?_
        refine t_region ?_
        refine r_op (o_assign rfl rfl) ?_
        refine r_end ?_
        refine t_seq ?_
        refine t_seq ?_
        refine t_region ?_
        refine r_op (o_assign rfl rfl) ?_
        refine r_end ?_
        refine t_block ?_
        refine t_loopL (fun m => ⟨[(0, some (.c (.t none (.sl 3 (enS3 encS encI encB) (rs))))), (1, some (.c (.t none (.v (.int .i64 (r)))))), (2, some (.c (.t none (.v (.int .i64 (i)))))), (6, some (.c (.t none (.v (.int .i64 (0)))))), (7, some (.c (.t none (.v (.int .i64 (sumA (rs.take m))))))), (8, some (.c (.t none (.v (.int .i64 ((m : Int)))))))], [], 0⟩ : Nat → St) (fun m => m ≤ r.toNat ∧ r.toNat ≤ rs.length) (fun m => r.toNat - m) 0 ⟨⟨rfl, ⟨rfl, ⟨rfl, ⟨rfl, ⟨(eqI rfl), ⟨rfl, trivial⟩⟩⟩⟩⟩⟩, trivial, rfl⟩ (by exact ⟨Nat.zero_le _, by (simp only [IntKind.wrap_i64] at *; omega)⟩) ?_
        rintro m hI ih0
        try dsimp only at hI ih0
        obtain ⟨i1, i2⟩ := hI; have sb := sumA_bnd (l := rs) (by assumption) m; have ra := (rels_ok (l := rs) (by assumption)).2 _ (List.mem_of_getElem? hz4); have iz : 0 ≤ i ∧ i ≤ 3 := (by (simp only [IntKind.wrap_i64] at *; omega)); have rz : 0 ≤ r ∧ r < rs.length := (by (simp only [IntKind.wrap_i64] at *; omega))
        refine t_seq ?_
        refine t_seq ?_
        refine t_region ?_
        refine r_op (o_move rfl rfl) ?_
        refine r_op (o_move rfl rfl) ?_
        refine r_op (o_bin rfl rfl rfl rfl) ?_
        refine r_end ?_
        refine t_cond rfl (fun h7 => ?_) (fun h7 => ?_)
        ·
          have h7' := of_decide_eq_true h7
          refine t_skip ?_
          refine t_seq ?_
          refine t_block ?_
          refine t_region ?_
          refine r_op (o_move rfl rfl) ?_
          refine r_op (o_move rfl rfl) ?_
          refine r_op (o_move rfl rfl) ?_
          obtain ⟨z8, hz9, b10⟩ := at_get (xs := rs) (n := (m : Int)) (by first | omega | assumption | (simp only [IntKind.wrap_i64]; omega) | (simp only [IntKind.wrap_i64] at *; omega)) (by first | omega | assumption | (simp only [IntKind.wrap_i64]; omega) | (simp only [IntKind.wrap_i64] at *; omega))
          refine r_op (o_index rfl (by kernel_rfl) rfl rfl b10 hz9) ?_
          refine r_op (o_field rfl (off := 1) (by kernel_rfl) rfl) ?_
          refine r_op (o_load1 rfl (by kernel_rfl) rfl rfl) ?_
          refine r_op (o_bin rfl rfl rfl rfl) ?_
          refine r_op (o_assign rfl rfl) ?_
          refine r_end ?_
          refine t_endblock ?_
          refine t_region ?_
          refine r_op (o_move rfl rfl) ?_
          refine r_op (o_bin rfl rfl rfl rfl) ?_
          refine r_op (o_assign rfl rfl) ?_
          refine r_end ?_
          have ra2 := (rels_ok (l := rs) (by assumption)).2 _ (List.mem_of_getElem? hz9)
          refine t_le ?_ (ih0 (m + 1) (by (try dsimp only); omega) (by (try dsimp only); exact ⟨by omega, i2⟩))
          exact ⟨⟨rfl, ⟨rfl, ⟨rfl, ⟨rfl, ⟨(eqI (by rw [sumA_step (m := m) hz9, wr64 (by omega) (by omega)])), ⟨(eqI (wr64 (by omega) (by omega))), trivial⟩⟩⟩⟩⟩⟩, trivial, rfl⟩
        ·
          have h7' := of_decide_eq_false h7
          refine t_exit rfl ?_
          refine t_seq ?_
          refine t_region ?_
          refine r_op (o_move rfl rfl) ?_
          refine r_op (o_move rfl rfl) ?_
          refine r_op (o_bin rfl rfl rfl rfl) ?_
          refine r_op (o_assign rfl rfl) ?_
          refine r_end ?_
          refine t_ret Tryd.func9 (.tmp rfl .nil) rfl fun E S w u hI hd => ?_
          refine post_mk hI hd ?_ trivial rfl rfl rfl <;> clear hI hd <;> (try clear ih0)
          all_goals first | rfl | (refine scI ?_; (try (have ra := (rels_ok (l := rs) (by assumption)).2 _ (List.mem_of_getElem? hz4))); first | exact posIx_no1 (by assumption) | exact posIx_no2 (by (simp only [IntKind.wrap_i64] at *; omega)) | exact posIx_no3 hz4 (by first | omega | (simp only [IntKind.wrap_i64] at *; omega)) | (rw [posIx_yes (by assumption) (by (simp only [IntKind.wrap_i64] at *; omega)) hz4 (by first | omega | (simp only [IntKind.wrap_i64] at *; omega))]; (have em : m = r.toNat := by omega); rw [em, wr64 (by have := sumA_bnd (l := rs) (by assumption) r.toNat; omega) (by have := sumA_bnd (l := rs) (by assumption) r.toNat; omega)]))
    ·
      have g2' := of_decide_eq_false (bnt g2)
      refine r_guard rfl rfl rfl (nc g2) (fun _ => ?_)
      refine r_guard rfl rfl rfl (nc g2) (fun _ => ?_)
      refine r_guard rfl rfl rfl (nc g2) (fun _ => ?_)
      refine r_guard rfl rfl rfl (nc g2) (fun _ => ?_)
      refine r_guard rfl rfl rfl (nc g2) (fun _ => ?_)
      refine r_guard rfl rfl rfl (nc g2) (fun _ => ?_)
      refine r_guard rfl rfl rfl (nc g2) (fun _ => ?_)
      refine r_guard rfl rfl rfl (nc g2) (fun _ => ?_)
      refine r_op (o_pickT rfl rfl g2 rfl) ?_
      refine r_end ?_
      refine t_cond rfl (fun _ => ?_) (nc rfl)
      refine t_seq ?_
      refine t_region ?_
      refine r_op (o_assign rfl rfl) ?_
      refine r_end ?_
      refine t_ret Tryd.func9 (.tmp rfl .nil) rfl fun E S w u hI hd => ?_
      refine post_mk hI hd ?_ trivial rfl rfl rfl <;> clear hI hd <;> (try clear ih0)
      all_goals first | rfl | (refine scI ?_; (try (have ra := (rels_ok (l := rs) (by assumption)).2 _ (List.mem_of_getElem? (by assumption)))); first | exact posIx_no1 (by assumption) | exact posIx_no2 (by (simp only [IntKind.wrap_i64] at *; omega)) | exact posIx_no3 (by assumption) (by first | omega | (simp only [IntKind.wrap_i64] at *; omega)) | (rw [posIx_yes (by assumption) (by (simp only [IntKind.wrap_i64] at *; omega)) (by assumption) (by first | omega | (simp only [IntKind.wrap_i64] at *; omega))]; (have em : m = r.toNat := by omega); rw [em, wr64 (by have := sumA_bnd (l := rs) (by assumption) r.toNat; omega) (by have := sumA_bnd (l := rs) (by assumption) r.toNat; omega)]))
  ·
    have g1' := (bnt g1)
    refine r_guard rfl rfl rfl (nc g1) (fun _ => ?_)
    refine r_guard rfl rfl rfl (nc g1) (fun _ => ?_)
    refine r_guard rfl rfl rfl (nc g1) (fun _ => ?_)
    refine r_guard rfl rfl rfl (nc g1) (fun _ => ?_)
    refine r_guard rfl rfl rfl (nc g1) (fun _ => ?_)
    refine r_op (o_pickT rfl rfl g1 rfl) ?_
    refine r_op (o_move rfl rfl) ?_
    refine r_guard rfl rfl rfl (nc rfl) (fun _ => ?_)
    refine r_guard rfl rfl rfl (nc rfl) (fun _ => ?_)
    refine r_guard rfl rfl rfl (nc rfl) (fun _ => ?_)
    refine r_guard rfl rfl rfl (nc rfl) (fun _ => ?_)
    refine r_guard rfl rfl rfl (nc rfl) (fun _ => ?_)
    refine r_guard rfl rfl rfl (nc rfl) (fun _ => ?_)
    refine r_guard rfl rfl rfl (nc rfl) (fun _ => ?_)
    refine r_guard rfl rfl rfl (nc rfl) (fun _ => ?_)
    refine r_guard rfl rfl rfl (nc rfl) (fun _ => ?_)
    refine r_op (o_pickT rfl rfl rfl rfl) ?_
    refine r_end ?_
    refine t_cond rfl (fun _ => ?_) (nc rfl)
    refine t_seq ?_
    refine t_region ?_
    refine r_op (o_assign rfl rfl) ?_
    refine r_end ?_
    refine t_ret Tryd.func9 (.tmp rfl .nil) rfl fun E S w u hI hd => ?_
    refine post_mk hI hd ?_ trivial rfl rfl rfl <;> clear hI hd <;> (try clear ih0)
    all_goals first | rfl | (refine scI ?_; (try (have ra := (rels_ok (l := rs) (by assumption)).2 _ (List.mem_of_getElem? (by assumption)))); first | exact posIx_no1 (by assumption) | exact posIx_no2 (by (simp only [IntKind.wrap_i64] at *; omega)) | exact posIx_no3 (by assumption) (by first | omega | (simp only [IntKind.wrap_i64] at *; omega)) | (rw [posIx_yes (by assumption) (by (simp only [IntKind.wrap_i64] at *; omega)) (by assumption) (by first | omega | (simp only [IntKind.wrap_i64] at *; omega))]; (have em : m = r.toNat := by omega); rw [em, wr64 (by have := sumA_bnd (l := rs) (by assumption) r.toNat; omega) (by have := sumA_bnd (l := rs) (by assumption) r.toNat; omega)]))
end Go.Eng
