/- What the functions that FnExactIsSolution reaches answer. -/
import Derived.Test.YtkondeglfdachaaGreatFnsFnExactIsSolutionp1
import Derived.Test.YtkondeglfdachaaGreatEngZQ
import Derived.Test.YtkondeglfdachaaGreatChecked
set_option linter.unusedVariables false
set_option linter.unusedSimpArgs false
namespace Go.Eng
open Go Go.RowKit Go.Proofs
set_option maxHeartbeats 1000000 in
set_option maxRecDepth 10000 in
theorem c_slices_Repeat___int_int_  : Pu Tryz.prog 195 [.c (.t none (.sl 1 encI ([10]))), .c (.t none (.v (.int .i64 (5))))] [(0, some (.row none 3 true 1 encI (freeB)))] 1 (.c (.own 0)) := by
 refine pu_enter Tryz.func195 rfl (Nat.le_of_ble_eq_true rfl) fun w S => ?_
 refine tsr ?_
 refine r_op oA ?_
 refine r_end ?_
 refine t_seq ?_
 refine tsr ?_
 refine r_op oM ?_
 refine r_op oB ?_
 refine r_end ?_
 refine t_cond rfl (fun h1 => ?_) (fun h1 => ?_)
 ·
  have h1' := of_decide_eq_true h1
  exfalso; omega
 ·
  have h1' := of_decide_eq_false h1
  refine t_skip ?_
  refine tsr ?_
  refine r_op oM ?_
  refine r_op (o_len rfl rfl rfl) ?_
  refine r_op (o_conv rfl Tryz.underlying3 Tryz.underlying160 rfl) ?_
  refine r_op oM ?_
  refine r_op (o_conv rfl Tryz.underlying3 Tryz.underlying160 rfl) ?_
  refine r_op (o_call 0 0 false (Go.Proofs.enters_of Tryz.func210 (by kernel_rfl) rfl) (c_math_bits_Mul ) rfl (.cons rfl (.c .t0) (.cons rfl (.c .t0) .nil)) rfl rfl rfl) ?_
  refine r_op oM ?_
  refine r_op (o_extract rfl rfl rfl rfl) ?_
  refine r_op (o_extract rfl rfl rfl rfl) ?_
  refine r_op oA ?_
  refine r_op oA ?_
  refine r_end ?_
  refine t_seq ?_
  refine tsr ?_
  refine r_op oM ?_
  refine r_op oB ?_
  refine r_op oM ?_
  refine r_guard rfl rfl rfl (fun _ => ?_) (ncf rfl)
  refine r_op oM ?_
  refine r_guard rfl rfl rfl (fun _ => ?_) (ncf rfl)
  refine r_op oB ?_
  refine r_op (o_pickF rfl rfl rfl rfl) ?_
  refine r_end ?_
  refine t_cond rfl (ncf rfl) (fun _ => ?_)
  refine t_skip ?_
  refine tsr ?_
  refine r_op oM ?_
  refine r_op (o_conv rfl Tryz.underlying160 Tryz.underlying3 rfl) ?_
  refine r_op (o_make 0 true (et := 3) (sz := 1) (by' := 8) encI (0) (zs := [.int .i64 (0)]) rfl rfl (by kernel_rfl) (by kernel_rfl) rfl rfl (.cons (.v rfl) .nil) rfl rfl (by decide) (by decide) (by decide)) ?_
  refine r_op oA ?_
  refine etr ?_
  refine r_op oM ?_
  refine r_op oM ?_
  refine r_op (o_copyo (k := 1) rfl rfl rfl rfl Tryz.underlying43 (by kernel_rfl) (fun _ _ => ⟨_, rfl⟩) (by decide) (by decide)) ?_
  refine r_op oA ?_
  refine r_end ?_
  refine t_seq ?_
  refine t_block ?_
  refine t_loopL (fun n => ⟨[(4, some (.c (.t none (.v (.slice none 0 0))))), (7, some (.c (.own 0))), (8, some (.c (.t none (.v (.int .i64 ((n : Int)))))))], [(0, some (.row none 3 true 1 encI (List.replicate n (10 : Int) ++ List.replicate (5 - n) 0)))], 1⟩ : Nat → St) (fun n => n = 1 ∨ n = 2 ∨ n = 4 ∨ n = 5) (fun n => 5 - n) 1 ⟨⟨rfl, ⟨rfl, ⟨rfl, trivial⟩⟩⟩, ⟨rfl, trivial⟩, rfl⟩ (by exact .inl rfl) ?_
  rintro n hI ih0
  try dsimp only at hI ih0
  have i1 := hI; have rl : (List.replicate n (10 : Int) ++ List.replicate (5 - n) 0).length = 5 := (by simp; omega)
  refine t_seq ?_
  refine tsr ?_
  refine r_op oM ?_
  refine r_op oM ?_
  refine r_op (o_leno rfl rfl rfl rfl) ?_
  refine r_op oB ?_
  refine r_end ?_
  refine t_cond rfl (fun h2 => ?_) (fun h2 => ?_)
  ·
   have h2' := of_decide_eq_true h2
   refine t_skip ?_
   refine t_block ?_
   refine t_draw (fun i => !(Nat.beq i 7)) (by kernel_rfl) ?_
   refine dT 1 rfl pM ?_
   refine dT 2 rfl pM ?_
   refine dT 3 rfl (p_subvl (by kernel_rfl) rfl rfl rfl (by omega) (by omega)) ?_
   refine dT 4 rfl pM ?_
   refine dT 5 rfl pM ?_
   refine dT 6 rfl (p_subo (by kernel_rfl) rfl rfl (.h rfl (by omega) (by omega))) ?_
   refine d_two 0 7 rfl rfl (by kernel_rfl) rfl rfl oM (o_copyv (α := Int) (off := ((n : Int)).toNat) (n := ((List.replicate n (10 : Int) ++ List.replicate (5 - n) 0).length - ((n : Int)).toNat)) (xs := List.replicate n (10 : Int) ++ List.replicate (5 - n) 0) (ys := ((List.replicate n (10 : Int) ++ List.replicate (5 - n) 0).take ((n : Int)).toNat).drop 0) (k := (min n (5 - n))) rfl rfl rfl rfl Tryz.underlying43 (by kernel_rfl) (fun _ _ => ⟨_, rfl⟩) (by (show _ = min _ _; simp; done)) (by omega) (by omega)) ?_ ?_
   ·
    refine dO 7 rfl (o_copyv (α := Int) (off := ((n : Int)).toNat) (n := ((List.replicate n (10 : Int) ++ List.replicate (5 - n) 0).length - ((n : Int)).toNat)) (xs := List.replicate n (10 : Int) ++ List.replicate (5 - n) 0) (ys := ((List.replicate n (10 : Int) ++ List.replicate (5 - n) 0).take ((n : Int)).toNat).drop 0) (k := (min n (5 - n))) rfl rfl rfl rfl Tryz.underlying43 (by kernel_rfl) (fun _ _ => ⟨_, rfl⟩) (by (show _ = min _ _; simp; done)) (by omega) (by omega)) ?_
    refine dT 8 rfl pB ?_
    refine dT 9 rfl pA ?_
    refine d_end (by kernel_rfl) ?_
    refine t_endblock ?_
    refine t_le ?_ (ih0 (n + min n (5 - n)) (by (try dsimp only); omega) (by (try dsimp only); omega))
    exact ⟨⟨rfl, ⟨rfl, ⟨(eqI (by rw [wr64 (by omega) (by omega)]; omega)), trivial⟩⟩⟩, ⟨(eqR (loop_five (by omega))), trivial⟩, rfl⟩
   ·
    refine dT 0 rfl pM ?_
    refine dT 8 rfl pB ?_
    refine dT 9 rfl pA ?_
    refine d_end (by kernel_rfl) ?_
    refine t_endblock ?_
    refine t_le ?_ (ih0 (n + min n (5 - n)) (by (try dsimp only); omega) (by (try dsimp only); omega))
    exact ⟨⟨rfl, ⟨rfl, ⟨(eqI (by rw [wr64 (by omega) (by omega)]; omega)), trivial⟩⟩⟩, ⟨(eqR (loop_five (by omega))), trivial⟩, rfl⟩
  ·
   have h2' := of_decide_eq_false h2
   refine t_exit rfl ?_
   refine tsr ?_
   refine r_op oM ?_
   refine r_op oA ?_
   refine r_end ?_
   refine t_ret Tryz.func195 (.tmp rfl .nil) rfl fun E S w u hI hd => ?_
   refine post_mk hI hd ?_ ⟨eqR ?_, trivial⟩ rfl rfl rfl <;> clear hI hd <;> (try clear ih0)
   all_goals first | rfl | ((obtain rfl : n = 5 := by omega); rfl)
set_option maxHeartbeats 1000000 in
set_option maxRecDepth 10000 in
theorem c_impl_unboundBinding  : Pu Tryz.prog 184 [] [(1, some (.row none 3 true 1 encI (freeB)))] 2 (.c (.own 1)) := by
 refine pu_enter Tryz.func184 rfl (Nat.le_of_ble_eq_true rfl) fun w S => ?_
 refine tsr ?_
 refine r_op oA ?_
 refine etr ?_
 refine r_op (o_lit1 0 (e := 3) (sz := 1) (zs := [.int .i64 (0)]) (enc := encI) (10) rfl rfl (by kernel_rfl) rfl rfl rfl rfl rfl rfl (.cons .sc .nil)) ?_
 refine r_op (o_call 1 2 false (Go.Proofs.enters_of Tryz.func195 (by kernel_rfl) rfl) (c_slices_Repeat___int_int_ ) rfl (.cons rfl (.c (.own rfl)) (.cons rfl (.c .t0) .nil)) rfl rfl rfl) ?_
 refine r_op oA ?_
 refine r_end ?_
 refine t_ret Tryz.func184 (.tmp rfl .nil) rfl fun E S w u hI hd => ?_
 refine post_mk hI hd ?_ ⟨eqR ?_, trivial⟩ rfl rfl rfl <;> clear hI hd
 all_goals (rfl)
set_option maxHeartbeats 1000000 in
set_option maxRecDepth 10000 in
theorem c_slices_Clone___int_int_ (l : List Int) (hl : l.length ≤ 1099511627776) : Pu Tryz.prog 59 [.c (.t none (.sl 1 encI (l)))] [(0, some (.row none 3 true 1 encI (l)))] 1 (.c (.own 0)) := by
 refine pu_enter Tryz.func59 rfl (Nat.le_of_ble_eq_true rfl) fun w S => ?_
 refine tsr ?_
 refine r_op oA ?_
 refine r_end ?_
 refine t_seq ?_
 refine tsr ?_
 refine r_op oM ?_
 refine r_eqnil rfl rfl rfl (fun en1 => ?_) ?_
 ·
  refine r_end ?_
  refine t_cond rfl (fun _ => ?_) (nc rfl)
  refine tsr ?_
  refine r_op oA ?_
  refine r_end ?_
  refine gt_nil 0 (t := 2) (et := 3) (sz := 1) true encI rfl rfl ?_
  refine t_ret Tryz.func59 (.tmp rfl .nil) rfl fun E S w u hI hd => ?_
  refine post_mk hI hd ?_ ⟨eqR ?_, trivial⟩ rfl rfl rfl <;> clear hI hd
  all_goals first | rfl | ((exact en1.symm))
 ·
  refine r_end ?_
  refine t_cond rfl (ncf rfl) (fun _ => ?_)
  refine t_skip ?_
  refine tsr ?_
  refine r_op (o_lit0 0 (e := 3) (sz := 1) (zs := [.int .i64 (0)]) encI rfl rfl (by kernel_rfl) rfl) ?_
  refine r_op oM ?_
  refine r_op (o_appendS 0 (e := 3) (sz := 1) (by' := 8) rfl (by kernel_rfl) rfl rfl rfl rfl (fun _ _ => ⟨_, rfl⟩) (by (simp; omega)) (by (simp; omega))) ?_
  refine r_op oA ?_
  refine r_end ?_
  refine t_ret Tryz.func59 (.tmp rfl .nil) rfl fun E S w u hI hd => ?_
  refine post_mk hI hd ?_ ⟨eqR ?_, trivial⟩ rfl rfl rfl <;> clear hI hd
  all_goals (rfl)
set_option maxHeartbeats 1000000 in
set_option maxRecDepth 10000 in
theorem c_impl_bind (b : List Int) (r : Int) (ts : List Int) (r2 : Int) (vs : List Int) (hb : b.length = 5) (ha : ts.length ≤ 4611686018427387904) (ht : ∀ t ∈ ts, -10 ≤ t ∧ t ≤ 4) (hv : r = r2 → ts.length = vs.length) : Pu Tryz.prog 171 [.c (.t none (.sl 1 encI (b))), .agg [.t none (.v (.int .i64 (r))), .t none (.sl 1 encI (ts))], .agg [.t none (.v (.int .i64 (r2))), .t none (.sl 1 encI (vs))]] [(0, some (.row none 3 true 1 encI (if (fitF (r, ts) (r2, vs) b).2 = true then (fitF (r, ts) (r2, vs) b).1 else [])))] 1 (.tup [(false, [.own 0]), (false, [.t none (.v (.bool ((fitF (r, ts) (r2, vs) b).2)))])]) := by
 refine pu_enter Tryz.func171 rfl (Nat.le_of_ble_eq_true rfl) fun w S => ?_
 refine tsr ?_
 refine r_op (o_box 0 rfl rfl rfl rfl) ?_
 refine r_op (o_box 1 rfl rfl rfl rfl) ?_
 refine r_op oA ?_
 refine r_op oA ?_
 refine r_end ?_
 refine t_seq ?_
 refine tsr ?_
 refine r_op (oF 0) ?_
 refine r_op oL ?_
 refine r_op (oF 0) ?_
 refine r_op oL ?_
 refine r_op oB ?_
 refine r_end ?_
 refine t_cond rfl (fun h1 => ?_) (fun h1 => ?_)
 ·
  have h1' := of_decide_eq_true h1
  refine tsr ?_
  refine r_op oA ?_
  refine r_op oA ?_
  refine r_end ?_
  refine gt_nil 2 (t := 6) (et := 3) (sz := 1) true encI rfl rfl ?_
  refine gt_as0b 6 2 7 rfl rfl rfl rfl ?_
  refine t_ret Tryz.func171 (.tmp rfl (.tmp rfl .nil)) rfl fun E S w u hI hd => ?_
  refine post_mk hI hd ?_ ⟨eqR ?_, trivial⟩ rfl rfl rfl <;> clear hI hd <;> (try clear ih0)
  all_goals ((have e : fitF (r, ts) (r2, vs) b = _ := (by exact fitF_no (by omega))); first | (rw [e]; done) | (rw [e]; rfl))
 ·
  have h1' := of_decide_eq_false h1
  refine t_skip ?_
  refine tsr ?_
  refine r_op oM ?_
  refine r_op (o_call 2 3 false (Go.Proofs.enters_of Tryz.func59 (by kernel_rfl) rfl) (c_slices_Clone___int_int_ (b) (by omega)) rfl (.cons rfl (.c .t0) .nil) rfl rfl rfl) ?_
  refine r_op oA ?_
  refine r_end ?_
  refine t_seq ?_
  refine tsr ?_
  refine r_op (oF 1) ?_
  refine r_op oL ?_
  refine r_op (o_len rfl rfl rfl) ?_
  refine r_op oM ?_
  refine r_end ?_
  refine t_block ?_
  refine t_loopL (fun (m, q) => ⟨[(5, some (.c (.ptr 1 0))), (8, some (.c (.own 2))), (20, some (.c (.t none (.sl 1 encI (ts))))), (21, some (.c (.t none (.v (.int .i64 (((ts).length : Int))))))), (22, some (.c (.t none (.v (.int .i64 ((m : Int)))))))], [(0, some (.box [.t none (.v (.int .i64 (r))), .t none (.sl 1 encI (ts))])), (1, some (.box [.t none (.v (.int .i64 (r2))), .t none (.sl 1 encI (vs))])), (2, some (.row none 3 true 1 encI (q)))], 3⟩ : Nat × List Int → St) (fun (m, q) => m ≤ ts.length ∧ q.length = 5 ∧ fitP b ((ts.zip vs).take m) = (q, true)) (fun (m, q) => ts.length - m) (0, b) ⟨⟨rfl, ⟨rfl, ⟨rfl, ⟨rfl, ⟨rfl, trivial⟩⟩⟩⟩⟩, ⟨rfl, ⟨rfl, ⟨rfl, trivial⟩⟩⟩, rfl⟩ (by exact ⟨Nat.zero_le _, hb, rfl⟩) ?_
  rintro ⟨m, q⟩ hI ih0
  try dsimp only at hI ih0
  obtain ⟨i1, i2, i3⟩ := hI
  refine tsr ?_
  refine r_op oB ?_
  refine r_end ?_
  refine t_seq ?_
  refine t_cond rfl (fun h2 => ?_) (fun h2 => ?_)
  ·
   have h2' := of_decide_eq_true h2
   refine t_skip ?_
   refine t_seq ?_
   refine t_block ?_
   refine tsr ?_
   refine r_op oM ?_
   obtain ⟨z3, hz4, b5⟩ := at_get (xs := ts) (n := (m : Int)) (by omega) (by omega)
   refine r_op (o_index rfl (by kernel_rfl) rfl rfl b5 hz4) ?_
   refine r_op (o_load1 rfl (by kernel_rfl) rfl rfl) ?_
   refine r_op oA ?_
   refine r_op oA ?_
   refine etr ?_
   refine r_op (oF 1) ?_
   refine r_op oL ?_
   refine r_op oM ?_
   obtain ⟨z6, hz7, b8⟩ := at_get (xs := vs) (n := (m : Int)) (by omega) (by omega)
   refine r_op (o_index rfl (by kernel_rfl) rfl rfl b8 hz7) ?_
   refine r_op (o_load1 rfl (by kernel_rfl) rfl rfl) ?_
   refine r_op oA ?_
   refine r_end ?_
   refine t_block ?_
   refine tsr ?_
   refine r_op oM ?_
   refine r_op oB ?_
   refine r_op oA ?_
   refine r_end ?_
   refine t_cond rfl (fun h9 => ?_) (fun h9 => ?_)
   ·
    have h9' := of_decide_eq_true h9
    refine tsr ?_
    refine r_op oM ?_
    refine r_op oM ?_
    refine r_op oB ?_
    refine r_op oB ?_
    refine r_end ?_
    refine t_cond rfl (fun h10 => ?_) (fun h10 => ?_)
    ·
     have h10' := of_decide_eq_true h10
     refine tsr ?_
     refine r_op oA ?_
     refine r_op oA ?_
     refine r_end ?_
     refine gt_nil 3 (t := 6) (et := 3) (sz := 1) true encI rfl rfl ?_
     refine gt_as0b 6 3 7 rfl rfl rfl rfl ?_
     refine t_ret Tryz.func171 (.tmp rfl (.tmp rfl .nil)) rfl fun E S w u hI hd => ?_
     refine post_mk hI hd ?_ ⟨eqR ?_, trivial⟩ rfl rfl rfl <;> clear hI hd <;> (try clear ih0)
     all_goals ((have e : fitF (r, ts) (r2, vs) b = _ := (by exact fitF_yes (by omega) (fit_bad i3 (zip_at hz4 hz7 rfl rfl) (fs_neg_bad (by omega) (by (have o1 := ht _ (List.mem_of_getElem? hz4); have o2 : IntKind.i64.wrap (-1 - z3) = -1 - z3 := wr64 (by omega) (by omega); omega)))))); first | (rw [e]; done) | (rw [e]; rfl))
    ·
     have h10' := of_decide_eq_false h10
     refine t_skip ?_
     refine t_endblock ?_
     refine t_endblock ?_
     refine t_region ?_
     refine r_op oB ?_
     refine r_op oM ?_
     refine r_end ?_
     refine t_le ?_ (ih0 (m + 1, q) (by (try dsimp only); omega) (by (try dsimp only); exact ⟨by omega, (by exact i2), by (exact fit_more i3 (zip_at hz4 hz7 rfl rfl) (fs_neg (by omega) (by (have o1 := ht _ (List.mem_of_getElem? hz4); have o2 : IntKind.i64.wrap (-1 - z3) = -1 - z3 := wr64 (by omega) (by omega); omega))))⟩))
     exact ⟨⟨rfl, ⟨rfl, ⟨rfl, ⟨rfl, ⟨(eqI (wr64 (by omega) (by omega))), trivial⟩⟩⟩⟩⟩, ⟨rfl, ⟨rfl, ⟨rfl, trivial⟩⟩⟩, rfl⟩
   ·
    have h9' := of_decide_eq_false h9
    refine tsr ?_
    refine r_op oM ?_
    refine r_op oM ?_
    obtain ⟨z11, hz12, b13⟩ := at_get (xs := q) (n := z3) (by omega) (by (have o1 := ht _ (List.mem_of_getElem? (by assumption)); omega))
    refine r_op (o_indexo rfl (by kernel_rfl) rfl rfl rfl b13 (at_lt b13 hz12)) ?_
    refine r_op (o_load1o rfl (by kernel_rfl) rfl rfl rfl hz12) ?_
    refine r_op oB ?_
    refine r_op oA ?_
    refine r_end ?_
    refine t_cond rfl (fun h14 => ?_) (fun h14 => ?_)
    ·
     have h14' := of_decide_eq_true h14
     refine t_region ?_
     refine r_op oM ?_
     refine r_op oM ?_
     refine r_op oM ?_
     refine r_op (o_indexo rfl (by kernel_rfl) rfl rfl rfl b13 (at_lt b13 hz12)) ?_
     refine r_op (o_storeo (z6) (n := 1) (by kernel_rfl) rfl rfl hz12 rfl rfl rfl rfl (.cons .sc .nil) rfl (fun j h1 h2 => by (simp at h1 h2; omega))) ?_
     refine r_end ?_
     refine t_endblock ?_
     refine t_endblock ?_
     refine t_region ?_
     refine r_op oB ?_
     refine r_op oM ?_
     refine r_end ?_
     refine t_le ?_ (ih0 (m + 1, (q).set (z3).toNat (z6)) (by (try dsimp only); omega) (by (try dsimp only); exact ⟨by omega, (by (rw [List.length_set]; exact i2)), by (exact fit_more i3 (zip_at hz4 hz7 rfl rfl) (fs_set (by omega) hz12 (by omega)))⟩))
     exact ⟨⟨rfl, ⟨rfl, ⟨rfl, ⟨rfl, ⟨(eqI (wr64 (by omega) (by omega))), trivial⟩⟩⟩⟩⟩, ⟨rfl, ⟨rfl, ⟨rfl, trivial⟩⟩⟩, rfl⟩
    ·
     have h14' := of_decide_eq_false h14
     refine tsr ?_
     refine r_op oM ?_
     refine r_op oM ?_
     refine r_op (o_indexo rfl (by kernel_rfl) rfl rfl rfl b13 (at_lt b13 hz12)) ?_
     refine r_op (o_load1o rfl (by kernel_rfl) rfl rfl rfl hz12) ?_
     refine r_op oM ?_
     refine r_op oB ?_
     refine r_op oA ?_
     refine r_end ?_
     refine t_cond rfl (fun h15 => ?_) (fun h15 => ?_)
     ·
      have h15' := of_decide_eq_true h15
      refine tsr ?_
      refine r_op oA ?_
      refine r_op oA ?_
      refine r_end ?_
      refine gt_nil 3 (t := 6) (et := 3) (sz := 1) true encI rfl rfl ?_
      refine gt_as0b 6 3 7 rfl rfl rfl rfl ?_
      refine t_ret Tryz.func171 (.tmp rfl (.tmp rfl .nil)) rfl fun E S w u hI hd => ?_
      refine post_mk hI hd ?_ ⟨eqR ?_, trivial⟩ rfl rfl rfl <;> clear hI hd <;> (try clear ih0)
      all_goals ((have e : fitF (r, ts) (r2, vs) b = _ := (by exact fitF_yes (by omega) (fit_bad i3 (zip_at hz4 hz7 rfl rfl) (fs_bad (by omega) hz12 (by omega) (by omega))))); first | (rw [e]; done) | (rw [e]; rfl))
     ·
      have h15' := of_decide_eq_false h15
      refine t_skip ?_
      refine t_endblock ?_
      refine t_endblock ?_
      refine t_region ?_
      refine r_op oB ?_
      refine r_op oM ?_
      refine r_end ?_
      refine t_le ?_ (ih0 (m + 1, q) (by (try dsimp only); omega) (by (try dsimp only); exact ⟨by omega, (by exact i2), by (exact fit_more i3 (zip_at hz4 hz7 rfl rfl) (fs_same (by omega) hz12 (by omega)))⟩))
      exact ⟨⟨rfl, ⟨rfl, ⟨rfl, ⟨rfl, ⟨(eqI (wr64 (by omega) (by omega))), trivial⟩⟩⟩⟩⟩, ⟨rfl, ⟨rfl, ⟨rfl, trivial⟩⟩⟩, rfl⟩
  ·
   have h2' := of_decide_eq_false h2
   refine t_exit rfl ?_
   refine tsr ?_
   refine r_op oM ?_
   refine r_op oA ?_
   refine r_op oA ?_
   refine r_end ?_
   refine gt_as0b 6 2 7 rfl rfl rfl rfl ?_
   refine t_ret Tryz.func171 (.tmp rfl (.tmp rfl .nil)) rfl fun E S w u hI hd => ?_
   refine post_mk hI hd ?_ ⟨eqR ?_, trivial⟩ rfl rfl rfl <;> clear hI hd <;> (try clear ih0)
   all_goals ((have e : fitF (r, ts) (r2, vs) b = _ := (by exact fitF_yes (by omega) (fit_end i3 (by omega)))); first | (rw [e]; done) | (rw [e]; rfl))
set_option maxHeartbeats 1000000 in
set_option maxRecDepth 10000 in
theorem c_impl_matches_n : ∀ (n : Nat) (U : Nat → Value) (fs l : Atoms) (b : List Int) (hf : fs.length ≤ 30) (hl : l.length ≤ 3) (hb : b.length = 5) (hv : ∀ a ∈ l, ∀ f ∈ fs, a.1 = f.1 → a.2.length = f.2.length) (ht : ∀ a ∈ l, (∀ t ∈ a.2, -10 ≤ t ∧ t ≤ 4) ∧ a.2.length ≤ 4611686018427387904) (hn : l.length = n), Mu Tryz.prog 150 [.c (.t none (.sl 2 (enS2 encI (enSl 1 encI)) (fs))), .c (.t none (.sl 2 (enS2 encI (enSl 1 encI)) (l))), .c (.own 0)] [(0, some (.row (some (U 0)) 3 true 1 encI (b)))] 1 [(0, some (.row none 43 true 1 (enSl 1 encI) (matchL fs l b)))] 1 (.c (.own 0)) := by
 refine rec_on fun n ih => ?_
 intro U fs l b hf hl hb hv ht hn
 have rec_ : ∀ (U : Nat → Value) (fs l : Atoms) (b : List Int) (hdec : l.length < n) (hf : fs.length ≤ 30) (hl : l.length ≤ 3) (hb : b.length = 5) (hv : ∀ a ∈ l, ∀ f ∈ fs, a.1 = f.1 → a.2.length = f.2.length) (ht : ∀ a ∈ l, (∀ t ∈ a.2, -10 ≤ t ∧ t ≤ 4) ∧ a.2.length ≤ 4611686018427387904), Mu Tryz.prog 150 [.c (.t none (.sl 2 (enS2 encI (enSl 1 encI)) (fs))), .c (.t none (.sl 2 (enS2 encI (enSl 1 encI)) (l))), .c (.own 0)] [(0, some (.row (some (U 0)) 3 true 1 encI (b)))] 1 [(0, some (.row none 43 true 1 (enSl 1 encI) (matchL fs l b)))] 1 (.c (.own 0)) := fun U fs l b hdec hf hl hb hv ht => ih _ hdec U fs l b hf hl hb hv ht rfl
 refine mu_enter Tryz.func150 rfl (Nat.le_of_ble_eq_true rfl) fun w S M => ?_
 refine tsr ?_
 refine r_op oA ?_
 refine r_end ?_
 refine t_seq ?_
 refine tsr ?_
 refine r_op oM ?_
 refine r_op (o_len rfl rfl rfl) ?_
 refine r_op oB ?_
 refine r_end ?_
 refine t_cond rfl (fun h1 => ?_) (fun h1 => ?_)
 ·
  have h1' := of_decide_eq_true h1
  refine tsr ?_
  refine r_op oM ?_
  refine r_op (o_lit2 1 (e := 43) (sz := 1) (zs := [.slice none 0 0]) (enc := (enSl 1 encI)) (b) rfl rfl (by kernel_rfl) rfl rfl rfl rfl rfl rfl (.take (.own rfl) rfl .nil) rfl) ?_
  refine r_op oA ?_
  refine r_end ?_
  refine gt_as0 6 1 rfl rfl ?_
  refine t_ret Tryz.func150 (.tmp rfl .nil) rfl fun E S w u hI hd => ?_
  refine postM_mk hI hd ?_ ⟨eqR ?_, trivial⟩ rfl rfl <;> clear hI hd <;> (try clear ih0)
  all_goals first | rfl | ((exact (matchL_nil (by assumption)).symm))
 ·
  have h1' := of_decide_eq_false h1
  refine t_skip ?_
  refine tsr ?_
  refine r_op (o_lit0 1 (e := 43) (sz := 1) (zs := [.slice none 0 0]) (enSl 1 encI) rfl rfl (by kernel_rfl) rfl) ?_
  refine r_op oA ?_
  refine r_end ?_
  refine t_seq ?_
  refine tsr ?_
  refine r_op oM ?_
  refine r_op (o_len rfl rfl rfl) ?_
  refine r_op oM ?_
  refine r_end ?_
  refine t_block ?_
  refine t_loopL (fun m => ⟨[(0, some (.c (.t none (.sl 2 (enS2 encI (enSl 1 encI)) (fs))))), (1, some (.c (.t none (.sl 2 (enS2 encI (enSl 1 encI)) (l))))), (2, some (.c (.own 0))), (6, some (.c (.t none (.v (.slice none 0 0))))), (7, some (.c (.own 1))), (18, some (.c (.t none (.sl 2 (enS2 encI (enSl 1 encI)) (fs))))), (19, some (.c (.t none (.v (.int .i64 (((fs).length : Int))))))), (20, some (.c (.t none (.v (.int .i64 ((m : Int)))))))], [(0, some (.row (some (U 0)) 3 true 1 encI (b))), (1, some (.row none 43 true 1 (enSl 1 encI) (matchM fs l b m)))], 2⟩ : Nat → St) (fun m => m ≤ fs.length) (fun m => fs.length - m) 0 ⟨⟨rfl, ⟨rfl, ⟨rfl, ⟨rfl, ⟨rfl, ⟨rfl, ⟨rfl, ⟨rfl, trivial⟩⟩⟩⟩⟩⟩⟩⟩, ⟨rfl, ⟨(eqR (matchM_z (by assumption)).symm), trivial⟩⟩, rfl⟩ (by exact Nat.zero_le _) ?_
  rintro m hI ih0
  try dsimp only at hI ih0
  have i1 := hI
  refine tsr ?_
  refine r_op oB ?_
  refine r_end ?_
  refine t_seq ?_
  refine t_cond rfl (fun h2 => ?_) (fun h2 => ?_)
  ·
   have h2' := of_decide_eq_true h2
   refine t_skip ?_
   refine t_seq ?_
   refine t_block ?_
   refine tsr ?_
   obtain ⟨z3, hz4, b5⟩ := at_get (xs := fs) (n := (m : Int)) (by omega) (by omega)
   refine r_op (o_index rfl (by kernel_rfl) rfl rfl b5 hz4) ?_
   refine r_op (o_loadA rfl (n := 2) (by kernel_rfl) (by kernel_rfl) rfl rfl) ?_
   refine r_op (o_alloc 2 (zs := [.int .i64 (0), .slice none 0 0]) rfl rfl (by kernel_rfl) rfl) ?_
   refine r_op (oS 2) ?_
   refine r_end ?_
   refine t_seq ?_
   refine t_draw (fun _ => true) (by kernel_rfl) ?_
   refine dT 0 rfl pM ?_
   refine dT 1 rfl pM ?_
   obtain ⟨z6, hz7, b8⟩ := at_get (xs := l) (n := 0) (by omega) (by omega)
   refine dT 2 rfl (p_index (by kernel_rfl) rfl rfl b8 hz7) ?_
   refine dT 3 rfl (p_loadA (n := 2) (by kernel_rfl) (by kernel_rfl) rfl rfl) ?_
   refine dT 4 rfl (pC 2) ?_
   refine dO 5 rfl (o_call 3 4 false (Go.Proofs.enters_of Tryz.func171 (by kernel_rfl) rfl) (c_impl_bind (b) (z6.1) (z6.2) (z3.1) (z3.2) (by omega) (by exact (ht _ (List.mem_of_getElem? (by assumption))).2) (by exact (ht _ (List.mem_of_getElem? (by assumption))).1) (by exact hv _ (List.mem_of_getElem? (by assumption)) _ (List.mem_of_getElem? (by assumption)))) rfl (.cons rfl (.c (.own rfl)) (.cons rfl (.agg (.cons .t0 (.cons .t0 .nil))) (.cons rfl (.agg (.cons .t0 (.cons .t0 .nil))) .nil))) rfl rfl rfl) ?_
   refine dT 6 rfl pM ?_
   refine dT 7 rfl (p_extract rfl rfl rfl) ?_
   refine dT 8 rfl (p_extract rfl rfl rfl) ?_
   refine dT 9 rfl pA ?_
   refine dT 10 rfl pA ?_
   refine d_end (by kernel_rfl) ?_
   refine tsr ?_
   refine r_op oM ?_
   refine r_end ?_
   refine t_cond rfl (fun h9 => ?_) (fun h9 => ?_)
   ·
    have h9' := h9
    refine t_region ?_
    refine r_op oM ?_
    refine r_op oM ?_
    refine r_op oM ?_
    refine r_op (o_sub rfl (by kernel_rfl) rfl (.l rfl (by omega) (by omega))) ?_
    refine r_op oM ?_
    refine r_op (o_callD 3 (matchL (fs) (((l).take (l).length).drop ((1 : Int)).toNat) (if (fitF ((z6.1), (z6.2)) ((z3.1), (z3.2)) (b)).2 = true then (fitF ((z6.1), (z6.2)) ((z3.1), (z3.2)) (b)).1 else [])) (Go.Proofs.enters_of Tryz.func150 (by kernel_rfl) rfl) (fun U => rec_ U  (fs) (((l).take (l).length).drop ((1 : Int)).toNat) (if (fitF ((z6.1), (z6.2)) ((z3.1), (z3.2)) (b)).2 = true then (fitF ((z6.1), (z6.2)) ((z3.1), (z3.2)) (b)).1 else []) (by (simp only [List.length_drop, List.length_take]; omega)) (by omega) (by (simp only [List.length_drop, List.length_take]; omega)) (by (rw [if_pos (by assumption)]; exact (fitF_len _ _ _).trans hb)) (by exact fun a ha => hv a (mem_tail ha)) (by exact fun a ha => ht a (mem_tail ha))) rfl rfl (.cons rfl .t0 (.cons rfl .t0 (.cons rfl (.own rfl) .nil)))) ?_
    refine r_op (o_appendD 1 (e := 43) (sz := 1) (by' := 24) rfl (by kernel_rfl) rfl rfl rfl rfl rfl rfl (by (refine Nat.le_trans (Nat.mul_le_mul_right _ (room_m hf hl (ne_nil_of (by assumption)) (by simp only [List.length_drop, List.length_take]; omega))) (by decide))) (by exact Nat.le_trans (room_m hf hl (ne_nil_of (by assumption)) (by simp only [List.length_drop, List.length_take]; omega)) (by decide))) ?_
    refine r_op oA ?_
    refine r_end ?_
    refine t_endblock ?_
    refine t_region ?_
    refine r_op oB ?_
    refine r_op oM ?_
    refine r_end ?_
    refine t_le ?_ (ih0 (m + 1) (by (try dsimp only); omega) (by (try dsimp only); omega))
    exact ⟨⟨rfl, ⟨rfl, ⟨rfl, ⟨rfl, ⟨rfl, ⟨rfl, ⟨rfl, ⟨(eqI (wr64 (by omega) (by omega))), trivial⟩⟩⟩⟩⟩⟩⟩⟩, ⟨rfl, ⟨(eqR (by (have e := matchM_yes (fs := fs) (l := l) (b := b) (m := m) hz7 rfl hz4 rfl (by assumption); rw [e, if_pos (by assumption), List.take_length]; rfl))), trivial⟩⟩, rfl⟩
   ·
    have h9' := h9
    refine t_skip ?_
    refine t_endblock ?_
    refine t_region ?_
    refine r_op oB ?_
    refine r_op oM ?_
    refine r_end ?_
    refine t_le ?_ (ih0 (m + 1) (by (try dsimp only); omega) (by (try dsimp only); omega))
    exact ⟨⟨rfl, ⟨rfl, ⟨rfl, ⟨rfl, ⟨rfl, ⟨rfl, ⟨rfl, ⟨(eqI (wr64 (by omega) (by omega))), trivial⟩⟩⟩⟩⟩⟩⟩⟩, ⟨rfl, ⟨(eqR (by exact (matchM_no hz7 rfl hz4 rfl (by assumption)).symm)), trivial⟩⟩, rfl⟩
  ·
   have h2' := of_decide_eq_false h2
   refine t_exit rfl ?_
   refine tsr ?_
   refine r_op oM ?_
   refine r_op oA ?_
   refine r_end ?_
   refine gt_as0 6 1 rfl rfl ?_
   refine t_ret Tryz.func150 (.tmp rfl .nil) rfl fun E S w u hI hd => ?_
   refine postM_mk hI hd ?_ ⟨eqR ?_, trivial⟩ rfl rfl <;> clear hI hd <;> (try clear ih0)
   all_goals first | rfl | ((exact matchM_end (ne_nil_of (by assumption)) (by omega)))
theorem c_impl_matches (U : Nat → Value) (fs l : Atoms) (b : List Int) (hf : fs.length ≤ 30) (hl : l.length ≤ 3) (hb : b.length = 5) (hv : ∀ a ∈ l, ∀ f ∈ fs, a.1 = f.1 → a.2.length = f.2.length) (ht : ∀ a ∈ l, (∀ t ∈ a.2, -10 ≤ t ∧ t ≤ 4) ∧ a.2.length ≤ 4611686018427387904) : Mu Tryz.prog 150 [.c (.t none (.sl 2 (enS2 encI (enSl 1 encI)) (fs))), .c (.t none (.sl 2 (enS2 encI (enSl 1 encI)) (l))), .c (.own 0)] [(0, some (.row (some (U 0)) 3 true 1 encI (b)))] 1 [(0, some (.row none 43 true 1 (enSl 1 encI) (matchL fs l b)))] 1 (.c (.own 0)) := c_impl_matches_n _ U fs l b hf hl hb hv ht rfl
set_option maxHeartbeats 1000000 in
set_option maxRecDepth 10000 in
theorem c_slices_Equal___int_int_ (a b : List Int) (ha : a.length ≤ 4611686018427387904) : Pu Tryz.prog 198 [.c (.t none (.sl 1 encI (a))), .c (.t none (.sl 1 encI (b)))] [] 0 (.c (.t none (.v (.bool (decide (a = b)))))) := by
 refine pu_enter Tryz.func198 rfl (Nat.le_of_ble_eq_true rfl) fun w S => ?_
 refine tsr ?_
 refine r_op oA ?_
 refine r_end ?_
 refine t_seq ?_
 refine tsr ?_
 refine r_op oM ?_
 refine r_op (o_len rfl rfl rfl) ?_
 refine r_op oM ?_
 refine r_op (o_len rfl rfl rfl) ?_
 refine r_op oB ?_
 refine r_end ?_
 refine t_cond rfl (fun h1 => ?_) (fun h1 => ?_)
 ·
  have h1' := of_decide_eq_true h1
  refine tsr ?_
  refine r_op oA ?_
  refine r_end ?_
  refine t_ret Tryz.func198 (.tmp rfl .nil) rfl fun E S w u hI hd => ?_
  refine post_mk hI hd ?_ trivial rfl rfl rfl <;> clear hI hd <;> (try clear ih0)
  all_goals ((have : a ≠ b := by rintro rfl; simp at *); simp [this])
 ·
  have h1' := of_decide_eq_false h1
  refine t_skip ?_
  refine t_seq ?_
  refine tsr ?_
  refine r_op oM ?_
  refine r_op (o_len rfl rfl rfl) ?_
  refine r_op oM ?_
  refine r_end ?_
  refine t_block ?_
  refine t_loopL (fun m => ⟨[(0, some (.c (.t none (.sl 1 encI (a))))), (1, some (.c (.t none (.sl 1 encI (b))))), (12, some (.c (.t none (.v (.int .i64 (((a).length : Int))))))), (13, some (.c (.t none (.v (.int .i64 ((m : Int)))))))], [], 0⟩ : Nat → St) (fun m => m ≤ a.length ∧ a.length = b.length ∧ a.take m = b.take m) (fun m => a.length - m) 0 ⟨⟨rfl, ⟨rfl, ⟨rfl, ⟨rfl, trivial⟩⟩⟩⟩, trivial, rfl⟩ (by exact ⟨Nat.zero_le _, by omega, rfl⟩) ?_
  rintro m hI ih0
  try dsimp only at hI ih0
  obtain ⟨i1, i2, i3⟩ := hI
  refine tsr ?_
  refine r_op oB ?_
  refine r_end ?_
  refine t_seq ?_
  refine t_cond rfl (fun h2 => ?_) (fun h2 => ?_)
  ·
   have h2' := of_decide_eq_true h2
   refine t_skip ?_
   refine t_seq ?_
   refine t_block ?_
   refine tsr ?_
   refine r_op oM ?_
   refine r_op oA ?_
   refine r_end ?_
   refine t_seq ?_
   refine t_draw (fun _ => true) (by kernel_rfl) ?_
   refine dT 0 rfl pM ?_
   refine dT 1 rfl pM ?_
   obtain ⟨z3, hz4, b5⟩ := at_get (xs := a) (n := (m : Int)) (by omega) (by omega)
   refine dT 2 rfl (p_index (by kernel_rfl) rfl rfl b5 hz4) ?_
   refine dT 3 rfl (p_load1 (by kernel_rfl) rfl rfl) ?_
   refine dT 4 rfl pM ?_
   refine dT 5 rfl pM ?_
   obtain ⟨z6, hz7, b8⟩ := at_get (xs := b) (n := (m : Int)) (by omega) (by omega)
   refine dT 6 rfl (p_index (by kernel_rfl) rfl rfl b8 hz7) ?_
   refine dT 7 rfl (p_load1 (by kernel_rfl) rfl rfl) ?_
   refine dT 8 rfl pB ?_
   refine d_end (by kernel_rfl) ?_
   refine t_cond rfl (fun h9 => ?_) (fun h9 => ?_)
   ·
    have h9' := of_decide_eq_true h9
    refine tsr ?_
    refine r_op oA ?_
    refine r_end ?_
    refine t_ret Tryz.func198 (.tmp rfl .nil) rfl fun E S w u hI hd => ?_
    refine post_mk hI hd ?_ trivial rfl rfl rfl <;> clear hI hd <;> (try clear ih0)
    all_goals (have := ne_at (a := a) (b := b) (by assumption) (by assumption) (by assumption); simp_all)
   ·
    have h9' := of_decide_eq_false h9
    refine t_skip ?_
    refine t_endblock ?_
    refine t_region ?_
    refine r_op oB ?_
    refine r_op oM ?_
    refine r_end ?_
    refine t_le ?_ (ih0 (m + 1) (by (try dsimp only); omega) (by (try dsimp only); exact ⟨by omega, i2, take_same i3 (same_at (by assumption) (by assumption) (by omega))⟩))
    exact ⟨⟨rfl, ⟨rfl, ⟨rfl, ⟨(eqI (wr64 (by omega) (by omega))), trivial⟩⟩⟩⟩, trivial, rfl⟩
  ·
   have h2' := of_decide_eq_false h2
   refine t_exit rfl ?_
   refine tsr ?_
   refine r_op oA ?_
   refine r_end ?_
   refine t_ret Tryz.func198 (.tmp rfl .nil) rfl fun E S w u hI hd => ?_
   refine post_mk hI hd ?_ trivial rfl rfl rfl <;> clear hI hd <;> (try clear ih0)
   all_goals ((obtain rfl : m = a.length := by omega); rw [List.take_length, i2, List.take_length] at i3; simp [i3])
set_option maxHeartbeats 1000000 in
set_option maxRecDepth 10000 in
theorem c_impl_hasBinding_1 (y x : List Int) (hy : y.length ≤ 4611686018427387904) : Pu Tryz.prog 197 [.c (.t none (.sl 1 encI (y))), .c (.pel none ((enSl 1 encI) (x)) 1)] [] 0 (.c (.t none (.v (.bool (decide (y = x)))))) := by
 refine pu_enter Tryz.func197 rfl (Nat.le_of_ble_eq_true rfl) fun w S => ?_
 refine tsr ?_
 refine r_op oA ?_
 refine etr ?_
 refine r_op oM ?_
 refine r_op (o_load1 rfl (by kernel_rfl) rfl rfl) ?_
 refine r_op (o_call 0 0 false (Go.Proofs.enters_of Tryz.func198 (by kernel_rfl) rfl) (c_slices_Equal___int_int_ (y) (x) (by omega)) rfl (.cons rfl (.c .t0) (.cons rfl (.c .t0) .nil)) rfl rfl rfl) ?_
 refine r_op oA ?_
 refine r_end ?_
 refine t_ret Tryz.func197 (.tmp rfl .nil) rfl fun E S w u hI hd => ?_
 refine post_mk hI hd ?_ trivial rfl rfl rfl <;> clear hI hd
 all_goals (rfl)
set_option maxHeartbeats 1000000 in
set_option maxRecDepth 10000 in
theorem c_slices_IndexFunc_____int___int_ (l : List (List (Int))) (f : Nat) (cs : List ((Nat → T) × Nat)) (p : List (Int) → Bool) (hl : l.length ≤ 9223372036854775807) (hf : ∀ x ∈ l, Fu Tryz.prog f ([.c (.t none (.sl 1 encI (x)))] ++ pels cs) (.c (.t none (.v (.bool (p x)))))) : Pu Tryz.prog 211 [.c (.t none (.sl 1 (enSl 1 encI) (l))), .c (.fv f cs)] [] 0 (.c (.t none (.v (.int .i64 (idxI p l))))) := by
 refine pu_enter Tryz.func211 rfl (Nat.le_of_ble_eq_true rfl) fun w S => ?_
 refine tsr ?_
 refine r_op oA ?_
 refine r_end ?_
 refine t_seq ?_
 refine tsr ?_
 refine r_op oM ?_
 refine r_op (o_len rfl rfl rfl) ?_
 refine r_op oM ?_
 refine r_end ?_
 refine t_block ?_
 refine t_loopL (fun m => ⟨[(0, some (.c (.t none (.sl 1 (enSl 1 encI) (l))))), (1, some (.c (.fv f cs))), (7, some (.c (.t none (.v (.int .i64 (((l).length : Int))))))), (8, some (.c (.t none (.v (.int .i64 ((m : Int)))))))], [], 0⟩ : Nat → St) (fun m => m ≤ l.length ∧ ∀ j z, j < m → l[j]? = some z → p z = false) (fun m => l.length - m) 0 ⟨⟨rfl, ⟨rfl, ⟨rfl, ⟨rfl, trivial⟩⟩⟩⟩, trivial, rfl⟩ (by exact ⟨Nat.zero_le _, fun j z h => by omega⟩) ?_
 rintro m hI ih0
 try dsimp only at hI ih0
 obtain ⟨i1, i2⟩ := hI
 refine tsr ?_
 refine r_op oB ?_
 refine r_end ?_
 refine t_seq ?_
 refine t_cond rfl (fun h1 => ?_) (fun h1 => ?_)
 ·
  have h1' := of_decide_eq_true h1
  refine t_skip ?_
  refine t_seq ?_
  refine t_block ?_
  refine tsr ?_
  refine r_op oM ?_
  refine r_op oA ?_
  refine etr ?_
  refine r_op oM ?_
  refine r_op oM ?_
  refine r_op oM ?_
  obtain ⟨z2, hz3, b4⟩ := at_get (xs := l) (n := (m : Int)) (by omega) (by omega)
  refine r_op (o_index rfl (by kernel_rfl) rfl rfl b4 hz3) ?_
  refine r_op (o_load1 rfl (by kernel_rfl) rfl rfl) ?_
  refine r_op (o_callv 0 0 false (hf z2 (List.mem_of_getElem? (by assumption))).1 (hf z2 (List.mem_of_getElem? (by assumption))).2 rfl rfl (.c .fv) (.cons rfl (.c .t0) .nil) rfl rfl rfl) ?_
  refine r_end ?_
  refine t_cond rfl (fun h5 => ?_) (fun h5 => ?_)
  ·
   have h5' := h5
   refine tsr ?_
   refine r_op oM ?_
   refine r_op oA ?_
   refine r_end ?_
   refine t_ret Tryz.func211 (.tmp rfl .nil) rfl fun E S w u hI hd => ?_
   refine post_mk hI hd ?_ trivial rfl rfl rfl <;> clear hI hd <;> (try clear ih0)
   all_goals (rw [idx_hit i2 (by assumption) (by assumption)])
  ·
   have h5' := h5
   refine t_skip ?_
   refine t_endblock ?_
   refine t_region ?_
   refine r_op oB ?_
   refine r_op oM ?_
   refine r_end ?_
   refine t_le ?_ (ih0 (m + 1) (by (try dsimp only); omega) (by (try dsimp only); exact ⟨by omega, no_step i2 (by assumption) rfl (by assumption)⟩))
   exact ⟨⟨rfl, ⟨rfl, ⟨rfl, ⟨(eqI (wr64 (by omega) (by omega))), trivial⟩⟩⟩⟩, trivial, rfl⟩
 ·
  have h1' := of_decide_eq_false h1
  refine t_exit rfl ?_
  refine tsr ?_
  refine r_op oA ?_
  refine r_end ?_
  refine t_ret Tryz.func211 (.tmp rfl .nil) rfl fun E S w u hI hd => ?_
  refine post_mk hI hd ?_ trivial rfl rfl rfl <;> clear hI hd <;> (try clear ih0)
  all_goals (rw [idx_none i2 (by omega)])
set_option maxHeartbeats 1000000 in
set_option maxRecDepth 10000 in
theorem c_slices_ContainsFunc_____int___int_ (l : List (List (Int))) (f : Nat) (cs : List ((Nat → T) × Nat)) (p : List (Int) → Bool) (hl : l.length ≤ 9223372036854775807) (hf : ∀ x ∈ l, Fu Tryz.prog f ([.c (.t none (.sl 1 encI (x)))] ++ pels cs) (.c (.t none (.v (.bool (p x)))))) : Pu Tryz.prog 196 [.c (.t none (.sl 1 (enSl 1 encI) (l))), .c (.fv f cs)] [] 0 (.c (.t none (.v (.bool (l.any p))))) := by
 refine pu_enter Tryz.func196 rfl (Nat.le_of_ble_eq_true rfl) fun w S => ?_
 refine tsr ?_
 refine r_op oA ?_
 refine etr ?_
 refine r_op oM ?_
 refine r_op oM ?_
 refine r_op (o_call 0 0 false (Go.Proofs.enters_of Tryz.func211 (by kernel_rfl) rfl) (c_slices_IndexFunc_____int___int_ (l) (f) (cs) (p) (by omega) (hf)) rfl (.cons rfl (.c .t0) (.cons rfl (.c .fv) .nil)) rfl rfl rfl) ?_
 refine r_op oB ?_
 refine r_op oA ?_
 refine r_end ?_
 refine t_ret Tryz.func196 (.tmp rfl .nil) rfl fun E S w u hI hd => ?_
 refine post_mk hI hd ?_ trivial rfl rfl rfl <;> clear hI hd
 all_goals (exact scB idx_any)
set_option maxHeartbeats 1000000 in
set_option maxRecDepth 10000 in
theorem c_impl_hasBinding (l : List (List Int)) (x : List Int) (hn : l.length ≤ 1048576) (hl : ∀ y ∈ l, y.length ≤ 1048576) : Pu Tryz.prog 185 [.c (.t none (.sl 1 (enSl 1 encI) (l))), .c (.t none (.sl 1 encI (x)))] [] 0 (.c (.t none (.v (.bool (hasR l x))))) := by
 refine pu_enter Tryz.func185 rfl (Nat.le_of_ble_eq_true rfl) fun w S => ?_
 refine tsr ?_
 refine r_op (o_box 0 rfl rfl rfl rfl) ?_
 refine r_op oA ?_
 refine etr ?_
 refine r_op oM ?_
 refine r_op (o_makeFunc rfl (.cons rfl .nil)) ?_
 refine r_op (o_call 1 1 false (Go.Proofs.enters_of Tryz.func196 (by kernel_rfl) rfl) (c_slices_ContainsFunc_____int___int_ (l) (197) ([((enSl 1 encI) (x), 1)]) (fun (x0 : List (Int)) => decide ((x0) = (x))) (by omega) (fun x0 mx0 => ⟨Go.Proofs.enters_of Tryz.func197 (by kernel_rfl) rfl, c_impl_hasBinding_1 (x0) (x) (by (have e := hl _ (by assumption); omega))⟩)) rfl (.cons rfl (.c .t0) (.cons rfl (.c (.clo (.cons rfl rfl rfl (.cons .t .nil) .nil))) .nil)) rfl rfl rfl) ?_
 refine r_op oA ?_
 refine r_end ?_
 refine t_ret Tryz.func185 (.tmp rfl .nil) rfl fun E S w u hI hd => ?_
 refine post_mk hI hd ?_ trivial rfl rfl rfl <;> clear hI hd
 all_goals (rfl)
set_option maxHeartbeats 1000000 in
set_option maxRecDepth 10000 in
theorem c_impl_FindMatches (rs : Rels) (fs l : Atoms) (hrs : rs.length ≤ 4611686018427387904) (hfs : szS (fun (x : Int × (List (Int))) => (x.2).length) fs ≤ 1048576) (hll : szS (fun (x : Int × (List (Int))) => (x.2).length) l ≤ 1048576) (ho : ∀ z ∈ fs, ∀ x ∈ z.2, okI x) : Pu Tryz.prog 157 [.agg [.t none (.sl 3 (enS3 encS encI encB) (rs)), .t none (.sl 2 (enS2 encI (enSl 1 encI)) (fs))], .c (.t none (.sl 2 (enS2 encI (enSl 1 encI)) (l)))] [(1, some (.row none 43 true 1 (enSl 1 encI) (findL rs fs l)))] 2 (.c (.own 1)) := by
 refine pu_enter Tryz.func157 rfl (Nat.le_of_ble_eq_true rfl) fun w S => ?_
 refine tsr ?_
 refine r_op (o_box 0 rfl rfl rfl rfl) ?_
 refine r_op oA ?_
 refine etr ?_
 refine r_op (o_lit0 1 (e := 43) (sz := 1) (zs := [.slice none 0 0]) (enSl 1 encI) rfl rfl (by kernel_rfl) rfl) ?_
 refine r_op oA ?_
 refine r_end ?_
 refine t_seq ?_
 refine tsr ?_
 refine r_op (oC 2) ?_
 refine r_op oM ?_
 refine r_op (o_call 2 2 false (Go.Proofs.enters_of Tryz.func149 (by kernel_rfl) rfl) (c_impl_areMatchable (rs) (fs) (l) (by omega) (by omega) (by omega) (by omega)) rfl (.cons rfl (.agg (.cons .t0 (.cons .t0 .nil))) (.cons rfl (.c .t0) .nil)) rfl rfl rfl) ?_
 refine r_op (o_not rfl rfl) ?_
 refine r_end ?_
 refine t_cond rfl (fun h1 => ?_) (fun h1 => ?_)
 ·
  have h1' := (bnt h1)
  refine tsr ?_
  refine r_op oM ?_
  refine r_op oA ?_
  refine r_end ?_
  refine t_ret Tryz.func157 (.tmp rfl .nil) rfl fun E S w u hI hd => ?_
  refine post_mk hI hd ?_ ⟨eqR ?_, trivial⟩ rfl rfl rfl <;> clear hI hd <;> (try clear ih0)
  all_goals first | rfl | ((exact findL_no (by simp_all; done)))
 ·
  have h1' := (bnf h1)
  refine t_skip ?_
  refine t_seq ?_
  refine t_seq ?_
  refine t_draw (fun i => !(Nat.beq i 4)) (by kernel_rfl) ?_
  refine dT 0 rfl (pF 1) ?_
  refine dT 1 rfl pL ?_
  refine dT 2 rfl pM ?_
  refine d_two 3 6 rfl rfl (by kernel_rfl) rfl rfl (o_call 2 4 false (Go.Proofs.enters_of Tryz.func184 (by kernel_rfl) rfl) (c_impl_unboundBinding ) rfl .nil rfl rfl rfl) oM ?_ ?_
  ·
   refine d_two 4 6 rfl rfl (by kernel_rfl) rfl rfl (o_callD 3 (matchL (fs) (l) (freeB)) (Go.Proofs.enters_of Tryz.func150 (by kernel_rfl) rfl) (fun U => c_impl_matches U  (fs) (l) (freeB) (by exact (mt_pre (by assumption)).1) (by exact (mt_pre (by assumption)).2.1) (by rfl) (by exact (mt_pre (by assumption)).2.2.1) (by exact (mt_pre (by assumption)).2.2.2)) rfl rfl (.cons rfl .t0 (.cons rfl .t0 (.cons rfl (.own rfl) .nil)))) oM ?_ ?_
   ·
    refine dT 5 rfl (p_leno rfl rfl rfl) ?_
    refine dT 6 rfl pM ?_
    refine d_end (by kernel_rfl) ?_
    refine t_block ?_
    refine gt_sum 3 rfl ?_
    refine t_loopL (fun (vs, m) => ⟨[(4, some (.c (.t none (.v (.slice none 0 0))))), (5, some (.c (.own 1))), (18, some (.c (.own 3))), (19, some (.c (.t none (.v (.int .i64 (((matchL (fs) (l) (freeB)).length : Int))))))), (20, some (.c (.t none (.v (.int .i64 ((m : Int)))))))], [(0, some (.box [.t none (.sl 3 (enS3 encS encI encB) (rs)), .t none (.sl 2 (enS2 encI (enSl 1 encI)) (fs))])), (1, some (.row none 43 true 1 (enSl 1 encI) (dedL ((matchL fs l freeB).take m)))), (3, some (.row none 43 true 1 (encK (enSl 1 encI)) (tkL vs (matchL fs l freeB))))], 4⟩ : List Value × Nat → St) (fun (vs, m) => vs.length = m ∧ m ≤ (matchL fs l freeB).length) (fun (vs, m) => (matchL fs l freeB).length - m) ([], 0) ⟨⟨rfl, ⟨rfl, ⟨rfl, ⟨rfl, ⟨rfl, trivial⟩⟩⟩⟩⟩, ⟨rfl, ⟨rfl, ⟨rfl, trivial⟩⟩⟩, rfl⟩ (by exact ⟨rfl, Nat.zero_le _⟩) ?_
    rintro ⟨vs, m⟩ hI ih0
    try dsimp only at hI ih0
    obtain ⟨i0, i1⟩ := hI; have mp := mt_pre (rs := rs) (fs := fs) (l := l) (by assumption); have dr := ded_room (m := m) mp.1 mp.2.1; have tl := tkL_len (vs := vs) (L := matchL fs l freeB) (by omega); have mm := matchL_most mp.1 mp.2.1 freeB
    refine tsr ?_
    refine r_op oB ?_
    refine r_end ?_
    refine t_seq ?_
    refine t_cond rfl (fun h2 => ?_) (fun h2 => ?_)
    ·
     have h2' := of_decide_eq_true h2
     refine t_skip ?_
     refine t_seq ?_
     refine t_block ?_
     refine t_seq ?_
     obtain ⟨z3, hz4, b5⟩ := at_get (xs := matchL fs l freeB) (n := (m : Int)) (by omega) (by omega)
     refine gt_take0 4 3 rfl rfl (tkL_at (by omega) hz4) fun e6 v7 => ?_
     refine t_region ?_
     obtain ⟨z8, hz9, b10⟩ := at_get (xs := (tkL vs (matchL fs l freeB)).set (m : Int).toNat (.inl v7)) (n := (m : Int)) (by omega) (by (rw [List.length_set]; omega))
     refine r_op (o_indexo rfl (by kernel_rfl) rfl rfl rfl b10 (at_lt b10 hz9)) ?_
     refine r_op (o_loadpin rfl (k := 4) (o := 0) (by kernel_rfl) rfl rfl (tk_got (by omega) (by omega)) rfl) ?_
     refine r_op oA ?_
     refine etr ?_
     refine r_op oM ?_
     refine r_op oM ?_
     refine r_op (o_call 5 5 false (Go.Proofs.enters_of Tryz.func185 (by kernel_rfl) rfl) (c_impl_hasBinding (dedL ((matchL fs l freeB).take m)) (z3) (by omega) (by (intro y hy; have e5 := ded_five hy; omega))) rfl (.cons rfl (.c (.own rfl)) (.cons rfl (.c (.own rfl)) .nil)) rfl rfl rfl) ?_
     refine r_op (o_not rfl rfl) ?_
     refine r_end ?_
     refine t_cond rfl (fun h11 => ?_) (fun h11 => ?_)
     ·
      have h11' := (bnt h11)
      refine t_region ?_
      refine r_op oM ?_
      refine r_op oM ?_
      refine r_op (o_litS 5 (e := 43) (sz := 1) (zs := [.slice none 0 0]) rfl rfl (by kernel_rfl) rfl rfl rfl rfl rfl) ?_
      refine r_op (o_append 1 (e := 43) (sz := 1) (by' := 24) (z3) rfl (by kernel_rfl) rfl rfl rfl rfl rfl rfl (.take (.own rfl) rfl .nil) rfl (by omega) (by omega)) ?_
      refine r_op oA ?_
      refine r_end ?_
      refine t_endblock ?_
      refine t_region ?_
      refine r_op oB ?_
      refine r_op oM ?_
      refine r_end ?_
      refine t_le ?_ (ih0 (vs ++ [v7], m + 1) (by (try dsimp only); omega) (by (try dsimp only); exact ⟨by simp; omega, by omega⟩))
      exact ⟨⟨rfl, ⟨rfl, ⟨rfl, ⟨rfl, ⟨(eqI (wr64 (by omega) (by omega))), trivial⟩⟩⟩⟩⟩, ⟨rfl, ⟨(eqR (by exact (ded_more hz4 rfl (by assumption)).symm)), ⟨(eqR (tkL_set i0 (by omega))), trivial⟩⟩⟩, rfl⟩
     ·
      have h11' := (bnf h11)
      refine t_skip ?_
      refine t_endblock ?_
      refine t_region ?_
      refine r_op oB ?_
      refine r_op oM ?_
      refine r_end ?_
      refine t_le ?_ (ih0 (vs ++ [v7], m + 1) (by (try dsimp only); omega) (by (try dsimp only); exact ⟨by simp; omega, by omega⟩))
      exact ⟨⟨rfl, ⟨rfl, ⟨rfl, ⟨rfl, ⟨(eqI (wr64 (by omega) (by omega))), trivial⟩⟩⟩⟩⟩, ⟨rfl, ⟨(eqR (by exact (ded_same hz4 rfl (by assumption)).symm)), ⟨(eqR (tkL_set i0 (by omega))), trivial⟩⟩⟩, rfl⟩
    ·
     have h2' := of_decide_eq_false h2
     refine t_exit rfl ?_
     refine tsr ?_
     refine r_op oM ?_
     refine r_op oA ?_
     refine r_end ?_
     refine t_ret Tryz.func157 (.tmp rfl .nil) rfl fun E S w u hI hd => ?_
     refine post_mk hI hd ?_ ⟨eqR ?_, trivial⟩ rfl rfl rfl <;> clear hI hd <;> (try clear ih0)
     all_goals first | rfl | ((exact findL_yes (by assumption) (by omega)))
   ·
    refine dO 4 rfl (o_callD 3 (matchL (fs) (l) (freeB)) (Go.Proofs.enters_of Tryz.func150 (by kernel_rfl) rfl) (fun U => c_impl_matches U  (fs) (l) (freeB) (by exact (mt_pre (by assumption)).1) (by exact (mt_pre (by assumption)).2.1) (by rfl) (by exact (mt_pre (by assumption)).2.2.1) (by exact (mt_pre (by assumption)).2.2.2)) rfl rfl (.cons rfl .t0 (.cons rfl .t0 (.cons rfl (.own rfl) .nil)))) ?_
    refine dT 5 rfl (p_leno rfl rfl rfl) ?_
    refine d_end (by kernel_rfl) ?_
    refine t_block ?_
    refine gt_sum 3 rfl ?_
    refine t_loopL (fun (vs, m) => ⟨[(4, some (.c (.t none (.v (.slice none 0 0))))), (5, some (.c (.own 1))), (18, some (.c (.own 3))), (19, some (.c (.t none (.v (.int .i64 (((matchL (fs) (l) (freeB)).length : Int))))))), (20, some (.c (.t none (.v (.int .i64 ((m : Int)))))))], [(0, some (.box [.t none (.sl 3 (enS3 encS encI encB) (rs)), .t none (.sl 2 (enS2 encI (enSl 1 encI)) (fs))])), (1, some (.row none 43 true 1 (enSl 1 encI) (dedL ((matchL fs l freeB).take m)))), (3, some (.row none 43 true 1 (encK (enSl 1 encI)) (tkL vs (matchL fs l freeB))))], 4⟩ : List Value × Nat → St) (fun (vs, m) => vs.length = m ∧ m ≤ (matchL fs l freeB).length) (fun (vs, m) => (matchL fs l freeB).length - m) ([], 0) ⟨⟨rfl, ⟨rfl, ⟨rfl, ⟨rfl, ⟨rfl, trivial⟩⟩⟩⟩⟩, ⟨rfl, ⟨rfl, ⟨rfl, trivial⟩⟩⟩, rfl⟩ (by exact ⟨rfl, Nat.zero_le _⟩) ?_
    rintro ⟨vs, m⟩ hI ih0
    try dsimp only at hI ih0
    obtain ⟨i0, i1⟩ := hI; have mp := mt_pre (rs := rs) (fs := fs) (l := l) (by assumption); have dr := ded_room (m := m) mp.1 mp.2.1; have tl := tkL_len (vs := vs) (L := matchL fs l freeB) (by omega); have mm := matchL_most mp.1 mp.2.1 freeB
    refine tsr ?_
    refine r_op oB ?_
    refine r_end ?_
    refine t_seq ?_
    refine t_cond rfl (fun h12 => ?_) (fun h12 => ?_)
    ·
     have h12' := of_decide_eq_true h12
     refine t_skip ?_
     refine t_seq ?_
     refine t_block ?_
     refine t_seq ?_
     obtain ⟨z13, hz14, b15⟩ := at_get (xs := matchL fs l freeB) (n := (m : Int)) (by omega) (by omega)
     refine gt_take0 4 3 rfl rfl (tkL_at (by omega) hz14) fun e16 v17 => ?_
     refine t_region ?_
     obtain ⟨z18, hz19, b20⟩ := at_get (xs := (tkL vs (matchL fs l freeB)).set (m : Int).toNat (.inl v17)) (n := (m : Int)) (by omega) (by (rw [List.length_set]; omega))
     refine r_op (o_indexo rfl (by kernel_rfl) rfl rfl rfl b20 (at_lt b20 hz19)) ?_
     refine r_op (o_loadpin rfl (k := 4) (o := 0) (by kernel_rfl) rfl rfl (tk_got (by omega) (by omega)) rfl) ?_
     refine r_op oA ?_
     refine etr ?_
     refine r_op oM ?_
     refine r_op oM ?_
     refine r_op (o_call 5 5 false (Go.Proofs.enters_of Tryz.func185 (by kernel_rfl) rfl) (c_impl_hasBinding (dedL ((matchL fs l freeB).take m)) (z13) (by omega) (by (intro y hy; have e5 := ded_five hy; omega))) rfl (.cons rfl (.c (.own rfl)) (.cons rfl (.c (.own rfl)) .nil)) rfl rfl rfl) ?_
     refine r_op (o_not rfl rfl) ?_
     refine r_end ?_
     refine t_cond rfl (fun h21 => ?_) (fun h21 => ?_)
     ·
      have h21' := (bnt h21)
      refine t_region ?_
      refine r_op oM ?_
      refine r_op oM ?_
      refine r_op (o_litS 5 (e := 43) (sz := 1) (zs := [.slice none 0 0]) rfl rfl (by kernel_rfl) rfl rfl rfl rfl rfl) ?_
      refine r_op (o_append 1 (e := 43) (sz := 1) (by' := 24) (z13) rfl (by kernel_rfl) rfl rfl rfl rfl rfl rfl (.take (.own rfl) rfl .nil) rfl (by omega) (by omega)) ?_
      refine r_op oA ?_
      refine r_end ?_
      refine t_endblock ?_
      refine t_region ?_
      refine r_op oB ?_
      refine r_op oM ?_
      refine r_end ?_
      refine t_le ?_ (ih0 (vs ++ [v17], m + 1) (by (try dsimp only); omega) (by (try dsimp only); exact ⟨by simp; omega, by omega⟩))
      exact ⟨⟨rfl, ⟨rfl, ⟨rfl, ⟨rfl, ⟨(eqI (wr64 (by omega) (by omega))), trivial⟩⟩⟩⟩⟩, ⟨rfl, ⟨(eqR (by exact (ded_more hz14 rfl (by assumption)).symm)), ⟨(eqR (tkL_set i0 (by omega))), trivial⟩⟩⟩, rfl⟩
     ·
      have h21' := (bnf h21)
      refine t_skip ?_
      refine t_endblock ?_
      refine t_region ?_
      refine r_op oB ?_
      refine r_op oM ?_
      refine r_end ?_
      refine t_le ?_ (ih0 (vs ++ [v17], m + 1) (by (try dsimp only); omega) (by (try dsimp only); exact ⟨by simp; omega, by omega⟩))
      exact ⟨⟨rfl, ⟨rfl, ⟨rfl, ⟨rfl, ⟨(eqI (wr64 (by omega) (by omega))), trivial⟩⟩⟩⟩⟩, ⟨rfl, ⟨(eqR (by exact (ded_same hz14 rfl (by assumption)).symm)), ⟨(eqR (tkL_set i0 (by omega))), trivial⟩⟩⟩, rfl⟩
    ·
     have h12' := of_decide_eq_false h12
     refine t_exit rfl ?_
     refine tsr ?_
     refine r_op oM ?_
     refine r_op oA ?_
     refine r_end ?_
     refine t_ret Tryz.func157 (.tmp rfl .nil) rfl fun E S w u hI hd => ?_
     refine post_mk hI hd ?_ ⟨eqR ?_, trivial⟩ rfl rfl rfl <;> clear hI hd <;> (try clear ih0)
     all_goals first | rfl | ((exact findL_yes (by assumption) (by omega)))
  ·
   refine dO 3 rfl (o_call 2 4 false (Go.Proofs.enters_of Tryz.func184 (by kernel_rfl) rfl) (c_impl_unboundBinding ) rfl .nil rfl rfl rfl) ?_
   refine dO 4 rfl (o_callD 3 (matchL (fs) (l) (freeB)) (Go.Proofs.enters_of Tryz.func150 (by kernel_rfl) rfl) (fun U => c_impl_matches U  (fs) (l) (freeB) (by exact (mt_pre (by assumption)).1) (by exact (mt_pre (by assumption)).2.1) (by rfl) (by exact (mt_pre (by assumption)).2.2.1) (by exact (mt_pre (by assumption)).2.2.2)) rfl rfl (.cons rfl .t0 (.cons rfl .t0 (.cons rfl (.own rfl) .nil)))) ?_
   refine dT 5 rfl (p_leno rfl rfl rfl) ?_
   refine d_end (by kernel_rfl) ?_
   refine t_block ?_
   refine gt_sum 3 rfl ?_
   refine t_loopL (fun (vs, m) => ⟨[(4, some (.c (.t none (.v (.slice none 0 0))))), (5, some (.c (.own 1))), (18, some (.c (.own 3))), (19, some (.c (.t none (.v (.int .i64 (((matchL (fs) (l) (freeB)).length : Int))))))), (20, some (.c (.t none (.v (.int .i64 ((m : Int)))))))], [(0, some (.box [.t none (.sl 3 (enS3 encS encI encB) (rs)), .t none (.sl 2 (enS2 encI (enSl 1 encI)) (fs))])), (1, some (.row none 43 true 1 (enSl 1 encI) (dedL ((matchL fs l freeB).take m)))), (3, some (.row none 43 true 1 (encK (enSl 1 encI)) (tkL vs (matchL fs l freeB))))], 4⟩ : List Value × Nat → St) (fun (vs, m) => vs.length = m ∧ m ≤ (matchL fs l freeB).length) (fun (vs, m) => (matchL fs l freeB).length - m) ([], 0) ⟨⟨rfl, ⟨rfl, ⟨rfl, ⟨rfl, ⟨rfl, trivial⟩⟩⟩⟩⟩, ⟨rfl, ⟨rfl, ⟨rfl, trivial⟩⟩⟩, rfl⟩ (by exact ⟨rfl, Nat.zero_le _⟩) ?_
   rintro ⟨vs, m⟩ hI ih0
   try dsimp only at hI ih0
   obtain ⟨i0, i1⟩ := hI; have mp := mt_pre (rs := rs) (fs := fs) (l := l) (by assumption); have dr := ded_room (m := m) mp.1 mp.2.1; have tl := tkL_len (vs := vs) (L := matchL fs l freeB) (by omega); have mm := matchL_most mp.1 mp.2.1 freeB
   refine tsr ?_
   refine r_op oB ?_
   refine r_end ?_
   refine t_seq ?_
   refine t_cond rfl (fun h22 => ?_) (fun h22 => ?_)
   ·
    have h22' := of_decide_eq_true h22
    refine t_skip ?_
    refine t_seq ?_
    refine t_block ?_
    refine t_seq ?_
    obtain ⟨z23, hz24, b25⟩ := at_get (xs := matchL fs l freeB) (n := (m : Int)) (by omega) (by omega)
    refine gt_take0 4 3 rfl rfl (tkL_at (by omega) hz24) fun e26 v27 => ?_
    refine t_region ?_
    obtain ⟨z28, hz29, b30⟩ := at_get (xs := (tkL vs (matchL fs l freeB)).set (m : Int).toNat (.inl v27)) (n := (m : Int)) (by omega) (by (rw [List.length_set]; omega))
    refine r_op (o_indexo rfl (by kernel_rfl) rfl rfl rfl b30 (at_lt b30 hz29)) ?_
    refine r_op (o_loadpin rfl (k := 4) (o := 0) (by kernel_rfl) rfl rfl (tk_got (by omega) (by omega)) rfl) ?_
    refine r_op oA ?_
    refine etr ?_
    refine r_op oM ?_
    refine r_op oM ?_
    refine r_op (o_call 5 5 false (Go.Proofs.enters_of Tryz.func185 (by kernel_rfl) rfl) (c_impl_hasBinding (dedL ((matchL fs l freeB).take m)) (z23) (by omega) (by (intro y hy; have e5 := ded_five hy; omega))) rfl (.cons rfl (.c (.own rfl)) (.cons rfl (.c (.own rfl)) .nil)) rfl rfl rfl) ?_
    refine r_op (o_not rfl rfl) ?_
    refine r_end ?_
    refine t_cond rfl (fun h31 => ?_) (fun h31 => ?_)
    ·
     have h31' := (bnt h31)
     refine t_region ?_
     refine r_op oM ?_
     refine r_op oM ?_
     refine r_op (o_litS 5 (e := 43) (sz := 1) (zs := [.slice none 0 0]) rfl rfl (by kernel_rfl) rfl rfl rfl rfl rfl) ?_
     refine r_op (o_append 1 (e := 43) (sz := 1) (by' := 24) (z23) rfl (by kernel_rfl) rfl rfl rfl rfl rfl rfl (.take (.own rfl) rfl .nil) rfl (by omega) (by omega)) ?_
     refine r_op oA ?_
     refine r_end ?_
     refine t_endblock ?_
     refine t_region ?_
     refine r_op oB ?_
     refine r_op oM ?_
     refine r_end ?_
     refine t_le ?_ (ih0 (vs ++ [v27], m + 1) (by (try dsimp only); omega) (by (try dsimp only); exact ⟨by simp; omega, by omega⟩))
     exact ⟨⟨rfl, ⟨rfl, ⟨rfl, ⟨rfl, ⟨(eqI (wr64 (by omega) (by omega))), trivial⟩⟩⟩⟩⟩, ⟨rfl, ⟨(eqR (by exact (ded_more hz24 rfl (by assumption)).symm)), ⟨(eqR (tkL_set i0 (by omega))), trivial⟩⟩⟩, rfl⟩
    ·
     have h31' := (bnf h31)
     refine t_skip ?_
     refine t_endblock ?_
     refine t_region ?_
     refine r_op oB ?_
     refine r_op oM ?_
     refine r_end ?_
     refine t_le ?_ (ih0 (vs ++ [v27], m + 1) (by (try dsimp only); omega) (by (try dsimp only); exact ⟨by simp; omega, by omega⟩))
     exact ⟨⟨rfl, ⟨rfl, ⟨rfl, ⟨rfl, ⟨(eqI (wr64 (by omega) (by omega))), trivial⟩⟩⟩⟩⟩, ⟨rfl, ⟨(eqR (by exact (ded_same hz24 rfl (by assumption)).symm)), ⟨(eqR (tkL_set i0 (by omega))), trivial⟩⟩⟩, rfl⟩
   ·
    have h22' := of_decide_eq_false h22
    refine t_exit rfl ?_
    refine tsr ?_
    refine r_op oM ?_
    refine r_op oA ?_
    refine r_end ?_
    refine t_ret Tryz.func157 (.tmp rfl .nil) rfl fun E S w u hI hd => ?_
    refine post_mk hI hd ?_ ⟨eqR ?_, trivial⟩ rfl rfl rfl <;> clear hI hd <;> (try clear ih0)
    all_goals first | rfl | ((exact findL_yes (by assumption) (by omega)))
def ob_c_impl_Instantiate : Option (List Int) → List (Nat × Option Ob)
 | none => []
 | some q => [(3, some (.row none 3 true 1 encI (q)))]
def res_c_impl_Instantiate (r : Int) (ts : List Int) (b : List Int) : Option (List Int) → AV
 | none => .tup [(true, [.t none (.v (.int .i64 (0))), .t none (.v (.slice none 0 0))]), (false, [.t none (.v (.bool (false)))])]
 | some q => .tup [(true, [.t none (.v (.int .i64 (r))), .own 3]), (false, [.t none (.v (.bool (true)))])]
set_option maxHeartbeats 1000000 in
set_option maxRecDepth 10000 in
theorem c_impl_Instantiate (r : Int) (ts : List Int) (b : List Int) (hl : ts.length ≤ 1048576) (ho : ∀ x ∈ ts, okI x) (mo : Option (List Int)) (hm : instV b ts = mo) : Pu Tryz.prog 63 [.agg [.t none (.v (.int .i64 (r))), .t none (.sl 1 encI (ts))], .c (.t none (.sl 1 encI (b)))] (ob_c_impl_Instantiate mo) 4 (res_c_impl_Instantiate r ts b mo) := by
 refine pu_enter Tryz.func63 rfl (Nat.le_of_ble_eq_true rfl) fun w S => ?_
 refine tsr ?_
 refine r_op (o_box 0 rfl rfl rfl rfl) ?_
 refine r_op (o_alloc 1 (zs := [.int .i64 (0), .slice none 0 0]) rfl rfl (by kernel_rfl) rfl) ?_
 refine r_op oA ?_
 refine etr ?_
 refine r_op (oF 0) ?_
 refine r_op oL ?_
 refine r_op (o_build rfl (pl := [(0, 1), (1, 1)]) (zs := [.int .i64 (0), .slice none 0 0]) (by kernel_rfl) (by kernel_rfl) rfl rfl rfl) ?_
 refine r_op (o_alloc 2 (zs := [.int .i64 (0), .slice none 0 0]) rfl rfl (by kernel_rfl) rfl) ?_
 refine r_op (oS 2) ?_
 refine r_end ?_
 refine t_seq ?_
 refine tsr ?_
 refine r_op (oF 1) ?_
 refine r_op oL ?_
 refine r_op (o_len rfl rfl rfl) ?_
 refine r_op oM ?_
 refine r_end ?_
 refine t_block ?_
 refine gt_nilb 3 (b := 2) (o := 1) (et := 3) (sz := 1) true encI rfl rfl rfl ?_
 refine t_loopL (fun (m, acc) => ⟨[(1, some (.c (.t none (.sl 1 encI (b))))), (4, some (.c (.ptr 1 0))), (6, some (.c (.ptr 2 0))), (14, some (.c (.t none (.sl 1 encI (ts))))), (15, some (.c (.t none (.v (.int .i64 (((ts).length : Int))))))), (16, some (.c (.t none (.v (.int .i64 ((m : Int)))))))], [(0, some (.box [.t none (.v (.int .i64 (r))), .t none (.sl 1 encI (ts))])), (1, some (.box [.t none (.v (.int .i64 (0))), .t none (.v (.slice none 0 0))])), (2, some (.box [.t none (.v (.int .i64 (r))), .own 3])), (3, some (.row none 3 true 1 encI (acc)))], 4⟩ : Nat × List Int → St) (fun (m, acc) => m ≤ ts.length ∧ instV b (ts.take m) = some acc) (fun (m, acc) => ts.length - m) (0, []) ⟨⟨rfl, ⟨rfl, ⟨rfl, ⟨rfl, ⟨rfl, ⟨rfl, trivial⟩⟩⟩⟩⟩⟩, ⟨rfl, ⟨rfl, ⟨rfl, ⟨rfl, trivial⟩⟩⟩⟩, rfl⟩ (by exact ⟨Nat.zero_le _, rfl⟩) ?_
 rintro ⟨m, acc⟩ hI ih0
 try dsimp only at hI ih0
 obtain ⟨i1, i2⟩ := hI
 refine tsr ?_
 refine r_op oB ?_
 refine r_end ?_
 refine t_seq ?_
 refine t_cond rfl (fun h1 => ?_) (fun h1 => ?_)
 ·
  have h1' := of_decide_eq_true h1
  refine t_skip ?_
  refine t_seq ?_
  refine t_block ?_
  refine tsr ?_
  obtain ⟨z2, hz3, b4⟩ := at_get (xs := ts) (n := (m : Int)) (by omega) (by omega)
  refine r_op (o_index rfl (by kernel_rfl) rfl rfl b4 hz3) ?_
  refine r_op (o_load1 rfl (by kernel_rfl) rfl rfl) ?_
  refine r_op oA ?_
  refine etr ?_
  refine r_op oM ?_
  refine r_op oB ?_
  refine r_op oA ?_
  refine r_end ?_
  refine t_seq ?_
  refine tsr ?_
  refine r_op oM ?_
  refine r_op oB ?_
  refine r_end ?_
  refine t_cond rfl (fun h5 => ?_) (fun h5 => ?_)
  ·
   have h5' := of_decide_eq_true h5
   refine t_seq ?_
   refine tsr ?_
   refine r_op oM ?_
   refine r_op oM ?_
   refine r_op (o_len rfl rfl rfl) ?_
   refine r_op oB ?_
   refine r_end ?_
   refine t_cond rfl (fun h6 => ?_) (fun h6 => ?_)
   ·
    have h6' := of_decide_eq_true h6
    refine tsr ?_
    refine r_op (o_build rfl (pl := [(0, 1), (1, 1)]) (zs := [.int .i64 (0), .slice none 0 0]) (by kernel_rfl) (by kernel_rfl) rfl rfl rfl) ?_
    refine r_op (oS 2) ?_
    refine r_op oA ?_
    refine r_end ?_
    refine t_ret Tryz.func63 (.cells (n := 2) (by kernel_rfl) (by kernel_rfl) rfl rfl rfl (.tmp rfl .nil)) rfl fun E S w u hI hd => ?_
    obtain rfl : mo = none := by rw [← hm]; exact inst_none i2 (by assumption) rfl (inst_far (by assumption) (by assumption))
    refine post_mk hI hd ?_ trivial rfl rfl rfl <;> clear hI hd <;> (try clear ih0)
    all_goals (rfl)
   ·
    have h6' := of_decide_eq_false h6
    refine t_skip ?_
    refine t_region ?_
    refine r_op oM ?_
    refine r_op oM ?_
    obtain ⟨z7, hz8, b9⟩ := at_get (xs := b) (n := z2) (by omega) (by omega)
    refine r_op (o_index rfl (by kernel_rfl) rfl rfl b9 hz8) ?_
    refine r_op (o_load1 rfl (by kernel_rfl) rfl rfl) ?_
    refine r_op oA ?_
    refine r_end ?_
    refine t_seq ?_
    refine tsr ?_
    refine r_op oM ?_
    refine r_op (o_call 4 4 false (Go.Proofs.enters_of Tryz.func118 (by kernel_rfl) rfl) (c_impl_IsValidValue (z7)) rfl (.cons rfl (.c .t0) .nil) rfl rfl rfl) ?_
    refine r_op (o_not rfl rfl) ?_
    refine r_end ?_
    refine t_cond rfl (fun h10 => ?_) (fun h10 => ?_)
    ·
     have h10' := of_decide_eq_false (bnt h10)
     refine tsr ?_
     refine r_op (o_build rfl (pl := [(0, 1), (1, 1)]) (zs := [.int .i64 (0), .slice none 0 0]) (by kernel_rfl) (by kernel_rfl) rfl rfl rfl) ?_
     refine r_op (oS 2) ?_
     refine r_op oA ?_
     refine r_end ?_
     refine t_ret Tryz.func63 (.cells (n := 2) (by kernel_rfl) (by kernel_rfl) rfl rfl rfl (.tmp rfl .nil)) rfl fun E S w u hI hd => ?_
     obtain rfl : mo = none := by rw [← hm]; exact inst_none i2 (by assumption) rfl (inst_bad (by assumption) (by assumption) (by assumption))
     refine post_mk hI hd ?_ trivial rfl rfl rfl <;> clear hI hd <;> (try clear ih0)
     all_goals (rfl)
    ·
     have h10' := of_decide_eq_true (bnf h10)
     refine t_skip ?_
     refine t_region ?_
     refine r_op (oF 1) ?_
     refine r_op oL ?_
     refine r_op oM ?_
     refine r_op (o_litS 4 (e := 3) (sz := 1) (zs := [.int .i64 (0)]) rfl rfl (by kernel_rfl) rfl rfl rfl rfl rfl) ?_
     refine r_op (o_append 3 (e := 3) (sz := 1) (by' := 8) (z7) rfl (by kernel_rfl) rfl rfl rfl rfl rfl rfl (.cons .sc .nil) rfl (by (have := instV_len i2; simp at this; omega)) (by (have := instV_len i2; simp at this; omega))) ?_
     refine r_op (oF 1) ?_
     refine r_op (oS 1) ?_
     refine r_end ?_
     refine t_endblock ?_
     refine t_region ?_
     refine r_op oB ?_
     refine r_op oM ?_
     refine r_end ?_
     refine t_le ?_ (ih0 (m + 1, acc ++ [z7]) (by (try dsimp only); omega) (by (try dsimp only); exact ⟨by omega, inst_step i2 (by assumption) rfl (inst_good (by assumption) (by assumption) (by assumption))⟩))
     exact ⟨⟨rfl, ⟨rfl, ⟨rfl, ⟨rfl, ⟨rfl, ⟨(eqI (wrS (by omega))), trivial⟩⟩⟩⟩⟩⟩, ⟨rfl, ⟨rfl, ⟨rfl, ⟨rfl, trivial⟩⟩⟩⟩, rfl⟩
  ·
   have h5' := of_decide_eq_false h5
   refine t_skip ?_
   refine t_seq ?_
   refine tsr ?_
   refine r_op oM ?_
   refine r_op (o_call 4 4 false (Go.Proofs.enters_of Tryz.func118 (by kernel_rfl) rfl) (c_impl_IsValidValue (IntKind.i64.wrap ((-1) - z2))) rfl (.cons rfl (.c .t0) .nil) rfl rfl rfl) ?_
   refine r_op (o_not rfl rfl) ?_
   refine r_end ?_
   refine t_cond rfl (fun h11 => ?_) (fun h11 => ?_)
   ·
    have h11' := of_decide_eq_false (bnt h11)
    refine tsr ?_
    refine r_op (o_build rfl (pl := [(0, 1), (1, 1)]) (zs := [.int .i64 (0), .slice none 0 0]) (by kernel_rfl) (by kernel_rfl) rfl rfl rfl) ?_
    refine r_op (oS 2) ?_
    refine r_op oA ?_
    refine r_end ?_
    refine t_ret Tryz.func63 (.cells (n := 2) (by kernel_rfl) (by kernel_rfl) rfl rfl rfl (.tmp rfl .nil)) rfl fun E S w u hI hd => ?_
    obtain rfl : mo = none := by rw [← hm]; exact inst_none i2 (by assumption) rfl (inst_badn (by omega) (ho _ (List.mem_of_getElem? (by assumption))).1 (by assumption))
    refine post_mk hI hd ?_ trivial rfl rfl rfl <;> clear hI hd <;> (try clear ih0)
    all_goals (rfl)
   ·
    have h11' := of_decide_eq_true (bnf h11)
    refine t_skip ?_
    refine t_region ?_
    refine r_op (oF 1) ?_
    refine r_op oL ?_
    refine r_op oM ?_
    refine r_op (o_litS 4 (e := 3) (sz := 1) (zs := [.int .i64 (0)]) rfl rfl (by kernel_rfl) rfl rfl rfl rfl rfl) ?_
    refine r_op (o_append 3 (e := 3) (sz := 1) (by' := 8) (IntKind.i64.wrap ((-1) - z2)) rfl (by kernel_rfl) rfl rfl rfl rfl rfl rfl (.cons .sc .nil) rfl (by (have := instV_len i2; simp at this; omega)) (by (have := instV_len i2; simp at this; omega))) ?_
    refine r_op (oF 1) ?_
    refine r_op (oS 1) ?_
    refine r_end ?_
    refine t_endblock ?_
    refine t_region ?_
    refine r_op oB ?_
    refine r_op oM ?_
    refine r_end ?_
    refine t_le ?_ (ih0 (m + 1, acc ++ [IntKind.i64.wrap ((-1) - z2)]) (by (try dsimp only); omega) (by (try dsimp only); exact ⟨by omega, inst_step i2 (by assumption) rfl (inst_goodn (by omega) (ho _ (List.mem_of_getElem? (by assumption))).1 (by assumption))⟩))
    exact ⟨⟨rfl, ⟨rfl, ⟨rfl, ⟨rfl, ⟨rfl, ⟨(eqI (wrS (by omega))), trivial⟩⟩⟩⟩⟩⟩, ⟨rfl, ⟨rfl, ⟨rfl, ⟨rfl, trivial⟩⟩⟩⟩, rfl⟩
 ·
  have h1' := of_decide_eq_false h1
  refine t_exit rfl ?_
  refine tsr ?_
  refine r_op (oC 2) ?_
  refine r_op (oS 2) ?_
  refine r_op oA ?_
  refine r_end ?_
  refine t_ret Tryz.func63 (.cells (n := 2) (by kernel_rfl) (by kernel_rfl) rfl rfl rfl (.tmp rfl .nil)) rfl fun E S w u hI hd => ?_
  obtain rfl : mo = some acc := by rw [← hm]; rw [List.take_of_length_le (by omega)] at i2; exact i2
  refine post_mk hI hd ?_ ⟨eqR ?_, trivial⟩ rfl rfl rfl <;> clear hI hd <;> (try clear ih0)
  all_goals (rfl)
set_option maxHeartbeats 1000000 in
set_option maxRecDepth 10000 in
theorem c_impl_sameFact (r : Int) (l : List Int) (r2 : Int) (l2 : List Int) (hl : l.length ≤ 1048576) (hl2 : l2.length ≤ 1048576) : Pu Tryz.prog 92 [.agg [.t none (.v (.int .i64 (r))), .t none (.sl 1 encI (l))], .agg [.t none (.v (.int .i64 (r2))), .t none (.sl 1 encI (l2))]] [] 0 (.c (.t none (.v (.bool (decide (cmpF (r, l) (r2, l2) = 0)))))) := by
 refine pu_enter Tryz.func92 rfl (Nat.le_of_ble_eq_true rfl) fun w S => ?_
 refine tsr ?_
 refine r_op (o_box 0 rfl rfl rfl rfl) ?_
 refine r_op (o_box 1 rfl rfl rfl rfl) ?_
 refine r_op oA ?_
 refine etr ?_
 refine r_op (oC 2) ?_
 refine r_op (oC 2) ?_
 refine r_op (o_call 2 2 false (Go.Proofs.enters_of Tryz.func88 (by kernel_rfl) rfl) (c_impl_CompareFacts (r) (l) (r2) (l2) (by omega) (by omega)) rfl (.cons rfl (.agg (.cons .t0 (.cons .t0 .nil))) (.cons rfl (.agg (.cons .t0 (.cons .t0 .nil))) .nil)) rfl rfl rfl) ?_
 refine r_op oB ?_
 refine r_op oA ?_
 refine r_end ?_
 refine t_ret Tryz.func92 (.tmp rfl .nil) rfl fun E S w u hI hd => ?_
 refine post_mk hI hd ?_ trivial rfl rfl rfl <;> clear hI hd
 all_goals (rfl)
set_option maxHeartbeats 1000000 in
set_option maxRecDepth 10000 in
theorem c_impl_hasFact_1 (r : Int) (l : List Int) (f : Int × List Int) (hl : l.length ≤ 1048576) (hf : f.2.length ≤ 1048576) : Pu Tryz.prog 170 [.agg [.t none (.v (.int .i64 (r))), .t none (.sl 1 encI (l))], .c (.pel none ((enS2 encI (enSl 1 encI)) (f)) 2)] [] 0 (.c (.t none (.v (.bool (decide (cmpF (r, l) f = 0)))))) := by
 refine pu_enter Tryz.func170 rfl (Nat.le_of_ble_eq_true rfl) fun w S => ?_
 refine tsr ?_
 refine r_op (o_box 0 rfl rfl rfl rfl) ?_
 refine r_op oA ?_
 refine etr ?_
 refine r_op (oC 2) ?_
 refine r_op (o_loadA rfl (n := 2) (by kernel_rfl) (by kernel_rfl) rfl rfl) ?_
 refine r_op (o_call 1 1 false (Go.Proofs.enters_of Tryz.func92 (by kernel_rfl) rfl) (c_impl_sameFact (r) (l) (f.1) (f.2) (by omega) (by omega)) rfl (.cons rfl (.agg (.cons .t0 (.cons .t0 .nil))) (.cons rfl (.agg (.cons .t0 (.cons .t0 .nil))) .nil)) rfl rfl rfl) ?_
 refine r_op oA ?_
 refine r_end ?_
 refine t_ret Tryz.func170 (.tmp rfl .nil) rfl fun E S w u hI hd => ?_
 refine post_mk hI hd ?_ trivial rfl rfl rfl <;> clear hI hd
 all_goals (rfl)
set_option maxHeartbeats 1000000 in
set_option maxRecDepth 10000 in
theorem c_slices_IndexFunc___impl_Fact_impl_Fact_ (l : List (Int × (List (Int)))) (f : Nat) (cs : List ((Nat → T) × Nat)) (p : Int × (List (Int)) → Bool) (hl : l.length ≤ 9223372036854775807) (hf : ∀ x ∈ l, Fu Tryz.prog f ([.agg [.t none (.v (.int .i64 (x.1))), .t none (.sl 1 encI (x.2))]] ++ pels cs) (.c (.t none (.v (.bool (p x)))))) : Pu Tryz.prog 141 [.c (.t none (.sl 2 (enS2 encI (enSl 1 encI)) (l))), .c (.fv f cs)] [] 0 (.c (.t none (.v (.int .i64 (idxI p l))))) := by
 refine pu_enter Tryz.func141 rfl (Nat.le_of_ble_eq_true rfl) fun w S => ?_
 refine tsr ?_
 refine r_op oA ?_
 refine r_end ?_
 refine t_seq ?_
 refine tsr ?_
 refine r_op oM ?_
 refine r_op (o_len rfl rfl rfl) ?_
 refine r_op oM ?_
 refine r_end ?_
 refine t_block ?_
 refine t_loopL (fun m => ⟨[(0, some (.c (.t none (.sl 2 (enS2 encI (enSl 1 encI)) (l))))), (1, some (.c (.fv f cs))), (7, some (.c (.t none (.v (.int .i64 (((l).length : Int))))))), (8, some (.c (.t none (.v (.int .i64 ((m : Int)))))))], [], 0⟩ : Nat → St) (fun m => m ≤ l.length ∧ ∀ j z, j < m → l[j]? = some z → p z = false) (fun m => l.length - m) 0 ⟨⟨rfl, ⟨rfl, ⟨rfl, ⟨rfl, trivial⟩⟩⟩⟩, trivial, rfl⟩ (by exact ⟨Nat.zero_le _, fun j z h => by omega⟩) ?_
 rintro m hI ih0
 try dsimp only at hI ih0
 obtain ⟨i1, i2⟩ := hI
 refine tsr ?_
 refine r_op oB ?_
 refine r_end ?_
 refine t_seq ?_
 refine t_cond rfl (fun h1 => ?_) (fun h1 => ?_)
 ·
  have h1' := of_decide_eq_true h1
  refine t_skip ?_
  refine t_seq ?_
  refine t_block ?_
  refine tsr ?_
  refine r_op oM ?_
  refine r_op oA ?_
  refine etr ?_
  refine r_op oM ?_
  refine r_op oM ?_
  refine r_op oM ?_
  obtain ⟨z2, hz3, b4⟩ := at_get (xs := l) (n := (m : Int)) (by omega) (by omega)
  refine r_op (o_index rfl (by kernel_rfl) rfl rfl b4 hz3) ?_
  refine r_op (o_loadA rfl (n := 2) (by kernel_rfl) (by kernel_rfl) rfl rfl) ?_
  refine r_op (o_callv 0 0 false (hf z2 (List.mem_of_getElem? (by assumption))).1 (hf z2 (List.mem_of_getElem? (by assumption))).2 rfl rfl (.c .fv) (.cons rfl (.agg (.cons .t0 (.cons .t0 .nil))) .nil) rfl rfl rfl) ?_
  refine r_end ?_
  refine t_cond rfl (fun h5 => ?_) (fun h5 => ?_)
  ·
   have h5' := h5
   refine tsr ?_
   refine r_op oM ?_
   refine r_op oA ?_
   refine r_end ?_
   refine t_ret Tryz.func141 (.tmp rfl .nil) rfl fun E S w u hI hd => ?_
   refine post_mk hI hd ?_ trivial rfl rfl rfl <;> clear hI hd <;> (try clear ih0)
   all_goals (rw [idx_hit i2 (by assumption) (by assumption)])
  ·
   have h5' := h5
   refine t_skip ?_
   refine t_endblock ?_
   refine t_region ?_
   refine r_op oB ?_
   refine r_op oM ?_
   refine r_end ?_
   refine t_le ?_ (ih0 (m + 1) (by (try dsimp only); omega) (by (try dsimp only); exact ⟨by omega, no_step i2 (by assumption) rfl (by assumption)⟩))
   exact ⟨⟨rfl, ⟨rfl, ⟨rfl, ⟨(eqI (wr64 (by omega) (by omega))), trivial⟩⟩⟩⟩, trivial, rfl⟩
 ·
  have h1' := of_decide_eq_false h1
  refine t_exit rfl ?_
  refine tsr ?_
  refine r_op oA ?_
  refine r_end ?_
  refine t_ret Tryz.func141 (.tmp rfl .nil) rfl fun E S w u hI hd => ?_
  refine post_mk hI hd ?_ trivial rfl rfl rfl <;> clear hI hd <;> (try clear ih0)
  all_goals (rw [idx_none i2 (by omega)])
set_option maxHeartbeats 1000000 in
set_option maxRecDepth 10000 in
theorem c_slices_ContainsFunc___impl_Fact_impl_Fact_ (l : List (Int × (List (Int)))) (f : Nat) (cs : List ((Nat → T) × Nat)) (p : Int × (List (Int)) → Bool) (hl : l.length ≤ 9223372036854775807) (hf : ∀ x ∈ l, Fu Tryz.prog f ([.agg [.t none (.v (.int .i64 (x.1))), .t none (.sl 1 encI (x.2))]] ++ pels cs) (.c (.t none (.v (.bool (p x)))))) : Pu Tryz.prog 169 [.c (.t none (.sl 2 (enS2 encI (enSl 1 encI)) (l))), .c (.fv f cs)] [] 0 (.c (.t none (.v (.bool (l.any p))))) := by
 refine pu_enter Tryz.func169 rfl (Nat.le_of_ble_eq_true rfl) fun w S => ?_
 refine tsr ?_
 refine r_op oA ?_
 refine etr ?_
 refine r_op oM ?_
 refine r_op oM ?_
 refine r_op (o_call 0 0 false (Go.Proofs.enters_of Tryz.func141 (by kernel_rfl) rfl) (c_slices_IndexFunc___impl_Fact_impl_Fact_ (l) (f) (cs) (p) (by omega) (hf)) rfl (.cons rfl (.c .t0) (.cons rfl (.c .fv) .nil)) rfl rfl rfl) ?_
 refine r_op oB ?_
 refine r_op oA ?_
 refine r_end ?_
 refine t_ret Tryz.func169 (.tmp rfl .nil) rfl fun E S w u hI hd => ?_
 refine post_mk hI hd ?_ trivial rfl rfl rfl <;> clear hI hd
 all_goals (exact scB idx_any)
set_option maxHeartbeats 1000000 in
set_option maxRecDepth 10000 in
theorem c_impl_hasFact (fs : Atoms) (r : Int) (ts : List Int) (hfs : szS (fun (x : Int × (List (Int))) => (x.2).length) fs ≤ 1048576) (hts : ts.length ≤ 1048576) : Pu Tryz.prog 148 [.c (.t none (.sl 2 (enS2 encI (enSl 1 encI)) (fs))), .agg [.t none (.v (.int .i64 (r))), .t none (.sl 1 encI (ts))]] [] 0 (.c (.t none (.v (.bool (hasF fs (r, ts)))))) := by
 refine pu_enter Tryz.func148 rfl (Nat.le_of_ble_eq_true rfl) fun w S => ?_
 have gl := sz_len (f := (fun (x : Int × (List (Int))) => (x.2).length)) (l := fs)
 refine tsr ?_
 refine r_op (o_box 0 rfl rfl rfl rfl) ?_
 refine r_op oA ?_
 refine etr ?_
 refine r_op oM ?_
 refine r_op (o_makeFunc rfl (.cons rfl .nil)) ?_
 refine r_op (o_call 1 1 false (Go.Proofs.enters_of Tryz.func169 (by kernel_rfl) rfl) (c_slices_ContainsFunc___impl_Fact_impl_Fact_ (fs) (170) ([((enS2 encI (enSl 1 encI)) ((r, ts)), 2)]) (fun (x0 : Int × (List (Int))) => decide (cmpF ((x0.1), (x0.2)) ((r, ts)) = 0)) (by omega) (fun x0 mx0 => ⟨Go.Proofs.enters_of Tryz.func170 (by kernel_rfl) rfl, c_impl_hasFact_1 (x0.1) (x0.2) ((r, ts)) (by (have e1 := sz_mem (f := (fun (x : Int × (List (Int))) => (x.2).length)) (l := fs) (by assumption); (try dsimp only at e1); omega)) (by omega)⟩)) rfl (.cons rfl (.c .t0) (.cons rfl (.c (.clo (.cons rfl rfl rfl (.cons .t (.cons .t .nil)) .nil))) .nil)) rfl rfl rfl) ?_
 refine r_op oA ?_
 refine r_end ?_
 refine t_ret Tryz.func148 (.tmp rfl .nil) rfl fun E S w u hI hd => ?_
 refine post_mk hI hd ?_ trivial rfl rfl rfl <;> clear hI hd
 all_goals (rfl)
set_option maxHeartbeats 1000000 in
set_option maxRecDepth 10000 in
theorem c_impl_IsTrigger (rs : Rels) (fs : Atoms) (a0 : List (Int × (List (Int)))) (a1 : List (Int × (List (Int)))) (a2 : Bool) (a3 : Int) (a4 : Int) (b : List Int) (hrs : rs.length ≤ 4611686018427387904) (hfs : szS (fun (x : Int × (List (Int))) => (x.2).length) fs ≤ 1048576) (ho : ∀ z ∈ fs, ∀ x ∈ z.2, okI x) (hs : szS (fun (x : Int × (List (Int))) => (x.2).length) a0 + szS (fun (x : Int × (List (Int))) => (x.2).length) a1 ≤ 1048576) (hoa : ∀ z ∈ a0, ∀ x ∈ z.2, okI x) (hob : ∀ x ∈ b, okI x) (hbl : b.length ≤ 1048576) : Pu Tryz.prog 109 [.agg [.t none (.sl 3 (enS3 encS encI encB) (rs)), .t none (.sl 2 (enS2 encI (enSl 1 encI)) (fs))], .agg [.t none (.sl 2 (enS2 encI (enSl 1 encI)) (a0)), .t none (.sl 2 (enS2 encI (enSl 1 encI)) (a1)), .t none (.v (.bool (a2))), .t none (.v (.int .i64 (a3))), .t none (.v (.int .i64 (a4)))], .c (.t none (.sl 1 encI (b)))] [] 0 (.c (.t none (.v (.bool (trgOk rs fs a0 a1 a2 a3 a4 b))))) := by
 refine pu_enter Tryz.func109 rfl (Nat.le_of_ble_eq_true rfl) fun w S => ?_
 have g0 := sz_len (f := (fun (x : Int × (List (Int))) => (x.2).length)) (l := a0); have v0 := setI_len (varsL a0); have v1 := varsL_size a0
 refine tsr ?_
 refine r_op (o_box 0 rfl rfl rfl rfl) ?_
 refine r_op (o_box 1 rfl rfl rfl rfl) ?_
 refine r_op oA ?_
 refine r_end ?_
 refine t_seq ?_
 refine tsr ?_
 refine r_op (oC 2) ?_
 refine r_op (o_call 2 2 false (Go.Proofs.enters_of Tryz.func40 (by kernel_rfl) rfl) (c_impl_IsValidInstance (rs) (fs) (by omega) (by omega) (by omega)) rfl (.cons rfl (.agg (.cons .t0 (.cons .t0 .nil))) .nil) rfl rfl rfl) ?_
 refine r_op (o_not rfl rfl) ?_
 refine r_op oM ?_
 refine r_guard rfl rfl rfl (fun g1 => ?_) (fun g1 => ?_)
 ·
  have g1' := (bnf g1)
  refine r_op (oF 0) ?_
  refine r_guard rfl rfl rfl (fun _ => ?_) (ncf g1)
  refine r_op oL ?_
  refine r_guard rfl rfl rfl (fun _ => ?_) (ncf g1)
  refine r_op (oC 5) ?_
  refine r_guard rfl rfl rfl (fun _ => ?_) (ncf g1)
  refine r_op (o_call 2 2 false (Go.Proofs.enters_of Tryz.func132 (by kernel_rfl) rfl) (c_impl_IsValidDependency (rs) (a0) (a1) (a2) (a3) (a4) (by omega) (by omega)) rfl (.cons rfl (.c .t0) (.cons rfl (.agg (.cons .t0 (.cons .t0 (.cons .t0 (.cons .t0 (.cons .t0 .nil)))))) .nil)) rfl rfl rfl) ?_
  refine r_guard rfl rfl rfl (fun _ => ?_) (ncf g1)
  refine r_op (o_not rfl rfl) ?_
  refine r_op (o_pickF rfl rfl g1 rfl) ?_
  refine r_op oM ?_
  refine r_guard rfl rfl rfl (fun g2 => ?_) (fun g2 => ?_)
  ·
   have g2' := (bnf g2)
   refine r_op oM ?_
   refine r_guard rfl rfl rfl (fun _ => ?_) (ncf g2)
   refine r_op (o_len rfl rfl rfl) ?_
   refine r_guard rfl rfl rfl (fun _ => ?_) (ncf g2)
   refine r_op oB ?_
   refine r_op (o_pickF rfl rfl g2 rfl) ?_
   refine r_end ?_
   refine t_cond rfl (fun h3 => ?_) (fun h3 => ?_)
   ·
    have h3' := of_decide_eq_true h3
    refine tsr ?_
    refine r_op oA ?_
    refine r_end ?_
    refine t_ret Tryz.func109 (.tmp rfl .nil) rfl fun E S w u hI hd => ?_
    refine post_mk hI hd ?_ trivial rfl rfl rfl <;> clear hI hd <;> (try clear ih0) <;> (try clear ih1)
    all_goals (refine scB ?_; (unfold trgOk; clear hrs hfs ho hs hoa hob g0 v0 v1; grind))
   ·
    have h3' := of_decide_eq_false h3
    refine t_skip ?_
    refine tsr ?_
    refine r_op (oF 0) ?_
    refine r_op oL ?_
    refine r_op (o_call 2 3 false (Go.Proofs.enters_of Tryz.func146 (by kernel_rfl) rfl) (c_impl_Variables (a0) (by omega)) rfl (.cons rfl (.c .t0) .nil) rfl rfl rfl) ?_
    refine r_op oA ?_
    refine r_end ?_
    refine t_seq ?_
    refine tsr ?_
    refine r_op oM ?_
    refine r_op (o_len rfl rfl rfl) ?_
    refine r_op oM ?_
    refine r_end ?_
    refine t_block ?_
    refine t_loopL (fun m => ⟨[(2, some (.c (.t none (.sl 1 encI (b))))), (3, some (.c (.ptr 0 0))), (4, some (.c (.ptr 1 0))), (7, some (.c (.own 2))), (32, some (.c (.t none (.sl 1 encI (b))))), (33, some (.c (.t none (.v (.int .i64 (((b).length : Int))))))), (34, some (.c (.t none (.v (.int .i64 ((m : Int)))))))], [(0, some (.box [.t none (.sl 3 (enS3 encS encI encB) (rs)), .t none (.sl 2 (enS2 encI (enSl 1 encI)) (fs))])), (1, some (.box [.t none (.sl 2 (enS2 encI (enSl 1 encI)) (a0)), .t none (.sl 2 (enS2 encI (enSl 1 encI)) (a1)), .t none (.v (.bool (a2))), .t none (.v (.int .i64 (a3))), .t none (.v (.int .i64 (a4)))])), (2, some (.row none 3 true 1 encI (setI (varsL (a0)))))], 3⟩ : Nat → St) (fun m => m ≤ b.length ∧ ∀ j, j < m → varStep (setI (varsL a0)) b j = true) (fun m => b.length - m) 0 ⟨⟨rfl, ⟨rfl, ⟨rfl, ⟨rfl, ⟨rfl, ⟨rfl, ⟨rfl, trivial⟩⟩⟩⟩⟩⟩⟩, ⟨rfl, ⟨rfl, ⟨rfl, trivial⟩⟩⟩, rfl⟩ (by exact ⟨Nat.zero_le _, fun j h => by omega⟩) ?_
    rintro m hI ih0
    try dsimp only at hI ih0
    obtain ⟨i1, i2⟩ := hI
    refine tsr ?_
    refine r_op oB ?_
    refine r_end ?_
    refine t_seq ?_
    refine t_cond rfl (fun h4 => ?_) (fun h4 => ?_)
    ·
     have h4' := of_decide_eq_true h4
     refine t_skip ?_
     refine t_seq ?_
     refine t_block ?_
     refine tsr ?_
     refine r_op oM ?_
     obtain ⟨z5, hz6, b7⟩ := at_get (xs := b) (n := (m : Int)) (by omega) (by omega)
     refine r_op (o_index rfl (by kernel_rfl) rfl rfl b7 hz6) ?_
     refine r_op (o_load1 rfl (by kernel_rfl) rfl rfl) ?_
     refine r_op oA ?_
     refine r_op oA ?_
     refine etr ?_
     refine r_op oM ?_
     refine r_op oB ?_
     refine r_op oM ?_
     refine r_op oM ?_
     refine r_op (o_call 3 3 false (Go.Proofs.enters_of Tryz.func147 (by kernel_rfl) rfl) (c_slices_Contains___int_int_ (setI (varsL (a0))) ((m : Int)) (by omega)) rfl (.cons rfl (.c (.own rfl)) (.cons rfl (.c .t0) .nil)) rfl rfl rfl) ?_
     refine r_op (o_neB rfl Tryz.underlying4 rfl rfl) ?_
     refine r_end ?_
     refine t_cond rfl (fun h8 => ?_) (fun h8 => ?_)
     ·
      have h8' := h8
      try simp only [decide_eq_true_eq, decide_eq_false_iff_not, Bool.not_eq_true', Bool.not_eq_false', Bool.not_false, Bool.not_true] at h8'
      refine tsr ?_
      refine r_op oA ?_
      refine r_end ?_
      refine t_ret Tryz.func109 (.tmp rfl .nil) rfl fun E S w u hI hd => ?_
      refine post_mk hI hd ?_ trivial rfl rfl rfl <;> clear hI hd <;> (try clear ih0) <;> (try clear ih1)
      all_goals (refine scB ?_; ((have e : varsOk (setI (varsL a0)) b = false := varsOk_not (m := m) (by omega) (by rw [varStep_at (V := setI (varsL a0)) (m := m) hz6]; (exact vs_bad1 (by assumption)))); (unfold trgOk; rw [e]; simp; done)))
     ·
      have h8' := h8
      try simp only [decide_eq_true_eq, decide_eq_false_iff_not, Bool.not_eq_true', Bool.not_eq_false', Bool.not_false, Bool.not_true] at h8'
      refine t_skip ?_
      refine t_endblock ?_
      refine t_region ?_
      refine r_op oB ?_
      refine r_op oM ?_
      refine r_end ?_
      refine t_le ?_ (ih0 (m + 1) (by (try dsimp only); omega) (by (try dsimp only); exact ⟨by omega, step_all i2 (by rw [varStep_at (V := setI (varsL a0)) (m := m) hz6]; (exact vs_ok1 (by assumption)))⟩))
      exact ⟨⟨rfl, ⟨rfl, ⟨rfl, ⟨rfl, ⟨rfl, ⟨rfl, ⟨(eqI (wr64 (by omega) (by omega))), trivial⟩⟩⟩⟩⟩⟩⟩, ⟨rfl, ⟨rfl, ⟨rfl, trivial⟩⟩⟩, rfl⟩
    ·
     have h4' := of_decide_eq_false h4
     refine t_exit rfl ?_
     refine t_seq ?_
     refine tsr ?_
     refine r_op (oF 0) ?_
     refine r_op oL ?_
     refine r_op (o_len rfl rfl rfl) ?_
     refine r_op oM ?_
     refine r_end ?_
     refine t_block ?_
     refine t_loopL (fun n => ⟨[(2, some (.c (.t none (.sl 1 encI (b))))), (3, some (.c (.ptr 0 0))), (47, some (.c (.t none (.sl 2 (enS2 encI (enSl 1 encI)) (a0))))), (48, some (.c (.t none (.v (.int .i64 (((a0).length : Int))))))), (49, some (.c (.t none (.v (.int .i64 ((n : Int)))))))], [(0, some (.box [.t none (.sl 3 (enS3 encS encI encB) (rs)), .t none (.sl 2 (enS2 encI (enSl 1 encI)) (fs))])), (1, some (.box [.t none (.sl 2 (enS2 encI (enSl 1 encI)) (a0)), .t none (.sl 2 (enS2 encI (enSl 1 encI)) (a1)), .t none (.v (.bool (a2))), .t none (.v (.int .i64 (a3))), .t none (.v (.int .i64 (a4)))])), (2, some (.row none 3 true 1 encI (setI (varsL (a0)))))], 3⟩ : Nat → St) (fun n => n ≤ a0.length ∧ ∀ j z, j < n → a0[j]? = some z → trgStep fs b z = true) (fun n => a0.length - n) 0 ⟨⟨rfl, ⟨rfl, ⟨rfl, ⟨rfl, ⟨rfl, trivial⟩⟩⟩⟩⟩, ⟨rfl, ⟨rfl, ⟨rfl, trivial⟩⟩⟩, rfl⟩ (by exact ⟨Nat.zero_le _, fun j z h => by omega⟩) ?_
     rintro n hI ih1
     try dsimp only at hI ih1
     obtain ⟨k1, k2⟩ := hI
     refine tsr ?_
     refine r_op oB ?_
     refine r_end ?_
     refine t_seq ?_
     refine t_cond rfl (fun h9 => ?_) (fun h9 => ?_)
     ·
      have h9' := of_decide_eq_true h9
      refine t_skip ?_
      refine t_seq ?_
      refine t_block ?_
      refine tsr ?_
      obtain ⟨z10, hz11, b12⟩ := at_get (xs := a0) (n := (n : Int)) (by omega) (by omega)
      refine r_op (o_index rfl (by kernel_rfl) rfl rfl b12 hz11) ?_
      refine r_op (o_loadA rfl (n := 2) (by kernel_rfl) (by kernel_rfl) rfl rfl) ?_
      refine r_op (o_alloc 3 (zs := [.int .i64 (0), .slice none 0 0]) rfl rfl (by kernel_rfl) rfl) ?_
      refine r_op (oS 2) ?_
      refine etr ?_
      refine r_op (oC 2) ?_
      refine r_op oM ?_
      rcases hm13 : instV (b) (z10.2) with _ | q15
      ·
       refine r_op (o_call 4 8 false (Go.Proofs.enters_of Tryz.func63 (by kernel_rfl) rfl) (c_impl_Instantiate (z10.1) (z10.2) (b) (by (have e1 := sz_at (f := (fun (x : Int × (List (Int))) => (x.2).length)) (l := a0) (m := n) (by assumption); (try dsimp only at e1); omega)) (by exact hoa _ (List.mem_of_getElem? (by assumption))) _ hm13) rfl (.cons rfl (.agg (.cons .t0 (.cons .t0 .nil))) (.cons rfl (.c .t0) .nil)) rfl rfl rfl) ?_
       refine r_op oM ?_
       refine r_op (o_extract rfl rfl rfl rfl) ?_
       refine r_op (o_extract rfl rfl rfl rfl) ?_
       refine r_op (o_alloc 8 (zs := [.int .i64 (0), .slice none 0 0]) rfl rfl (by kernel_rfl) rfl) ?_
       refine r_op (oS 2) ?_
       refine r_op oA ?_
       refine etr ?_
       refine r_op oM ?_
       refine r_op (o_not rfl rfl) ?_
       refine r_op oM ?_
       refine r_guard rfl rfl rfl (nc rfl) (fun _ => ?_)
       refine r_guard rfl rfl rfl (nc rfl) (fun _ => ?_)
       refine r_guard rfl rfl rfl (nc rfl) (fun _ => ?_)
       refine r_guard rfl rfl rfl (nc rfl) (fun _ => ?_)
       refine r_guard rfl rfl rfl (nc rfl) (fun _ => ?_)
       refine r_op (o_pickT rfl rfl rfl rfl) ?_
       refine r_end ?_
       refine t_cond rfl (fun _ => ?_) (nc rfl)
       refine tsr ?_
       refine r_op oA ?_
       refine r_end ?_
       refine t_ret Tryz.func109 (.tmp rfl .nil) rfl fun E S w u hI hd => ?_
       refine post_mk hI hd ?_ trivial rfl rfl rfl <;> clear hI hd <;> (try clear ih0) <;> (try clear ih1)
       all_goals (refine scB ?_; ((have e : a0.all (trgStep fs b) = false := all_not hz11 (by exact trg_none (by assumption))); (unfold trgOk; rw [e]; simp; done)))
      ·
       refine r_op (o_call 4 8 false (Go.Proofs.enters_of Tryz.func63 (by kernel_rfl) rfl) (c_impl_Instantiate (z10.1) (z10.2) (b) (by (have e1 := sz_at (f := (fun (x : Int × (List (Int))) => (x.2).length)) (l := a0) (m := n) (by assumption); (try dsimp only at e1); omega)) (by exact hoa _ (List.mem_of_getElem? (by assumption))) _ hm13) rfl (.cons rfl (.agg (.cons .t0 (.cons .t0 .nil))) (.cons rfl (.c .t0) .nil)) rfl rfl rfl) ?_
       refine r_op oM ?_
       refine r_op (o_extract rfl rfl rfl rfl) ?_
       refine r_op (o_extract rfl rfl rfl rfl) ?_
       refine r_op (o_alloc 8 (zs := [.int .i64 (0), .slice none 0 0]) rfl rfl (by kernel_rfl) rfl) ?_
       refine r_op (oS 2) ?_
       refine r_op oA ?_
       refine etr ?_
       refine r_op oM ?_
       refine r_op (o_not rfl rfl) ?_
       refine r_op oM ?_
       refine r_guard rfl rfl rfl (fun _ => ?_) (ncf rfl)
       refine r_op (oF 1) ?_
       refine r_guard rfl rfl rfl (fun _ => ?_) (ncf rfl)
       refine r_op oL ?_
       refine r_guard rfl rfl rfl (fun _ => ?_) (ncf rfl)
       refine r_op (oC 2) ?_
       refine r_guard rfl rfl rfl (fun _ => ?_) (ncf rfl)
       refine r_op (o_call 9 9 false (Go.Proofs.enters_of Tryz.func148 (by kernel_rfl) rfl) (c_impl_hasFact (fs) ((z10.1)) ((q15)) (by omega) (by (have e5 := instV_len (by assumption); have e1 := sz_at (f := (fun (x : Int × (List (Int))) => (x.2).length)) (l := a0) (m := n) (by assumption); (try dsimp only at e1); omega))) rfl (.cons rfl (.c .t0) (.cons rfl (.agg (.cons .t0 (.cons (.own rfl) .nil))) .nil)) rfl rfl rfl) ?_
       refine r_guard rfl rfl rfl (fun _ => ?_) (ncf rfl)
       refine r_op (o_not rfl rfl) ?_
       refine r_op (o_pickF rfl rfl rfl rfl) ?_
       refine r_end ?_
       refine t_cond rfl (fun h16 => ?_) (fun h16 => ?_)
       ·
        have h16' := (bnt h16)
        refine tsr ?_
        refine r_op oA ?_
        refine r_end ?_
        refine t_ret Tryz.func109 (.tmp rfl .nil) rfl fun E S w u hI hd => ?_
        refine post_mk hI hd ?_ trivial rfl rfl rfl <;> clear hI hd <;> (try clear ih0) <;> (try clear ih1)
        all_goals (refine scB ?_; ((have e : a0.all (trgStep fs b) = false := all_not hz11 (by (rw [trg_some (by assumption)]; simp_all))); (unfold trgOk; rw [e]; simp; done)))
       ·
        have h16' := (bnf h16)
        refine t_skip ?_
        refine t_endblock ?_
        refine t_region ?_
        refine r_op oB ?_
        refine r_op oM ?_
        refine r_end ?_
        refine t_le ?_ (ih1 (n + 1) (by (try dsimp only); omega) (by (try dsimp only); exact ⟨by omega, yes_step k2 hz11 rfl (by rw [trg_some (by assumption)]; simp_all)⟩))
        exact ⟨⟨rfl, ⟨rfl, ⟨rfl, ⟨rfl, ⟨(eqI (wr64 (by omega) (by omega))), trivial⟩⟩⟩⟩⟩, ⟨rfl, ⟨rfl, ⟨rfl, trivial⟩⟩⟩, rfl⟩
     ·
      have h9' := of_decide_eq_false h9
      refine t_exit rfl ?_
      refine tsr ?_
      refine r_op oA ?_
      refine r_end ?_
      refine t_ret Tryz.func109 (.tmp rfl .nil) rfl fun E S w u hI hd => ?_
      refine post_mk hI hd ?_ trivial rfl rfl rfl <;> clear hI hd <;> (try clear ih0) <;> (try clear ih1)
      all_goals (refine scB ?_; (unfold trgOk; rw [varsOk_end i2 (by omega), all_yes k2 (by omega)]; clear hrs hfs ho hs hoa hob g0 v0 v1; grind))
  ·
   have g2' := (bnt g2)
   refine r_guard rfl rfl rfl (nc g2) (fun _ => ?_)
   refine r_guard rfl rfl rfl (nc g2) (fun _ => ?_)
   refine r_op (o_pickT rfl rfl g2 rfl) ?_
   refine r_end ?_
   refine t_cond rfl (fun _ => ?_) (nc rfl)
   refine tsr ?_
   refine r_op oA ?_
   refine r_end ?_
   refine t_ret Tryz.func109 (.tmp rfl .nil) rfl fun E S w u hI hd => ?_
   refine post_mk hI hd ?_ trivial rfl rfl rfl <;> clear hI hd <;> (try clear ih0) <;> (try clear ih1)
   all_goals (refine scB ?_; (unfold trgOk; clear hrs hfs ho hs hoa hob g0 v0 v1; grind))
 ·
  have g1' := (bnt g1)
  refine r_guard rfl rfl rfl (nc g1) (fun _ => ?_)
  refine r_guard rfl rfl rfl (nc g1) (fun _ => ?_)
  refine r_guard rfl rfl rfl (nc g1) (fun _ => ?_)
  refine r_guard rfl rfl rfl (nc g1) (fun _ => ?_)
  refine r_op (o_pickT rfl rfl g1 rfl) ?_
  refine r_op oM ?_
  refine r_guard rfl rfl rfl (nc rfl) (fun _ => ?_)
  refine r_guard rfl rfl rfl (nc rfl) (fun _ => ?_)
  refine r_guard rfl rfl rfl (nc rfl) (fun _ => ?_)
  refine r_op (o_pickT rfl rfl rfl rfl) ?_
  refine r_end ?_
  refine t_cond rfl (fun _ => ?_) (nc rfl)
  refine tsr ?_
  refine r_op oA ?_
  refine r_end ?_
  refine t_ret Tryz.func109 (.tmp rfl .nil) rfl fun E S w u hI hd => ?_
  refine post_mk hI hd ?_ trivial rfl rfl rfl <;> clear hI hd <;> (try clear ih0) <;> (try clear ih1)
  all_goals (refine scB ?_; (unfold trgOk; clear hrs hfs ho hs hoa hob g0 v0 v1; grind))
set_option maxHeartbeats 1000000 in
set_option maxRecDepth 10000 in
theorem c_impl_HasExtension (rs : Rels) (fs l : Atoms) (b : List Int) (hrs : rs.length ≤ 4611686018427387904) (hfs : szS (fun (x : Int × (List (Int))) => (x.2).length) fs ≤ 1048576) (hll : szS (fun (x : Int × (List (Int))) => (x.2).length) l ≤ 1048576) (ho : ∀ z ∈ fs, ∀ x ∈ z.2, okI x) (hbl : b.length ≤ 1048576) : Pu Tryz.prog 110 [.agg [.t none (.sl 3 (enS3 encS encI encB) (rs)), .t none (.sl 2 (enS2 encI (enSl 1 encI)) (fs))], .c (.t none (.sl 2 (enS2 encI (enSl 1 encI)) (l))), .c (.t none (.sl 1 encI (b)))] [] 0 (.c (.t none (.v (.bool (hasE rs fs l b))))) := by
 refine pu_enter Tryz.func110 rfl (Nat.le_of_ble_eq_true rfl) fun w S => ?_
 have gl := sz_len (f := (fun (x : Int × (List (Int))) => (x.2).length)) (l := l)
 refine tsr ?_
 refine r_op (o_box 0 rfl rfl rfl rfl) ?_
 refine r_op oA ?_
 refine r_end ?_
 refine t_seq ?_
 refine t_draw (fun i => !(Nat.beq i 14)) (by kernel_rfl) ?_
 refine dT 0 rfl (pC 2) ?_
 refine dT 1 rfl pM ?_
 refine dO 2 rfl (o_call 1 1 false (Go.Proofs.enters_of Tryz.func149 (by kernel_rfl) rfl) (c_impl_areMatchable (rs) (fs) (l) (by omega) (by omega) (by omega) (by omega)) rfl (.cons rfl (.agg (.cons .t0 (.cons .t0 .nil))) (.cons rfl (.c .t0) .nil)) rfl rfl rfl) ?_
 refine dT 3 rfl pM ?_
 refine dH 4 rfl (fun _ => pM) (fun g1 => ?_) (fun g1 => ?_)
 ·
  have g1' := g1
  refine dH 5 rfl (fun _ => p_len rfl rfl) (fun _ => ?_) (nc g1)
  refine dH 6 rfl (fun _ => pB) (fun _ => ?_) (nc g1)
  refine dT 7 rfl (p_pickT rfl g1 rfl) ?_
  refine dT 8 rfl pM ?_
  refine dH 9 rfl (fun _ => pF 1) (fun g2 => ?_) (fun g2 => ?_)
  ·
   have g2' := of_decide_eq_true g2
   refine dH 10 rfl (fun _ => pL) (fun _ => ?_) (nc g2)
   refine dH 11 rfl (fun _ => pM) (fun _ => ?_) (nc g2)
   refine dH 12 rfl (fun _ => pM) (fun _ => ?_) (nc g2)
   refine d_onlyG 13 rfl rfl (by kernel_rfl) rfl rfl rfl (fun _ => (o_call 1 2 false (Go.Proofs.enters_of Tryz.func59 (by kernel_rfl) rfl) (c_slices_Clone___int_int_ (b) (by omega)) rfl (.cons rfl (.c .t0) .nil) rfl rfl rfl)) (fun _ => ?_) (nc g2)
   refine d_onlyG 14 rfl rfl (by kernel_rfl) rfl rfl rfl (fun _ => (o_callD 1 (matchL (fs) (l) ((b))) (Go.Proofs.enters_of Tryz.func150 (by kernel_rfl) rfl) (fun U => c_impl_matches U  (fs) (l) ((b)) (by exact (mt_pre (by assumption)).1) (by exact (mt_pre (by assumption)).2.1) (by omega) (by exact (mt_pre (by assumption)).2.2.1) (by exact (mt_pre (by assumption)).2.2.2)) rfl rfl (.cons rfl .t0 (.cons rfl .t0 (.cons rfl (.own rfl) .nil))))) (fun _ => ?_) (nc g2)
   refine dH 15 rfl (fun _ => p_leno rfl rfl rfl) (fun _ => ?_) (nc g2)
   refine dH 16 rfl (fun _ => pB) (fun _ => ?_) (nc g2)
   refine dT 17 rfl (p_pickT rfl g2 rfl) ?_
   refine dT 18 rfl pA ?_
   refine d_end (by kernel_rfl) ?_
   refine t_ret Tryz.func110 (.tmp rfl .nil) rfl fun E S w u hI hd => ?_
   refine post_mk hI hd ?_ trivial rfl rfl rfl <;> clear hI hd
   all_goals (refine scB ?_; (try simp only [show (0 : Int).toNat = 0 from rfl, List.drop_zero] at *); clear hrs hfs hll ho gl; unfold hasE; grind)
  ·
   have g2' := of_decide_eq_false g2
   refine dG 10 (ncf g2) (fun _ => ?_)
   refine dG 11 (ncf g2) (fun _ => ?_)
   refine dG 12 (ncf g2) (fun _ => ?_)
   refine dG 13 (ncf g2) (fun _ => ?_)
   refine dG 14 (ncf g2) (fun _ => ?_)
   refine dG 15 (ncf g2) (fun _ => ?_)
   refine dG 16 (ncf g2) (fun _ => ?_)
   refine dT 17 rfl (p_pickF rfl g2 rfl) ?_
   refine dT 18 rfl pA ?_
   refine d_end (by kernel_rfl) ?_
   refine t_ret Tryz.func110 (.tmp rfl .nil) rfl fun E S w u hI hd => ?_
   refine post_mk hI hd ?_ trivial rfl rfl rfl <;> clear hI hd
   all_goals (refine scB ?_; (try simp only [show (0 : Int).toNat = 0 from rfl, List.drop_zero] at *); clear hrs hfs hll ho gl; unfold hasE; grind)
 ·
  have g1' := g1
  refine dG 5 (ncf g1) (fun _ => ?_)
  refine dG 6 (ncf g1) (fun _ => ?_)
  refine dT 7 rfl (p_pickF rfl g1 rfl) ?_
  refine dT 8 rfl pM ?_
  refine dG 9 (ncf rfl) (fun _ => ?_)
  refine dG 10 (ncf rfl) (fun _ => ?_)
  refine dG 11 (ncf rfl) (fun _ => ?_)
  refine dG 12 (ncf rfl) (fun _ => ?_)
  refine dG 13 (ncf rfl) (fun _ => ?_)
  refine dG 14 (ncf rfl) (fun _ => ?_)
  refine dG 15 (ncf rfl) (fun _ => ?_)
  refine dG 16 (ncf rfl) (fun _ => ?_)
  refine dT 17 rfl (p_pickF rfl rfl rfl) ?_
  refine dT 18 rfl pA ?_
  refine d_end (by kernel_rfl) ?_
  refine t_ret Tryz.func110 (.tmp rfl .nil) rfl fun E S w u hI hd => ?_
  refine post_mk hI hd ?_ trivial rfl rfl rfl <;> clear hI hd
  all_goals (refine scB ?_; (try simp only [show (0 : Int).toNat = 0 from rfl, List.drop_zero] at *); clear hrs hfs hll ho gl; unfold hasE; grind)
set_option maxHeartbeats 1000000 in
set_option maxRecDepth 10000 in
theorem c_impl_IsActiveTrigger (rs : Rels) (fs : Atoms) (a0 : List (Int × (List (Int)))) (a1 : List (Int × (List (Int)))) (a2 : Bool) (a3 : Int) (a4 : Int) (b : List Int) (hrs : rs.length ≤ 4611686018427387904) (hfs : szS (fun (x : Int × (List (Int))) => (x.2).length) fs ≤ 1048576) (ho : ∀ z ∈ fs, ∀ x ∈ z.2, okI x) (hs : szS (fun (x : Int × (List (Int))) => (x.2).length) a0 + szS (fun (x : Int × (List (Int))) => (x.2).length) a1 ≤ 1048576) (hoa : ∀ z ∈ a0, ∀ x ∈ z.2, okI x) (hob : ∀ x ∈ b, okI x) (hbl : b.length ≤ 1048576) : Pu Tryz.prog 56 [.agg [.t none (.sl 3 (enS3 encS encI encB) (rs)), .t none (.sl 2 (enS2 encI (enSl 1 encI)) (fs))], .agg [.t none (.sl 2 (enS2 encI (enSl 1 encI)) (a0)), .t none (.sl 2 (enS2 encI (enSl 1 encI)) (a1)), .t none (.v (.bool (a2))), .t none (.v (.int .i64 (a3))), .t none (.v (.int .i64 (a4)))], .c (.t none (.sl 1 encI (b)))] [] 0 (.c (.t none (.v (.bool (actOk rs fs a0 a1 a2 a3 a4 b))))) := by
 refine pu_enter Tryz.func56 rfl (Nat.le_of_ble_eq_true rfl) fun w S => ?_
 have g0 := sz_len (f := (fun (x : Int × (List (Int))) => (x.2).length)) (l := a0); have v0 := setI_len (varsL a0); have v1 := varsL_size a0
 refine tsr ?_
 refine r_op (o_box 0 rfl rfl rfl rfl) ?_
 refine r_op (o_box 1 rfl rfl rfl rfl) ?_
 refine r_op oA ?_
 refine r_end ?_
 refine t_seq ?_
 refine tsr ?_
 refine r_op (oC 2) ?_
 refine r_op (oC 5) ?_
 refine r_op oM ?_
 refine r_op (o_call 2 2 false (Go.Proofs.enters_of Tryz.func109 (by kernel_rfl) rfl) (c_impl_IsTrigger (rs) (fs) (a0) (a1) (a2) (a3) (a4) (b) (by omega) (by omega) (by omega) (by omega) (by omega) (by omega) (by omega)) rfl (.cons rfl (.agg (.cons .t0 (.cons .t0 .nil))) (.cons rfl (.agg (.cons .t0 (.cons .t0 (.cons .t0 (.cons .t0 (.cons .t0 .nil)))))) (.cons rfl (.c .t0) .nil))) rfl rfl rfl) ?_
 refine r_op (o_not rfl rfl) ?_
 refine r_end ?_
 refine t_cond rfl (fun h1 => ?_) (fun h1 => ?_)
 ·
  have h1' := (bnt h1)
  refine tsr ?_
  refine r_op oA ?_
  refine r_end ?_
  refine t_ret Tryz.func56 (.tmp rfl .nil) rfl fun E S w u hI hd => ?_
  refine post_mk hI hd ?_ trivial rfl rfl rfl <;> clear hI hd
  all_goals (refine scB ?_; unfold actOk; clear hrs hfs ho hs hoa hob g0 v0 v1; (grind))
 ·
  have h1' := (bnf h1)
  refine t_skip ?_
  refine t_seq ?_
  refine tsr ?_
  refine r_op (oF 2) ?_
  refine r_op oL ?_
  refine r_end ?_
  refine t_cond rfl (fun h2 => ?_) (fun h2 => ?_)
  ·
   have h2' := h2
   refine t_seq ?_
   refine t_draw (fun _ => true) (by kernel_rfl) ?_
   refine dT 0 rfl pM ?_
   refine dT 1 rfl (pF 3) ?_
   refine dT 2 rfl pL ?_
   obtain ⟨z3, hz4, b5⟩ := at_get (xs := b) (n := a3) (by exact (trg_idx (by assumption) (by assumption)).1.1) (by exact (trg_idx (by assumption) (by assumption)).1.2)
   refine dT 3 rfl (p_index (by kernel_rfl) rfl rfl b5 hz4) ?_
   refine dT 4 rfl (p_load1 (by kernel_rfl) rfl rfl) ?_
   refine dT 5 rfl pM ?_
   refine dT 6 rfl (pF 4) ?_
   refine dT 7 rfl pL ?_
   obtain ⟨z6, hz7, b8⟩ := at_get (xs := b) (n := a4) (by exact (trg_idx (by assumption) (by assumption)).2.1) (by exact (trg_idx (by assumption) (by assumption)).2.2)
   refine dT 8 rfl (p_index (by kernel_rfl) rfl rfl b8 hz7) ?_
   refine dT 9 rfl (p_load1 (by kernel_rfl) rfl rfl) ?_
   refine dT 10 rfl pB ?_
   refine dT 11 rfl pA ?_
   refine d_end (by kernel_rfl) ?_
   refine t_ret Tryz.func56 (.tmp rfl .nil) rfl fun E S w u hI hd => ?_
   refine post_mk hI hd ?_ trivial rfl rfl rfl <;> clear hI hd
   all_goals (refine scB ?_; unfold actOk; clear hrs hfs ho hs hoa hob g0 v0 v1; (have e1 := getD_at hz4; have e2 := getD_at hz7; rw [e1, e2]; grind))
  ·
   have h2' := h2
   refine t_skip ?_
   refine tsr ?_
   refine r_op (oC 2) ?_
   refine r_op (oF 1) ?_
   refine r_op oL ?_
   refine r_op oM ?_
   refine r_op (o_call 2 2 false (Go.Proofs.enters_of Tryz.func110 (by kernel_rfl) rfl) (c_impl_HasExtension (rs) (fs) (a1) (b) (by omega) (by omega) (by omega) (by omega) (by omega)) rfl (.cons rfl (.agg (.cons .t0 (.cons .t0 .nil))) (.cons rfl (.c .t0) (.cons rfl (.c .t0) .nil))) rfl rfl rfl) ?_
   refine r_op (o_not rfl rfl) ?_
   refine r_op oA ?_
   refine r_end ?_
   refine t_ret Tryz.func56 (.tmp rfl .nil) rfl fun E S w u hI hd => ?_
   refine post_mk hI hd ?_ trivial rfl rfl rfl <;> clear hI hd
   all_goals (refine scB ?_; unfold actOk; clear hrs hfs ho hs hoa hob g0 v0 v1; (grind))
set_option maxHeartbeats 1000000 in
set_option maxRecDepth 10000 in
theorem c_impl_ActiveTriggers (rs : Rels) (fs : Atoms) (a0 : List (Int × (List (Int)))) (a1 : List (Int × (List (Int)))) (a2 : Bool) (a3 : Int) (a4 : Int) (hrs : rs.length ≤ 4611686018427387904) (hfs : szS (fun (x : Int × (List (Int))) => (x.2).length) fs ≤ 1048576) (ho : ∀ z ∈ fs, ∀ x ∈ z.2, okI x) (hs : szS (fun (x : Int × (List (Int))) => (x.2).length) a0 + szS (fun (x : Int × (List (Int))) => (x.2).length) a1 ≤ 1048576) (hoa : ∀ z ∈ a0, ∀ x ∈ z.2, okI x) : Pu Tryz.prog 124 [.agg [.t none (.sl 3 (enS3 encS encI encB) (rs)), .t none (.sl 2 (enS2 encI (enSl 1 encI)) (fs))], .agg [.t none (.sl 2 (enS2 encI (enSl 1 encI)) (a0)), .t none (.sl 2 (enS2 encI (enSl 1 encI)) (a1)), .t none (.v (.bool (a2))), .t none (.v (.int .i64 (a3))), .t none (.v (.int .i64 (a4)))]] [(2, some (.row none 43 true 1 (enSl 1 encI) (actL rs fs a0 a1 a2 a3 a4)))] 3 (.c (.own 2)) := by
 refine pu_enter Tryz.func124 rfl (Nat.le_of_ble_eq_true rfl) fun w S => ?_
 have g0 := sz_len (f := (fun (x : Int × (List (Int))) => (x.2).length)) (l := a0); have g1 := findL_len rs fs a0
 refine tsr ?_
 refine r_op (o_box 0 rfl rfl rfl rfl) ?_
 refine r_op (o_box 1 rfl rfl rfl rfl) ?_
 refine r_op oA ?_
 refine etr ?_
 refine r_op (o_lit0 2 (e := 43) (sz := 1) (zs := [.slice none 0 0]) (enSl 1 encI) rfl rfl (by kernel_rfl) rfl) ?_
 refine r_op oA ?_
 refine r_end ?_
 refine t_seq ?_
 refine tsr ?_
 refine r_op (oF 0) ?_
 refine r_op oL ?_
 refine r_op (oC 5) ?_
 refine r_op (o_call 3 3 false (Go.Proofs.enters_of Tryz.func132 (by kernel_rfl) rfl) (c_impl_IsValidDependency (rs) (a0) (a1) (a2) (a3) (a4) (by omega) (by omega)) rfl (.cons rfl (.c .t0) (.cons rfl (.agg (.cons .t0 (.cons .t0 (.cons .t0 (.cons .t0 (.cons .t0 .nil)))))) .nil)) rfl rfl rfl) ?_
 refine r_op (o_not rfl rfl) ?_
 refine r_end ?_
 refine t_cond rfl (fun h1 => ?_) (fun h1 => ?_)
 ·
  have h1' := (bnt h1)
  refine tsr ?_
  refine r_op oM ?_
  refine r_op oA ?_
  refine r_end ?_
  refine t_ret Tryz.func124 (.tmp rfl .nil) rfl fun E S w u hI hd => ?_
  refine post_mk hI hd ?_ ⟨eqR ?_, trivial⟩ rfl rfl rfl <;> clear hI hd <;> (try clear ih0)
  all_goals first | rfl | ((exact actL_no (by simp_all; done)))
 ·
  have h1' := (bnf h1)
  refine t_skip ?_
  refine t_seq ?_
  refine tsr ?_
  refine r_op (oC 2) ?_
  refine r_op (oF 0) ?_
  refine r_op oL ?_
  refine r_op (o_call 3 5 false (Go.Proofs.enters_of Tryz.func157 (by kernel_rfl) rfl) (c_impl_FindMatches (rs) (fs) (a0) (by omega) (by omega) (by omega) (by omega)) rfl (.cons rfl (.agg (.cons .t0 (.cons .t0 .nil))) (.cons rfl (.c .t0) .nil)) rfl rfl rfl) ?_
  refine r_op (o_leno rfl rfl rfl rfl) ?_
  refine r_op oM ?_
  refine r_end ?_
  refine t_block ?_
  refine gt_sum 4 rfl ?_
  refine t_loopL (fun (vs, m) => ⟨[(2, some (.c (.ptr 0 0))), (3, some (.c (.ptr 1 0))), (4, some (.c (.t none (.v (.slice none 0 0))))), (5, some (.c (.own 2))), (18, some (.c (.own 4))), (19, some (.c (.t none (.v (.int .i64 (((findL (rs) (fs) (a0)).length : Int))))))), (20, some (.c (.t none (.v (.int .i64 ((m : Int)))))))], [(0, some (.box [.t none (.sl 3 (enS3 encS encI encB) (rs)), .t none (.sl 2 (enS2 encI (enSl 1 encI)) (fs))])), (1, some (.box [.t none (.sl 2 (enS2 encI (enSl 1 encI)) (a0)), .t none (.sl 2 (enS2 encI (enSl 1 encI)) (a1)), .t none (.v (.bool (a2))), .t none (.v (.int .i64 (a3))), .t none (.v (.int .i64 (a4)))])), (2, some (.row none 43 true 1 (enSl 1 encI) (((findL rs fs a0).take m).filter (actOk rs fs a0 a1 a2 a3 a4)))), (4, some (.row none 43 true 1 (encK (enSl 1 encI)) (tkL vs (findL rs fs a0))))], 5⟩ : List Value × Nat → St) (fun (vs, m) => vs.length = m ∧ m ≤ (findL rs fs a0).length) (fun (vs, m) => (findL rs fs a0).length - m) ([], 0) ⟨⟨rfl, ⟨rfl, ⟨rfl, ⟨rfl, ⟨rfl, ⟨rfl, ⟨rfl, trivial⟩⟩⟩⟩⟩⟩⟩, ⟨rfl, ⟨rfl, ⟨rfl, ⟨rfl, trivial⟩⟩⟩⟩, rfl⟩ (by exact ⟨rfl, Nat.zero_le _⟩) ?_
  rintro ⟨vs, m⟩ hI ih0
  try dsimp only at hI ih0
  obtain ⟨i0, i1⟩ := hI; have tl := tkL_len (vs := vs) (L := findL rs fs a0) (by omega); have fr := filt_room (p := actOk rs fs a0 a1 a2 a3 a4) (L := findL rs fs a0) (m := m) g1
  refine tsr ?_
  refine r_op oB ?_
  refine r_end ?_
  refine t_seq ?_
  refine t_cond rfl (fun h2 => ?_) (fun h2 => ?_)
  ·
   have h2' := of_decide_eq_true h2
   refine t_skip ?_
   refine t_seq ?_
   refine t_block ?_
   refine t_seq ?_
   obtain ⟨z3, hz4, b5⟩ := at_get (xs := findL rs fs a0) (n := (m : Int)) (by omega) (by omega)
   refine gt_take0 5 4 rfl rfl (tkL_at (by omega) hz4) fun e6 v7 => ?_
   refine t_region ?_
   obtain ⟨z8, hz9, b10⟩ := at_get (xs := (tkL vs (findL rs fs a0)).set (m : Int).toNat (.inl v7)) (n := (m : Int)) (by omega) (by (rw [List.length_set]; omega))
   refine r_op (o_indexo rfl (by kernel_rfl) rfl rfl rfl b10 (at_lt b10 hz9)) ?_
   refine r_op (o_loadpin rfl (k := 5) (o := 0) (by kernel_rfl) rfl rfl (tk_got (by omega) (by omega)) rfl) ?_
   refine r_op oA ?_
   refine etr ?_
   refine r_op (oC 2) ?_
   refine r_op (oC 5) ?_
   refine r_op oM ?_
   refine r_op (o_call 6 6 false (Go.Proofs.enters_of Tryz.func56 (by kernel_rfl) rfl) (c_impl_IsActiveTrigger (rs) (fs) (a0) (a1) (a2) (a3) (a4) (z3) (by omega) (by omega) (by omega) (by omega) (by omega) (by exact findL_ok (fun f hf => ho f hf) (List.mem_of_getElem? (by assumption))) (by (have e5 := findL_five (List.mem_of_getElem? (by assumption)); omega))) rfl (.cons rfl (.agg (.cons .t0 (.cons .t0 .nil))) (.cons rfl (.agg (.cons .t0 (.cons .t0 (.cons .t0 (.cons .t0 (.cons .t0 .nil)))))) (.cons rfl (.c (.own rfl)) .nil))) rfl rfl rfl) ?_
   refine r_end ?_
   refine t_cond rfl (fun h11 => ?_) (fun h11 => ?_)
   ·
    have h11' := h11
    refine t_region ?_
    refine r_op oM ?_
    refine r_op oM ?_
    refine r_op (o_litS 6 (e := 43) (sz := 1) (zs := [.slice none 0 0]) rfl rfl (by kernel_rfl) rfl rfl rfl rfl rfl) ?_
    refine r_op (o_append 2 (e := 43) (sz := 1) (by' := 24) (z3) rfl (by kernel_rfl) rfl rfl rfl rfl rfl rfl (.take (.own rfl) rfl .nil) rfl (by omega) (by omega)) ?_
    refine r_op oA ?_
    refine r_end ?_
    refine t_endblock ?_
    refine t_region ?_
    refine r_op oB ?_
    refine r_op oM ?_
    refine r_end ?_
    refine t_le ?_ (ih0 (vs ++ [v7], m + 1) (by (try dsimp only); omega) (by (try dsimp only); exact ⟨by simp; omega, by omega⟩))
    exact ⟨⟨rfl, ⟨rfl, ⟨rfl, ⟨rfl, ⟨rfl, ⟨rfl, ⟨(eqI (wr64 (by omega) (by omega))), trivial⟩⟩⟩⟩⟩⟩⟩, ⟨rfl, ⟨rfl, ⟨(eqR (by exact filt_hit hz4 rfl (by assumption))), ⟨(eqR (tkL_set i0 (by omega))), trivial⟩⟩⟩⟩, rfl⟩
   ·
    have h11' := h11
    refine t_skip ?_
    refine t_endblock ?_
    refine t_region ?_
    refine r_op oB ?_
    refine r_op oM ?_
    refine r_end ?_
    refine t_le ?_ (ih0 (vs ++ [v7], m + 1) (by (try dsimp only); omega) (by (try dsimp only); exact ⟨by simp; omega, by omega⟩))
    exact ⟨⟨rfl, ⟨rfl, ⟨rfl, ⟨rfl, ⟨rfl, ⟨rfl, ⟨(eqI (wr64 (by omega) (by omega))), trivial⟩⟩⟩⟩⟩⟩⟩, ⟨rfl, ⟨rfl, ⟨(eqR (by exact filt_miss hz4 rfl (by assumption))), ⟨(eqR (tkL_set i0 (by omega))), trivial⟩⟩⟩⟩, rfl⟩
  ·
   have h2' := of_decide_eq_false h2
   refine t_exit rfl ?_
   refine tsr ?_
   refine r_op oM ?_
   refine r_op oA ?_
   refine r_end ?_
   refine t_ret Tryz.func124 (.tmp rfl .nil) rfl fun E S w u hI hd => ?_
   refine post_mk hI hd ?_ ⟨eqR ?_, trivial⟩ rfl rfl rfl <;> clear hI hd <;> (try clear ih0)
   all_goals first | rfl | ((exact actL_yes (by assumption) (by omega)))
set_option maxHeartbeats 1000000 in
set_option maxRecDepth 10000 in
theorem c_impl_FirstViolation (rs : Rels) (fs : Atoms) (ds : List Dep) (hrs : rs.length ≤ 4611686018427387904) (hfs : szS (fun (x : Int × (List (Int))) => (x.2).length) fs ≤ 1048576) (hds : szS (fun (x : (List (Int × (List (Int)))) × (List (Int × (List (Int)))) × Bool × Int × Int) => (szS (fun (x : Int × (List (Int))) => (x.2).length) (x.1)) + (szS (fun (x : Int × (List (Int))) => (x.2).length) (x.2.1))) ds ≤ 1048576) (ho : ∀ z ∈ fs, ∀ x ∈ z.2, okI x) (hod : ∀ d ∈ ds, ∀ z ∈ d.1, ∀ x ∈ z.2, okI x) : PuE Tryz.prog 72 [.agg [.t none (.sl 3 (enS3 encS encI encB) (rs)), .t none (.sl 2 (enS2 encI (enSl 1 encI)) (fs))], .c (.t none (.sl 5 (enS5 (enSl 2 (enS2 encI (enSl 1 encI))) (enSl 2 (enS2 encI (enSl 1 encI))) encB encI encI) (ds)))] (fun et => [(0, some (.row none et true 1 encI (vioB rs fs ds)))]) 1 (.tup [(false, [.t none (.v (.int .i64 (vioI rs fs ds)))]), (false, [.own 0]), (false, [.t none (.v (.bool (vioOk rs fs ds)))])]) := by
 refine pu_enterE Tryz.func72 rfl (Nat.le_of_ble_eq_true rfl) fun w S => ?_
 have gl := sz_len (f := (fun (x : (List (Int × (List (Int)))) × (List (Int × (List (Int)))) × Bool × Int × Int) => (szS (fun (x : Int × (List (Int))) => (x.2).length) (x.1)) + (szS (fun (x : Int × (List (Int))) => (x.2).length) (x.2.1)))) (l := ds)
 refine tsr ?_
 refine r_op (o_box 0 rfl rfl rfl rfl) ?_
 refine r_op oA ?_
 refine r_op oA ?_
 refine r_op oA ?_
 refine r_end ?_
 refine t_seq ?_
 refine tsr ?_
 refine r_op (oC 2) ?_
 refine r_op (o_call 1 1 false (Go.Proofs.enters_of Tryz.func40 (by kernel_rfl) rfl) (c_impl_IsValidInstance (rs) (fs) (by omega) (by omega) (by omega)) rfl (.cons rfl (.agg (.cons .t0 (.cons .t0 .nil))) .nil) rfl rfl rfl) ?_
 refine r_op (o_not rfl rfl) ?_
 refine r_op oM ?_
 refine r_guard rfl rfl rfl (fun g1 => ?_) (fun g1 => ?_)
 ·
  have g1' := (bnf g1)
  refine r_op (oF 0) ?_
  refine r_guard rfl rfl rfl (fun _ => ?_) (ncf g1)
  refine r_op oL ?_
  refine r_guard rfl rfl rfl (fun _ => ?_) (ncf g1)
  refine r_op oM ?_
  refine r_guard rfl rfl rfl (fun _ => ?_) (ncf g1)
  refine r_op (o_call 1 1 false (Go.Proofs.enters_of Tryz.func85 (by kernel_rfl) rfl) (c_impl_AreValidDependencies (rs) (ds) (by omega) (by omega)) rfl (.cons rfl (.c .t0) (.cons rfl (.c .t0) .nil)) rfl rfl rfl) ?_
  refine r_guard rfl rfl rfl (fun _ => ?_) (ncf g1)
  refine r_op (o_not rfl rfl) ?_
  refine r_op (o_pickF rfl rfl g1 rfl) ?_
  refine r_end ?_
  refine t_cond rfl (fun h2 => ?_) (fun h2 => ?_)
  ·
   have h2' := (bnt h2)
   refine tsr ?_
   refine r_op oA ?_
   refine r_op oA ?_
   refine r_op oA ?_
   refine r_end ?_
   refine gt_nil 1 (t := 5) (et := 3) (sz := 1) true encI rfl rfl ?_
   refine gt_as [1] rfl ?_ rfl
   refine t_ret Tryz.func72 (.tmp rfl (.tmp rfl (.tmp rfl .nil))) rfl fun E S w u hI hd => ?_
   refine ⟨_, post_mk hI hd ?_ ⟨eqR ?_, trivial⟩ rfl rfl rfl⟩ <;> clear hI hd <;> (try clear ih0)
   all_goals (((have v0 : vioOk rs fs ds = false := (by exact vio_bad2 (by assumption))); have v1 := vio_off v0; first | exact v1.2.symm | exact tup3V v1.1.symm v0.symm))
  ·
   have h2' := (bnf h2)
   refine t_skip ?_
   refine t_seq ?_
   refine tsr ?_
   refine r_op oM ?_
   refine r_op (o_len rfl rfl rfl) ?_
   refine r_op oM ?_
   refine r_end ?_
   refine t_block ?_
   refine t_loopL (fun m => ⟨[(2, some (.c (.ptr 0 0))), (20, some (.c (.t none (.sl 5 (enS5 (enSl 2 (enS2 encI (enSl 1 encI))) (enSl 2 (enS2 encI (enSl 1 encI))) encB encI encI) (ds))))), (21, some (.c (.t none (.v (.int .i64 (((ds).length : Int))))))), (22, some (.c (.t none (.v (.int .i64 ((m : Int)))))))], [(0, some (.box [.t none (.sl 3 (enS3 encS encI encB) (rs)), .t none (.sl 2 (enS2 encI (enSl 1 encI)) (fs))]))], 1⟩ : Nat → St) (fun m => m ≤ ds.length ∧ ∀ j z, j < m → ds[j]? = some z → hotD rs fs z = false) (fun m => ds.length - m) 0 ⟨⟨rfl, ⟨rfl, ⟨rfl, ⟨rfl, trivial⟩⟩⟩⟩, ⟨rfl, trivial⟩, rfl⟩ (by exact ⟨Nat.zero_le _, fun j z h => by omega⟩) ?_
   rintro m hI ih0
   try dsimp only at hI ih0
   obtain ⟨i1, i2⟩ := hI
   refine tsr ?_
   refine r_op oB ?_
   refine r_end ?_
   refine t_seq ?_
   refine t_cond rfl (fun h3 => ?_) (fun h3 => ?_)
   ·
    have h3' := of_decide_eq_true h3
    refine t_skip ?_
    refine t_seq ?_
    refine t_block ?_
    refine tsr ?_
    refine r_op oM ?_
    obtain ⟨z4, hz5, b6⟩ := at_get (xs := ds) (n := (m : Int)) (by omega) (by omega)
    refine r_op (o_index rfl (by kernel_rfl) rfl rfl b6 hz5) ?_
    refine r_op (o_loadA rfl (n := 5) (by kernel_rfl) (by kernel_rfl) rfl rfl) ?_
    refine r_op (o_alloc 1 (zs := [.slice none 0 0, .slice none 0 0, .bool (false), .int .i64 (0), .int .i64 (0)]) rfl rfl (by kernel_rfl) rfl) ?_
    refine r_op oA ?_
    refine r_op (oS 5) ?_
    refine etr ?_
    refine r_op (oC 2) ?_
    refine r_op (oC 5) ?_
    refine r_op (o_call 2 5 false (Go.Proofs.enters_of Tryz.func124 (by kernel_rfl) rfl) (c_impl_ActiveTriggers (rs) (fs) (z4.1) (z4.2.1) (z4.2.2.1) (z4.2.2.2.1) (z4.2.2.2.2) (by omega) (by omega) (by omega) (by (have e1 := sz_at (f := (fun (x : (List (Int × (List (Int)))) × (List (Int × (List (Int)))) × Bool × Int × Int) => (szS (fun (x : Int × (List (Int))) => (x.2).length) (x.1)) + (szS (fun (x : Int × (List (Int))) => (x.2).length) (x.2.1)))) (l := ds) (m := m) (by assumption); (try dsimp only at e1); omega)) (by exact hod _ (List.mem_of_getElem? (by assumption)))) rfl (.cons rfl (.agg (.cons .t0 (.cons .t0 .nil))) (.cons rfl (.agg (.cons .t0 (.cons .t0 (.cons .t0 (.cons .t0 (.cons .t0 .nil)))))) .nil)) rfl rfl rfl) ?_
    refine r_op oA ?_
    refine etr ?_
    refine r_op oM ?_
    refine r_op (o_leno rfl rfl rfl rfl) ?_
    refine r_op oB ?_
    refine r_end ?_
    refine t_cond rfl (fun h7 => ?_) (fun h7 => ?_)
    ·
     have h7' := of_decide_eq_true h7
     refine t_seq ?_
     refine gt_sum 4 rfl ?_
     obtain ⟨z8, hz9, b10⟩ := at_get (xs := actL rs fs z4.1 z4.2.1 z4.2.2.1 z4.2.2.2.1 z4.2.2.2.2) (n := (0 : Int)) (by omega) (by omega)
     refine gt_take0 5 4 rfl rfl (tkL_at (by rfl) hz9) fun e11 v12 => ?_
     refine t_draw (fun _ => true) (by kernel_rfl) ?_
     refine dT 0 rfl pM ?_
     refine dT 1 rfl pM ?_
     obtain ⟨z13, hz14, b15⟩ := at_get (xs := (tkL [] (actL rs fs z4.1 z4.2.1 z4.2.2.1 z4.2.2.2.1 z4.2.2.2.2)).set (0 : Int).toNat (.inl v12)) (n := 0) (by omega) (by (rw [tk_len2 (Nat.zero_le _)]; omega))
     refine dT 2 rfl (p_indexo (by kernel_rfl) rfl rfl rfl b15 (at_lt b15 hz14)) ?_
     refine dT 3 rfl (p_loadpin (k := 5) (o := 0) (by kernel_rfl) rfl rfl (tk_got (by rfl) (by omega)) rfl) ?_
     refine dT 4 rfl pA ?_
     refine dT 5 rfl pA ?_
     refine dT 6 rfl pA ?_
     refine d_end (by kernel_rfl) ?_
     refine gt_as [5] rfl ?_ rfl
     refine t_ret Tryz.func72 (.tmp rfl (.tmp rfl (.tmp rfl .nil))) rfl fun E S w u hI hd => ?_
     refine ⟨_, post_mk hI hd ?_ ⟨eqR ?_, trivial⟩ rfl rfl rfl⟩ <;> clear hI hd <;> (try clear ih0)
     all_goals ((have v1 := vio_hit (rs := rs) (fs := fs) (by assumption) (by assumption) i2 hz5 (hotD_pos (by assumption)) hz9; first | exact v1.2.2.symm | exact tup3V v1.2.1.symm v1.1.symm))
    ·
     have h7' := of_decide_eq_false h7
     refine t_skip ?_
     refine t_endblock ?_
     refine t_region ?_
     refine r_op oB ?_
     refine r_op oM ?_
     refine r_end ?_
     refine t_le ?_ (ih0 (m + 1) (by (try dsimp only); omega) (by (try dsimp only); exact ⟨by omega, no_step i2 hz5 rfl (hotD_not (by assumption))⟩))
     exact ⟨⟨rfl, ⟨rfl, ⟨rfl, ⟨(eqI (wr64 (by omega) (by omega))), trivial⟩⟩⟩⟩, ⟨rfl, trivial⟩, rfl⟩
   ·
    have h3' := of_decide_eq_false h3
    refine t_exit rfl ?_
    refine tsr ?_
    refine r_op oA ?_
    refine r_op oA ?_
    refine r_op oA ?_
    refine r_end ?_
    refine gt_nil 1 (t := 5) (et := 3) (sz := 1) true encI rfl rfl ?_
    refine gt_as [1] rfl ?_ rfl
    refine t_ret Tryz.func72 (.tmp rfl (.tmp rfl (.tmp rfl .nil))) rfl fun E S w u hI hd => ?_
    refine ⟨_, post_mk hI hd ?_ ⟨eqR ?_, trivial⟩ rfl rfl rfl⟩ <;> clear hI hd <;> (try clear ih0)
    all_goals (((have v0 : vioOk rs fs ds = false := (by exact vio_none i2 (by omega))); have v1 := vio_off v0; first | exact v1.2.symm | exact tup3V v1.1.symm v0.symm))
 ·
  have g1' := (bnt g1)
  refine r_guard rfl rfl rfl (nc g1) (fun _ => ?_)
  refine r_guard rfl rfl rfl (nc g1) (fun _ => ?_)
  refine r_guard rfl rfl rfl (nc g1) (fun _ => ?_)
  refine r_guard rfl rfl rfl (nc g1) (fun _ => ?_)
  refine r_op (o_pickT rfl rfl g1 rfl) ?_
  refine r_end ?_
  refine t_cond rfl (fun _ => ?_) (nc rfl)
  refine tsr ?_
  refine r_op oA ?_
  refine r_op oA ?_
  refine r_op oA ?_
  refine r_end ?_
  refine gt_nil 1 (t := 5) (et := 3) (sz := 1) true encI rfl rfl ?_
  refine gt_as [1] rfl ?_ rfl
  refine t_ret Tryz.func72 (.tmp rfl (.tmp rfl (.tmp rfl .nil))) rfl fun E S w u hI hd => ?_
  refine ⟨_, post_mk hI hd ?_ ⟨eqR ?_, trivial⟩ rfl rfl rfl⟩ <;> clear hI hd <;> (try clear ih0)
  all_goals (((have v0 : vioOk rs fs ds = false := (by exact vio_bad1 (by assumption))); have v1 := vio_off v0; first | exact v1.2.symm | exact tup3V v1.1.symm v0.symm))
set_option maxHeartbeats 1000000 in
set_option maxRecDepth 10000 in
theorem c_impl_Satisfies (rs : Rels) (fs : Atoms) (ds : List Dep) (hrs : rs.length ≤ 4611686018427387904) (hfs : szS (fun (x : Int × (List (Int))) => (x.2).length) fs ≤ 1048576) (hds : szS (fun (x : (List (Int × (List (Int)))) × (List (Int × (List (Int)))) × Bool × Int × Int) => (szS (fun (x : Int × (List (Int))) => (x.2).length) (x.1)) + (szS (fun (x : Int × (List (Int))) => (x.2).length) (x.2.1))) ds ≤ 1048576) (ho : ∀ z ∈ fs, ∀ x ∈ z.2, okI x) (hod : ∀ d ∈ ds, ∀ z ∈ d.1, ∀ x ∈ z.2, okI x) : Pu Tryz.prog 39 [.agg [.t none (.sl 3 (enS3 encS encI encB) (rs)), .t none (.sl 2 (enS2 encI (enSl 1 encI)) (fs))], .c (.t none (.sl 5 (enS5 (enSl 2 (enS2 encI (enSl 1 encI))) (enSl 2 (enS2 encI (enSl 1 encI))) encB encI encI) (ds)))] [] 0 (.c (.t none (.v (.bool (vioS rs fs ds))))) := by
 refine pu_enter Tryz.func39 rfl (Nat.le_of_ble_eq_true rfl) fun w S => ?_
 have gl := sz_len (f := (fun (x : (List (Int × (List (Int)))) × (List (Int × (List (Int)))) × Bool × Int × Int) => (szS (fun (x : Int × (List (Int))) => (x.2).length) (x.1)) + (szS (fun (x : Int × (List (Int))) => (x.2).length) (x.2.1)))) (l := ds)
 refine tsr ?_
 refine r_op (o_box 0 rfl rfl rfl rfl) ?_
 refine r_op oA ?_
 refine etr ?_
 refine r_op (oC 2) ?_
 refine r_op oM ?_
 refine r_opE (o_callE 1 2 (Go.Proofs.enters_of Tryz.func72 (by kernel_rfl) rfl) (c_impl_FirstViolation (rs) (fs) (ds) (by omega) (by omega) (by omega) (by omega) (by omega)) rfl (.cons rfl (.agg (.cons .t0 (.cons .t0 .nil))) (.cons rfl (.c .t0) .nil)) (fun _ => rfl) rfl rfl) fun e1 => ?_
 refine r_op oM ?_
 refine r_op (o_extract rfl rfl rfl rfl) ?_
 refine r_op (o_extract rfl rfl rfl rfl) ?_
 refine r_op (o_extract rfl rfl rfl rfl) ?_
 refine r_op oA ?_
 refine r_op oA ?_
 refine r_op oA ?_
 refine etr ?_
 refine r_op oM ?_
 refine r_op (o_not rfl rfl) ?_
 refine r_op oM ?_
 refine r_guard rfl rfl rfl (fun g2 => ?_) (fun g2 => ?_)
 ·
  have g2' := (bnt g2)
  refine r_op (oC 2) ?_
  refine r_guard rfl rfl rfl (fun _ => ?_) (nc g2)
  refine r_op (o_call 2 2 false (Go.Proofs.enters_of Tryz.func40 (by kernel_rfl) rfl) (c_impl_IsValidInstance (rs) (fs) (by omega) (by omega) (by omega)) rfl (.cons rfl (.agg (.cons .t0 (.cons .t0 .nil))) .nil) rfl rfl rfl) ?_
  refine r_op (o_pickT rfl rfl g2 rfl) ?_
  refine r_op oM ?_
  refine r_guard rfl rfl rfl (fun g3 => ?_) (fun g3 => ?_)
  ·
   have g3' := g3
   refine r_op (oF 0) ?_
   refine r_guard rfl rfl rfl (fun _ => ?_) (nc g3)
   refine r_op oL ?_
   refine r_guard rfl rfl rfl (fun _ => ?_) (nc g3)
   refine r_op oM ?_
   refine r_guard rfl rfl rfl (fun _ => ?_) (nc g3)
   refine r_op (o_call 2 2 false (Go.Proofs.enters_of Tryz.func85 (by kernel_rfl) rfl) (c_impl_AreValidDependencies (rs) (ds) (by omega) (by omega)) rfl (.cons rfl (.c .t0) (.cons rfl (.c .t0) .nil)) rfl rfl rfl) ?_
   refine r_op (o_pickT rfl rfl g3 rfl) ?_
   refine r_op oA ?_
   refine r_end ?_
   refine t_ret Tryz.func39 (.tmp rfl .nil) rfl fun E S w u hI hd => ?_
   refine post_mk hI hd ?_ trivial rfl rfl rfl <;> clear hI hd
   all_goals (refine scB ?_; unfold vioS; clear hrs hfs hds ho hod gl; grind)
  ·
   have g3' := g3
   refine r_guard rfl rfl rfl (ncf g3) (fun _ => ?_)
   refine r_guard rfl rfl rfl (ncf g3) (fun _ => ?_)
   refine r_guard rfl rfl rfl (ncf g3) (fun _ => ?_)
   refine r_op (o_pickF rfl rfl g3 rfl) ?_
   refine r_op oA ?_
   refine r_end ?_
   refine t_ret Tryz.func39 (.tmp rfl .nil) rfl fun E S w u hI hd => ?_
   refine post_mk hI hd ?_ trivial rfl rfl rfl <;> clear hI hd
   all_goals (refine scB ?_; unfold vioS; clear hrs hfs hds ho hod gl; grind)
 ·
  have g2' := (bnf g2)
  refine r_guard rfl rfl rfl (ncf g2) (fun _ => ?_)
  refine r_op (o_pickF rfl rfl g2 rfl) ?_
  refine r_op oM ?_
  refine r_guard rfl rfl rfl (ncf rfl) (fun _ => ?_)
  refine r_guard rfl rfl rfl (ncf rfl) (fun _ => ?_)
  refine r_guard rfl rfl rfl (ncf rfl) (fun _ => ?_)
  refine r_guard rfl rfl rfl (ncf rfl) (fun _ => ?_)
  refine r_op (o_pickF rfl rfl rfl rfl) ?_
  refine r_op oA ?_
  refine r_end ?_
  refine t_ret Tryz.func39 (.tmp rfl .nil) rfl fun E S w u hI hd => ?_
  refine post_mk hI hd ?_ trivial rfl rfl rfl <;> clear hI hd
  all_goals (refine scB ?_; unfold vioS; clear hrs hfs hds ho hod gl; grind)
set_option maxHeartbeats 1000000 in
set_option maxRecDepth 10000 in
theorem c_slices_Clone___impl_Relation_impl_Relation_ (l : Rels) (hl : l.length ≤ 1048576) : Pu Tryz.prog 111 [.c (.t none (.sl 3 (enS3 encS encI encB) (l)))] [(0, some (.row none 111 true 3 (enS3 encS encI encB) (l)))] 1 (.c (.own 0)) := by
 refine pu_enter Tryz.func111 rfl (Nat.le_of_ble_eq_true rfl) fun w S => ?_
 refine tsr ?_
 refine r_op oA ?_
 refine r_end ?_
 refine t_seq ?_
 refine tsr ?_
 refine r_op oM ?_
 refine r_eqnil rfl rfl rfl (fun en1 => ?_) ?_
 ·
  refine r_end ?_
  refine t_cond rfl (fun _ => ?_) (nc rfl)
  refine tsr ?_
  refine r_op oA ?_
  refine r_end ?_
  refine gt_nil 0 (t := 2) (et := 111) (sz := 3) true (enS3 encS encI encB) rfl rfl ?_
  refine t_ret Tryz.func111 (.tmp rfl .nil) rfl fun E S w u hI hd => ?_
  refine post_mk hI hd ?_ ⟨eqR ?_, trivial⟩ rfl rfl rfl <;> clear hI hd
  all_goals first | rfl | ((exact en1.symm))
 ·
  refine r_end ?_
  refine t_cond rfl (ncf rfl) (fun _ => ?_)
  refine t_skip ?_
  refine tsr ?_
  refine r_op (o_lit0 0 (e := 111) (sz := 3) (zs := [.string (mkS ([])), .int .i64 (0), .bool (false)]) (enS3 encS encI encB) rfl rfl (by kernel_rfl) rfl) ?_
  refine r_op oM ?_
  refine r_op (o_appendS 0 (e := 111) (sz := 3) (by' := 32) rfl (by kernel_rfl) rfl rfl rfl rfl (fun _ j => by rcases j with _ | _ | j <;> exact ⟨_, rfl⟩) (by (simp; omega)) (by (simp; omega))) ?_
  refine r_op oA ?_
  refine r_end ?_
  refine t_ret Tryz.func111 (.tmp rfl .nil) rfl fun E S w u hI hd => ?_
  refine post_mk hI hd ?_ ⟨eqR ?_, trivial⟩ rfl rfl rfl <;> clear hI hd
  all_goals (rfl)
set_option maxHeartbeats 1000000 in
set_option maxRecDepth 10000 in
theorem c_impl_factCopy (r : Int) (ts : List Int) (hl : ts.length ≤ 1048576) : Pu Tryz.prog 151 [.agg [.t none (.v (.int .i64 (r))), .t none (.sl 1 encI (ts))]] [(2, some (.row none 3 true 1 encI (ts)))] 3 (.agg [.t none (.v (.int .i64 (r))), .own 2]) := by
 refine pu_enter Tryz.func151 rfl (Nat.le_of_ble_eq_true rfl) fun w S => ?_
 refine tsr ?_
 refine r_op (o_box 0 rfl rfl rfl rfl) ?_
 refine r_op (o_alloc 1 (zs := [.int .i64 (0), .slice none 0 0]) rfl rfl (by kernel_rfl) rfl) ?_
 refine r_end ?_
 refine t_seq ?_
 refine t_draw (fun i => !(Nat.beq i 6)) (by kernel_rfl) ?_
 refine dT 0 rfl (pF 0) ?_
 refine dT 1 rfl pL ?_
 refine dT 2 rfl (pF 1) ?_
 refine dT 3 rfl pL ?_
 refine dO 4 rfl (o_call 2 3 false (Go.Proofs.enters_of Tryz.func59 (by kernel_rfl) rfl) (c_slices_Clone___int_int_ (ts) (by omega)) rfl (.cons rfl (.c .t0) .nil) rfl rfl rfl) ?_
 refine dT 5 rfl (p_build (pl := [(0, 1), (1, 1)]) (zs := [.int .i64 (0), .slice none 0 0]) (by kernel_rfl) (by kernel_rfl) rfl rfl rfl) ?_
 refine dO 6 rfl (oS 2) ?_
 refine d_end (by kernel_rfl) ?_
 refine t_ret Tryz.func151 (.cells (n := 2) (by kernel_rfl) (by kernel_rfl) rfl rfl rfl .nil) rfl fun E S w u hI hd => ?_
 refine post_mk hI hd ?_ ⟨eqR ?_, trivial⟩ rfl rfl rfl <;> clear hI hd
 all_goals (rfl)
set_option maxHeartbeats 1000000 in
set_option maxRecDepth 10000 in
theorem c_impl_factsCopy (fs : Atoms) (hfs : szS (fun (x : Int × (List (Int))) => (x.2).length) fs ≤ 1048576) : Pu Tryz.prog 112 [.c (.t none (.sl 2 (enS2 encI (enSl 1 encI)) (fs)))] [(0, some (.row none 88 true 2 (enS2 encI (enSl 1 encI)) (fs)))] 1 (.c (.own 0)) := by
 refine pu_enter Tryz.func112 rfl (Nat.le_of_ble_eq_true rfl) fun w S => ?_
 have gl := sz_len (f := (fun (x : Int × (List (Int))) => (x.2).length)) (l := fs)
 refine tsr ?_
 refine r_op oA ?_
 refine etr ?_
 refine r_op (o_lit0 0 (e := 88) (sz := 2) (zs := [.int .i64 (0), .slice none 0 0]) (enS2 encI (enSl 1 encI)) rfl rfl (by kernel_rfl) rfl) ?_
 refine r_op oA ?_
 refine r_end ?_
 refine t_seq ?_
 refine tsr ?_
 refine r_op oM ?_
 refine r_op (o_len rfl rfl rfl) ?_
 refine r_op oM ?_
 refine r_end ?_
 refine t_block ?_
 refine t_loopL (fun m => ⟨[(2, some (.c (.t none (.v (.slice none 0 0))))), (3, some (.c (.own 0))), (7, some (.c (.t none (.sl 2 (enS2 encI (enSl 1 encI)) (fs))))), (8, some (.c (.t none (.v (.int .i64 (((fs).length : Int))))))), (9, some (.c (.t none (.v (.int .i64 ((m : Int)))))))], [(0, some (.row none 88 true 2 (enS2 encI (enSl 1 encI)) (fs.take m)))], 1⟩ : Nat → St) (fun m => m ≤ fs.length) (fun m => fs.length - m) 0 ⟨⟨rfl, ⟨rfl, ⟨rfl, ⟨rfl, ⟨rfl, trivial⟩⟩⟩⟩⟩, ⟨rfl, trivial⟩, rfl⟩ (by exact Nat.zero_le _) ?_
 rintro m hI ih0
 try dsimp only at hI ih0
 have i1 := hI
 refine tsr ?_
 refine r_op oB ?_
 refine r_end ?_
 refine t_seq ?_
 refine t_cond rfl (fun h1 => ?_) (fun h1 => ?_)
 ·
  have h1' := of_decide_eq_true h1
  refine t_skip ?_
  refine t_seq ?_
  refine t_block ?_
  refine tsr ?_
  obtain ⟨z2, hz3, b4⟩ := at_get (xs := fs) (n := (m : Int)) (by omega) (by omega)
  refine r_op (o_index rfl (by kernel_rfl) rfl rfl b4 hz3) ?_
  refine r_op (o_loadA rfl (n := 2) (by kernel_rfl) (by kernel_rfl) rfl rfl) ?_
  refine r_op (o_alloc 1 (zs := [.int .i64 (0), .slice none 0 0]) rfl rfl (by kernel_rfl) rfl) ?_
  refine r_op (oS 2) ?_
  refine rtr ?_
  refine r_op oM ?_
  refine r_op (oC 2) ?_
  refine r_op (o_call 2 5 false (Go.Proofs.enters_of Tryz.func151 (by kernel_rfl) rfl) (c_impl_factCopy (z2.1) (z2.2) (by (have e1 := sz_at (f := (fun (x : Int × (List (Int))) => (x.2).length)) (l := fs) (m := m) (by assumption); (try dsimp only at e1); omega))) rfl (.cons rfl (.agg (.cons .t0 (.cons .t0 .nil))) .nil) rfl rfl rfl) ?_
  refine r_op (o_litS 5 (e := 88) (sz := 2) (zs := [.int .i64 (0), .slice none 0 0]) rfl rfl (by kernel_rfl) rfl rfl rfl rfl rfl) ?_
  refine r_op (o_append 0 (e := 88) (sz := 2) (by' := 32) (((z2.1), (z2.2))) rfl (by kernel_rfl) rfl rfl rfl rfl rfl rfl (.cons .sc (.take (.own rfl) rfl .nil)) rfl (by (simp; omega)) (by (simp; omega))) ?_
  refine r_op oA ?_
  refine r_end ?_
  refine t_endblock ?_
  refine t_region ?_
  refine r_op oB ?_
  refine r_op oM ?_
  refine r_end ?_
  refine t_le ?_ (ih0 (m + 1) (by (try dsimp only); omega) (by (try dsimp only); omega))
  exact ⟨⟨rfl, ⟨rfl, ⟨rfl, ⟨rfl, ⟨(eqI (wr64 (by omega) (by omega))), trivial⟩⟩⟩⟩⟩, ⟨(eqR (take_snoc hz3)), trivial⟩, rfl⟩
 ·
  have h1' := of_decide_eq_false h1
  refine t_exit rfl ?_
  refine tsr ?_
  refine r_op oM ?_
  refine r_op oA ?_
  refine r_end ?_
  refine t_ret Tryz.func112 (.tmp rfl .nil) rfl fun E S w u hI hd => ?_
  refine post_mk hI hd ?_ ⟨eqR ?_, trivial⟩ rfl rfl rfl <;> clear hI hd <;> (try clear ih0)
  all_goals first | rfl | ((rw [List.take_of_length_le (by omega)]))
set_option maxHeartbeats 1000000 in
set_option maxRecDepth 10000 in
theorem c_impl_instanceCopy (rs : Rels) (fs : Atoms) (hrs : rs.length ≤ 1048576) (hfs : szS (fun (x : Int × (List (Int))) => (x.2).length) fs ≤ 1048576) : Pu Tryz.prog 57 [.agg [.t none (.sl 3 (enS3 encS encI encB) (rs)), .t none (.sl 2 (enS2 encI (enSl 1 encI)) (fs))]] [(2, some (.row none 111 true 3 (enS3 encS encI encB) (rs))), (3, some (.row none 88 true 2 (enS2 encI (enSl 1 encI)) (fs)))] 4 (.agg [.own 2, .own 3]) := by
 refine pu_enter Tryz.func57 rfl (Nat.le_of_ble_eq_true rfl) fun w S => ?_
 refine tsr ?_
 refine r_op (o_box 0 rfl rfl rfl rfl) ?_
 refine r_op (o_alloc 1 (zs := [.slice none 0 0, .slice none 0 0]) rfl rfl (by kernel_rfl) rfl) ?_
 refine r_end ?_
 refine t_seq ?_
 refine t_draw (fun i => !(Nat.beq i 7)) (by kernel_rfl) ?_
 refine dT 0 rfl (pF 0) ?_
 refine dT 1 rfl pL ?_
 refine dT 3 rfl (pF 1) ?_
 refine dT 4 rfl pL ?_
 refine dO 2 rfl (o_call 2 3 false (Go.Proofs.enters_of Tryz.func111 (by kernel_rfl) rfl) (c_slices_Clone___impl_Relation_impl_Relation_ (rs) (by omega)) rfl (.cons rfl (.c .t0) .nil) rfl rfl rfl) ?_
 refine dO 5 rfl (o_call 3 4 false (Go.Proofs.enters_of Tryz.func112 (by kernel_rfl) rfl) (c_impl_factsCopy (fs) (by omega)) rfl (.cons rfl (.c .t0) .nil) rfl rfl rfl) ?_
 refine dT 6 rfl (p_build (pl := [(0, 1), (1, 1)]) (zs := [.slice none 0 0, .slice none 0 0]) (by kernel_rfl) (by kernel_rfl) rfl rfl rfl) ?_
 refine dO 7 rfl (oS 2) ?_
 refine d_end (by kernel_rfl) ?_
 refine t_ret Tryz.func57 (.cells (n := 2) (by kernel_rfl) (by kernel_rfl) rfl rfl rfl .nil) rfl fun E S w u hI hd => ?_
 refine post_mk hI hd ?_ ⟨eqR ?_, ⟨eqR ?_, trivial⟩⟩ rfl rfl rfl <;> clear hI hd
 all_goals (rfl)
set_option maxHeartbeats 1000000 in
set_option maxRecDepth 10000 in
theorem c_impl_Restrict_1 (r : Int) (ts : List Int) (rs : Rels) (t : Bool) (hr : 0 ≤ r ∧ r < rs.length) : Pu Tryz.prog 94 [.agg [.t none (.v (.int .i64 (r))), .t none (.sl 1 encI (ts))], .c (.pel none ((enSl 3 (enS3 encS encI encB)) (rs)) 1), .c (.pel none (encB (t)) 1)] [] 0 (.c (.t none (.v (.bool (!(keepF rs t (r, ts))))))) := by
 refine pu_enter Tryz.func94 rfl (Nat.le_of_ble_eq_true rfl) fun w S => ?_
 refine tsr ?_
 refine r_op (o_box 0 rfl rfl rfl rfl) ?_
 refine r_op oA ?_
 refine r_end ?_
 refine t_seq ?_
 refine t_draw (fun _ => true) (by kernel_rfl) ?_
 refine dT 0 rfl (p_field (off := 0) (by kernel_rfl) rfl) ?_
 refine dT 1 rfl (p_load1 (by kernel_rfl) rfl rfl) ?_
 refine dT 2 rfl (pF 0) ?_
 refine dT 3 rfl pL ?_
 obtain ⟨z1, hz2, b3⟩ := at_get (xs := rs) (n := r) (by omega) (by omega)
 refine dT 4 rfl (p_index (by kernel_rfl) rfl rfl b3 hz2) ?_
 refine dT 5 rfl (p_field (off := 2) (by kernel_rfl) rfl) ?_
 refine dT 6 rfl (p_load1 (by kernel_rfl) rfl rfl) ?_
 refine dT 7 rfl (p_load1 (by kernel_rfl) rfl rfl) ?_
 refine dT 8 rfl (p_neB Tryz.underlying4 rfl rfl) ?_
 refine dT 9 rfl pA ?_
 refine d_end (by kernel_rfl) ?_
 refine t_ret Tryz.func94 (.tmp rfl .nil) rfl fun E S w u hI hd => ?_
 refine post_mk hI hd ?_ trivial rfl rfl rfl <;> clear hI hd
 all_goals (refine scB ?_; unfold keepF; rw [srcA_at (by assumption)]; grind)
set_option maxHeartbeats 1000000 in
set_option maxRecDepth 10000 in
theorem c_slices_DeleteFunc___impl_Fact_impl_Fact_ (U : Nat → Value) (e0 : Nat) (l : Atoms) (rs : Rels) (t : Bool) (hl : l.length ≤ 1048576) (hr : ∀ f ∈ l, 0 ≤ f.1 ∧ f.1 < rs.length) : Mu Tryz.prog 93 [.c (.own 0), .c (.clo 94 [(1, 0), (2, 0)])] [(0, some (.row (some (U 0)) e0 false 2 (enS2 encI (enSl 1 encI)) (l))), (1, some (.pbox (U 1) [.t none (.sl 3 (enS3 encS encI encB) (rs)), .top])), (2, some (.pbox (U 2) [.t none (.v (.bool (t)))]))] 3 [(0, some (.row none e0 false 2 (enS2 encI (enSl 1 encI)) (l.filter (keepF rs t)))), (1, some (.pbox (U 1) [.t none (.sl 3 (enS3 encS encI encB) (rs)), .top])), (2, some (.pbox (U 2) [.t none (.v (.bool (t)))]))] 3 (.c (.own 0)) := by
 refine mu_enter Tryz.func93 rfl (Nat.le_of_ble_eq_true rfl) fun w S M => ?_
 refine tsr ?_
 refine r_op oA ?_
 refine etr ?_
 refine r_op oM ?_
 refine r_op oM ?_
 refine r_op (o_call 3 3 false (Go.Proofs.enters_of Tryz.func141 (by kernel_rfl) rfl) (c_slices_IndexFunc___impl_Fact_impl_Fact_ (l) (94) ([((enSl 3 (enS3 encS encI encB)) (rs), 1), (encB (t), 1)]) (fun (x0 : Int × (List (Int))) => !(keepF (rs) (t) ((x0.1), (x0.2)))) (by omega) (fun x0 mx0 => ⟨Go.Proofs.enters_of Tryz.func94 (by kernel_rfl) rfl, c_impl_Restrict_1 (x0.1) (x0.2) (rs) (t) (by exact hr _ (by assumption))⟩)) rfl (.cons rfl (.c (.own rfl)) (.cons rfl (.c (.clo (.pcons rfl rfl rfl (.cons .t .nil) (.pcons rfl rfl rfl (.cons .t .nil) .nil)))) .nil)) rfl rfl rfl) ?_
 refine r_op oA ?_
 refine r_end ?_
 refine t_seq ?_
 refine tsr ?_
 refine r_op oM ?_
 refine r_op oB ?_
 refine r_end ?_
 refine t_cond rfl (fun h1 => ?_) (fun h1 => ?_)
 ·
  have h1' := of_decide_eq_true h1
  refine tsr ?_
  refine r_op oM ?_
  refine r_op oA ?_
  refine r_end ?_
  refine gt_unpin 0 rfl ?_
  refine t_ret Tryz.func93 (.tmp rfl .nil) rfl fun E S w u hI hd => ?_
  refine postM_mk hI hd ?_ ⟨eqR ?_, ⟨rfl, ⟨rfl, trivial⟩⟩⟩ rfl rfl <;> clear hI hd <;> (try clear ih0)
  all_goals first | rfl | (exact (dl_none (by assumption)).symm)
 ·
  have h1' := of_decide_eq_false h1
  refine t_skip ?_
  refine t_seq ?_
  refine tsr ?_
  refine r_op oM ?_
  refine r_op oB ?_
  refine r_op oA ?_
  refine r_end ?_
  refine t_block ?_
  obtain ⟨m0, mi, ml, mk⟩ := dl_idx (K := keepF rs t) (l := l) (by assumption)
  refine t_loopL (fun (k, j, q) => ⟨[(0, some (.c (.own 0))), (1, some (.c (.clo 94 [(1, 0), (2, 0)]))), (4, some (.c (.t none (.v (.slice none 0 0))))), (5, some (.c (.t none (.v (.int .i64 ((k : Int))))))), (6, some (.c (.t none (.v (.int .i64 ((j : Int)))))))], [(0, some (.row (some (U 0)) e0 false 2 (enS2 encI (enSl 1 encI)) (q))), (1, some (.pbox (U 1) [.t none (.sl 3 (enS3 encS encI encB) (rs)), .top])), (2, some (.pbox (U 2) [.t none (.v (.bool (t)))]))], 3⟩ : Nat × Nat × Atoms → St) (fun (k, j, q) => dlK (keepF rs t) l q k j) (fun (k, j, q) => l.length - j) (m0, m0 + 1, l) ⟨⟨rfl, ⟨rfl, ⟨rfl, ⟨(eqI mi), ⟨(eqI ((congrArg (fun z => IntKind.i64.wrap (z + 1)) mi).trans (wr64 (by omega) (by omega)))), trivial⟩⟩⟩⟩⟩, ⟨rfl, ⟨rfl, ⟨rfl, trivial⟩⟩⟩, rfl⟩ (by exact mk) ?_
  rintro ⟨k, j, q⟩ hI ih0
  try dsimp only at hI ih0
  have j1 := hI; have j2 := j1.1; have j3 := j1.2.1; have j4 := j1.2.2.1
  refine t_seq ?_
  refine tsr ?_
  refine r_op oM ?_
  refine r_op oM ?_
  refine r_op (o_leno rfl rfl rfl rfl) ?_
  refine r_op oB ?_
  refine r_end ?_
  refine t_cond rfl (fun h2 => ?_) (fun h2 => ?_)
  ·
   have h2' := of_decide_eq_true h2
   refine t_skip ?_
   refine t_seq ?_
   refine t_block ?_
   refine tsr ?_
   refine r_op oM ?_
   refine r_op oM ?_
   obtain ⟨z3, hz4, b5⟩ := at_get (xs := q) (n := (j : Int)) (by omega) (by omega)
   refine r_op (o_indexo rfl (by kernel_rfl) rfl rfl rfl b5 (at_lt b5 hz4)) ?_
   refine r_op (o_loadAo rfl (by kernel_rfl) (by kernel_rfl) rfl rfl hz4) ?_
   refine r_op (o_alloc 3 (zs := [.int .i64 (0), .slice none 0 0]) rfl rfl (by kernel_rfl) rfl) ?_
   refine r_op (oS 2) ?_
   refine etr ?_
   refine r_op oM ?_
   refine r_op (oC 2) ?_
   refine r_op (o_callv (cargs := [.agg [.t none (.v (.int .i64 ((z3.1)))), .t none (.sl 1 encI ((z3.2)))]]) (cs := [((enSl 3 (enS3 encS encI encB)) (rs), 1), (encB (t), 1)]) 4 4 false (Go.Proofs.enters_of Tryz.func94 (by kernel_rfl) rfl) (c_impl_Restrict_1 (z3.1) (z3.2) (rs) (t) (by (have e7 := dl_at j1 (by assumption); exact hr _ (List.mem_of_getElem? e7)))) rfl rfl (.c (.clo (.pcons rfl rfl rfl (.cons .t .nil) (.pcons rfl rfl rfl (.cons .t .nil) .nil)))) (.cons rfl (.agg (.cons .t0 (.cons .t0 .nil))) .nil) rfl rfl rfl) ?_
   refine r_op (o_not rfl rfl) ?_
   refine r_end ?_
   refine t_cond rfl (fun h6 => ?_) (fun h6 => ?_)
   ·
    have h6' := (bnf (bnt h6))
    refine tsr ?_
    refine r_op oM ?_
    refine r_op oM ?_
    refine r_op (oC 2) ?_
    obtain ⟨z7, hz8, b9⟩ := at_get (xs := q) (n := (k : Int)) (by omega) (by omega)
    refine r_op (o_indexo rfl (by kernel_rfl) rfl rfl rfl b9 (at_lt b9 hz8)) ?_
    refine r_op (o_storeo (z3) (n := 2) (by kernel_rfl) rfl rfl hz8 rfl rfl rfl rfl (.cons .sc (.cons .sh .nil)) rfl (fun j h1 h2 => by (exact h2.elim (fun h => by omega) (fun h => absurd (show 2 ≤ j from h) (by omega))))) ?_
    refine rtr ?_
    refine r_op oM ?_
    refine r_op oB ?_
    refine r_op oA ?_
    refine r_end ?_
    refine t_endblock ?_
    refine t_region ?_
    refine r_op oM ?_
    refine r_op oB ?_
    refine r_op oA ?_
    refine r_end ?_
    refine t_le ?_ (ih0 (k + 1, j + 1, (q).set ((k : Int)).toNat (z3)) (by (try dsimp only); omega) (by (try dsimp only); exact dl_keep j1 hz4 (by simpa using (by assumption))))
    exact ⟨⟨rfl, ⟨rfl, ⟨rfl, ⟨(eqI (wr64 (by omega) (by omega))), ⟨(eqI (wr64 (by omega) (by omega))), trivial⟩⟩⟩⟩⟩, ⟨rfl, ⟨rfl, ⟨rfl, trivial⟩⟩⟩, rfl⟩
   ·
    have h6' := (bnt (bnf h6))
    refine t_skip ?_
    refine t_endblock ?_
    refine t_region ?_
    refine r_op oM ?_
    refine r_op oB ?_
    refine r_op oA ?_
    refine r_end ?_
    refine t_le ?_ (ih0 (k, j + 1, q) (by (try dsimp only); omega) (by (try dsimp only); exact dl_skip j1 hz4 (by simpa using (by assumption))))
    exact ⟨⟨rfl, ⟨rfl, ⟨rfl, ⟨rfl, ⟨(eqI (wr64 (by omega) (by omega))), trivial⟩⟩⟩⟩⟩, ⟨rfl, ⟨rfl, ⟨rfl, trivial⟩⟩⟩, rfl⟩
  ·
   have h2' := of_decide_eq_false h2
   refine t_exit rfl ?_
   refine tsr ?_
   refine r_op oM ?_
   refine r_op oM ?_
   refine r_op (o_subvl rfl (by kernel_rfl) rfl rfl rfl (by omega) (by omega)) ?_
   refine r_op (o_clearF ((0, [])) rfl rfl Tryz.underlying31 (by kernel_rfl) rfl rfl (.cons (.v rfl) (.cons .sl .nil)) (by omega) (by omega)) ?_
   refine etr ?_
   refine r_op oM ?_
   refine r_op oM ?_
   refine r_op (o_subvh rfl (by kernel_rfl) rfl rfl rfl (by omega) (by (simp only [List.length_append, List.length_take, List.length_replicate, List.length_drop]; omega)) (by (simp only [List.length_append, List.length_take, List.length_replicate, List.length_drop]; omega))) ?_
   refine r_op oA ?_
   refine r_end ?_
   refine gt_shrinkF 4 0 rfl rfl (by (simp only [List.length_append, List.length_take, List.length_replicate, List.length_drop]; omega)) (by (simp only [List.length_append, List.length_take, List.length_replicate, List.length_drop]; omega)) ?_
   refine t_ret Tryz.func93 (.tmp rfl .nil) rfl fun E S w u hI hd => ?_
   refine postM_mk hI hd ?_ ⟨eqR ?_, ⟨rfl, ⟨rfl, trivial⟩⟩⟩ rfl rfl <;> clear hI hd <;> (try clear ih0)
   all_goals first | rfl | ((rw [List.append_assoc]; exact dl_end j1 (by omega) _))
set_option maxHeartbeats 1000000 in
set_option maxRecDepth 10000 in
theorem c_impl_Restrict (rs : Rels) (fs : Atoms) (t : Bool) (hrs : rs.length ≤ 1048576) (hfs : szS (fun (x : Int × (List (Int))) => (x.2).length) fs ≤ 1048576) (ho : ∀ z ∈ fs, ∀ x ∈ z.2, okI x) : Pu Tryz.prog 42 [.agg [.t none (.sl 3 (enS3 encS encI encB) (rs)), .t none (.sl 2 (enS2 encI (enSl 1 encI)) (fs))], .c (.t none (.v (.bool (t))))] [] 0 (.agg [.t none (.sl 3 (enS3 encS encI encB) (rstR rs fs)), .t none (.sl 2 (enS2 encI (enSl 1 encI)) (rstF rs fs t))]) := by
 refine pu_enter Tryz.func42 rfl (Nat.le_of_ble_eq_true rfl) fun w S => ?_
 have gl := sz_len (f := (fun (x : Int × (List (Int))) => (x.2).length)) (l := fs)
 refine tsr ?_
 refine r_op (o_box 0 rfl rfl rfl rfl) ?_
 refine r_op (o_box 1 rfl rfl rfl rfl) ?_
 refine r_op (o_alloc 2 (zs := [.slice none 0 0, .slice none 0 0]) rfl rfl (by kernel_rfl) rfl) ?_
 refine r_end ?_
 refine t_seq ?_
 refine tsr ?_
 refine r_op (oC 2) ?_
 refine r_op (o_call 3 3 false (Go.Proofs.enters_of Tryz.func40 (by kernel_rfl) rfl) (c_impl_IsValidInstance (rs) (fs) (by omega) (by omega) (by omega)) rfl (.cons rfl (.agg (.cons .t0 (.cons .t0 .nil))) .nil) rfl rfl rfl) ?_
 refine r_op (o_not rfl rfl) ?_
 refine r_end ?_
 refine t_cond rfl (fun h1 => ?_) (fun h1 => ?_)
 ·
  have h1' := (bnt h1)
  refine tsr ?_
  refine r_op (o_build rfl (pl := [(0, 1), (1, 1)]) (zs := [.slice none 0 0, .slice none 0 0]) (by kernel_rfl) (by kernel_rfl) rfl rfl rfl) ?_
  refine r_op (oS 2) ?_
  refine r_end ?_
  refine gt_nilb 3 (b := 2) (o := 0) (et := 111) (sz := 3) true (enS3 encS encI encB) rfl rfl rfl ?_
  refine gt_nilb 4 (b := 2) (o := 1) (et := 88) (sz := 2) true (enS2 encI (enSl 1 encI)) rfl rfl rfl ?_
  refine gt_freeze 3 rfl (frz_pu rfl) ?_
  refine gt_freeze 4 rfl (frz_pu rfl) ?_
  refine t_ret Tryz.func42 (.cells (n := 2) (by kernel_rfl) (by kernel_rfl) rfl rfl rfl .nil) rfl fun E S w u hI hd => ?_
  refine post_mk hI hd ?_ trivial rfl rfl rfl <;> clear hI hd
  all_goals (have e7 : instOk rs fs = false := (by assumption); have e8 := res_no (t := t) e7; rw [e8.1, e8.2]; rfl)
 ·
  have h1' := (bnf h1)
  refine t_skip ?_
  refine tsr ?_
  refine r_op (oC 2) ?_
  refine r_op (o_call 3 7 false (Go.Proofs.enters_of Tryz.func57 (by kernel_rfl) rfl) (c_impl_instanceCopy (rs) (fs) (by omega) (by omega)) rfl (.cons rfl (.agg (.cons .t0 (.cons .t0 .nil))) .nil) rfl rfl rfl) ?_
  refine r_op (o_alloc 7 (zs := [.slice none 0 0, .slice none 0 0]) rfl rfl (by kernel_rfl) rfl) ?_
  refine r_op (oS 2) ?_
  refine etr ?_
  refine r_op (oF 1) ?_
  refine r_op oL ?_
  refine r_op (o_makeFunc rfl (.cons rfl (.cons rfl .nil))) ?_
  refine r_freeze 5 rfl (frz_pu rfl) ?_
  refine r_half 6 rfl (frz_pu rfl) ?_
  refine r_op (o_callF 6 7 1 (((fs)).filter (keepF ((rs)) (t))) (Go.Proofs.enters_of Tryz.func93 (by kernel_rfl) rfl) (fun U => c_slices_DeleteFunc___impl_Fact_impl_Fact_ U 88 ((fs)) ((rs)) (t) (by omega) (by (intro f hf; exact fact_rel (by assumption) hf))) rfl rfl rfl rfl rfl rfl rfl rfl rfl) ?_
  refine r_op (oF 1) ?_
  refine r_op (oS 1) ?_
  refine etr ?_
  refine r_op (oC 2) ?_
  refine r_op (oS 2) ?_
  refine r_end ?_
  refine gt_freeze 6 rfl (frz_pu rfl) ?_
  refine t_ret Tryz.func42 (.cells (n := 2) (by kernel_rfl) (by kernel_rfl) rfl rfl rfl .nil) rfl fun E S w u hI hd => ?_
  refine post_mk hI hd ?_ trivial rfl rfl rfl <;> clear hI hd
  all_goals (have e7 : instOk rs fs = true := (by assumption); have e8 := res_yes (t := t) e7; rw [e8.1, e8.2]; rfl)
theorem eq_c_slices_Equal___impl_Relation_impl_Relation__neq_111 (p0 : List UInt8) (p1 : Int) (p2 : Bool) (q0 : List UInt8) (q1 : Int) (q2 : Bool) : EqS Tryz.prog .neq 111 [.string (mkS p0), .int .i64 p1, .bool p2] [.string (mkS q0), .int .i64 q1, .bool q2] (.bool (!(decide ((p0, p1, p2) = (q0, q1, q2))))) := by
 refine ⟨rfl, fun x y w => ?_⟩
 have hS : Tryz.prog.underlying 111 = some (.struct (Tryz.prog.fieldsOf 111)) := by kernel_rfl
 have hp : Tryz.prog.stoodInHeld 111 = false := by kernel_rfl
 have u3 := Tryz.underlying3; have a3 := Tryz.isAgg3; have z3 := Tryz.sizeOf3; have u4 := Tryz.underlying4; have a4 := Tryz.isAgg4; have z4 := Tryz.sizeOf4; have u9 := Tryz.underlying9; have a9 := Tryz.isAgg9; have z9 := Tryz.sizeOf9
 rw [Sem.run_bind, run_eqGuard_agg w _ _ _ _ _ _ (by kernel_rfl), Result.andThen_ok, run_neq_struct, show (10000 : Nat) = 9999 + 1 from rfl, run_equalIn_agg w 9999 111 _ _ hS hp]
 simp only [Program.fieldsOf, Tryz.underlying111]
 go_simp
 by_cases h0 : p0 = q0 <;> by_cases h1 : p1 = q1 <;> by_cases h2 : p2 = q2 <;> simp [h0, h1, h2, mkS_toList]
set_option maxHeartbeats 1000000 in
set_option maxRecDepth 10000 in
theorem c_slices_Equal___impl_Relation_impl_Relation_ (a b : Rels) (ha : a.length ≤ 1048576) (hb : b.length ≤ 1048576) : Pu Tryz.prog 90 [.c (.t none (.sl 3 (enS3 encS encI encB) (a))), .c (.t none (.sl 3 (enS3 encS encI encB) (b)))] [] 0 (.c (.t none (.v (.bool (decide (a = b)))))) := by
 refine pu_enter Tryz.func90 rfl (Nat.le_of_ble_eq_true rfl) fun w S => ?_
 refine tsr ?_
 refine r_op oA ?_
 refine r_end ?_
 refine t_seq ?_
 refine tsr ?_
 refine r_op oM ?_
 refine r_op (o_len rfl rfl rfl) ?_
 refine r_op oM ?_
 refine r_op (o_len rfl rfl rfl) ?_
 refine r_op oB ?_
 refine r_end ?_
 refine t_cond rfl (fun h1 => ?_) (fun h1 => ?_)
 ·
  have h1' := of_decide_eq_true h1
  refine tsr ?_
  refine r_op oA ?_
  refine r_end ?_
  refine t_ret Tryz.func90 (.tmp rfl .nil) rfl fun E S w u hI hd => ?_
  refine post_mk hI hd ?_ trivial rfl rfl rfl <;> clear hI hd <;> (try clear ih0)
  all_goals (refine scB ?_; (have : a ≠ b := by rintro rfl; simp at *); simp [this])
 ·
  have h1' := of_decide_eq_false h1
  refine t_skip ?_
  refine t_seq ?_
  refine tsr ?_
  refine r_op oM ?_
  refine r_op (o_len rfl rfl rfl) ?_
  refine r_op oM ?_
  refine r_end ?_
  refine t_block ?_
  refine t_loopL (fun m => ⟨[(0, some (.c (.t none (.sl 3 (enS3 encS encI encB) (a))))), (1, some (.c (.t none (.sl 3 (enS3 encS encI encB) (b))))), (12, some (.c (.t none (.v (.int .i64 (((a).length : Int))))))), (13, some (.c (.t none (.v (.int .i64 ((m : Int)))))))], [], 0⟩ : Nat → St) (fun m => m ≤ a.length ∧ a.length = b.length ∧ a.take m = b.take m) (fun m => a.length - m) 0 ⟨⟨rfl, ⟨rfl, ⟨rfl, ⟨rfl, trivial⟩⟩⟩⟩, trivial, rfl⟩ (by exact ⟨Nat.zero_le _, by omega, rfl⟩) ?_
  rintro m hI ih0
  try dsimp only at hI ih0
  obtain ⟨i1, i2, i3⟩ := hI
  refine tsr ?_
  refine r_op oB ?_
  refine r_end ?_
  refine t_seq ?_
  refine t_cond rfl (fun h2 => ?_) (fun h2 => ?_)
  ·
   have h2' := of_decide_eq_true h2
   refine t_skip ?_
   refine t_seq ?_
   refine t_block ?_
   refine tsr ?_
   refine r_op oM ?_
   refine r_op oA ?_
   refine r_end ?_
   refine t_seq ?_
   refine t_draw (fun _ => true) (by kernel_rfl) ?_
   refine dT 0 rfl pM ?_
   refine dT 1 rfl pM ?_
   obtain ⟨z3, hz4, b5⟩ := at_get (xs := a) (n := (m : Int)) (by omega) (by omega)
   refine dT 2 rfl (p_index (by kernel_rfl) rfl rfl b5 hz4) ?_
   refine dT 3 rfl (p_loadA (n := 3) (by kernel_rfl) (by kernel_rfl) rfl rfl) ?_
   refine dT 4 rfl pM ?_
   refine dT 5 rfl pM ?_
   obtain ⟨z6, hz7, b8⟩ := at_get (xs := b) (n := (m : Int)) (by omega) (by omega)
   refine dT 6 rfl (p_index (by kernel_rfl) rfl rfl b8 hz7) ?_
   refine dT 7 rfl (p_loadA (n := 3) (by kernel_rfl) (by kernel_rfl) rfl rfl) ?_
   refine dT 8 rfl (p_eqA rfl rfl (eq_c_slices_Equal___impl_Relation_impl_Relation__neq_111 _ _ _ _ _ _)) ?_
   refine d_end (by kernel_rfl) ?_
   refine t_cond rfl (fun h9 => ?_) (fun h9 => ?_)
   ·
    have h9' := of_decide_eq_false (bnt h9)
    refine tsr ?_
    refine r_op oA ?_
    refine r_end ?_
    refine t_ret Tryz.func90 (.tmp rfl .nil) rfl fun E S w u hI hd => ?_
    refine post_mk hI hd ?_ trivial rfl rfl rfl <;> clear hI hd <;> (try clear ih0)
    all_goals (refine scB ?_; have := ne_at (a := a) (b := b) hz4 hz7 (fun e => by subst e; simp_all); simp [this])
   ·
    have h9' := of_decide_eq_true (bnf h9)
    refine t_skip ?_
    refine t_endblock ?_
    refine t_region ?_
    refine r_op oB ?_
    refine r_op oM ?_
    refine r_end ?_
    refine t_le ?_ (ih0 (m + 1) (by (try dsimp only); omega) (by (try dsimp only); exact ⟨by omega, i2, take_same i3 (same_at hz4 hz7 (by assumption))⟩))
    exact ⟨⟨rfl, ⟨rfl, ⟨rfl, ⟨(eqI (wr64 (by omega) (by omega))), trivial⟩⟩⟩⟩, trivial, rfl⟩
  ·
   have h2' := of_decide_eq_false h2
   refine t_exit rfl ?_
   refine tsr ?_
   refine r_op oA ?_
   refine r_end ?_
   refine t_ret Tryz.func90 (.tmp rfl .nil) rfl fun E S w u hI hd => ?_
   refine post_mk hI hd ?_ trivial rfl rfl rfl <;> clear hI hd <;> (try clear ih0)
   all_goals ((obtain rfl : m = a.length := by omega); rw [List.take_length, i2, List.take_length] at i3; refine scB ?_; simp [i3])
set_option maxHeartbeats 1000000 in
set_option maxRecDepth 10000 in
theorem c_slices_EqualFunc___impl_Fact___impl_Fact_impl_Fact_impl_Fact_ (a b : List (Int × (List (Int)))) (f : Nat) (cs : List ((Nat → T) × Nat)) (p : (Int × (List (Int))) → (Int × (List (Int))) → Bool) (hl : a.length ≤ 4611686018427387904) (hf : ∀ x ∈ a, ∀ y ∈ b, Fu Tryz.prog f ([.agg [.t none (.v (.int .i64 (x.1))), .t none (.sl 1 encI (x.2))], .agg [.t none (.v (.int .i64 (y.1))), .t none (.sl 1 encI (y.2))]] ++ pels cs) (.c (.t none (.v (.bool (p x y)))))) : Pu Tryz.prog 91 [.c (.t none (.sl 2 (enS2 encI (enSl 1 encI)) (a))), .c (.t none (.sl 2 (enS2 encI (enSl 1 encI)) (b))), .c (.fv f cs)] [] 0 (.c (.t none (.v (.bool (allEq p a b))))) := by
 refine pu_enter Tryz.func91 rfl (Nat.le_of_ble_eq_true rfl) fun w S => ?_
 refine tsr ?_
 refine r_op oA ?_
 refine r_end ?_
 refine t_seq ?_
 refine tsr ?_
 refine r_op oM ?_
 refine r_op (o_len rfl rfl rfl) ?_
 refine r_op oM ?_
 refine r_op (o_len rfl rfl rfl) ?_
 refine r_op oB ?_
 refine r_end ?_
 refine t_cond rfl (fun h1 => ?_) (fun h1 => ?_)
 ·
  have h1' := of_decide_eq_true h1
  refine tsr ?_
  refine r_op oA ?_
  refine r_end ?_
  refine t_ret Tryz.func91 (.tmp rfl .nil) rfl fun E S w u hI hd => ?_
  refine post_mk hI hd ?_ trivial rfl rfl rfl <;> clear hI hd <;> (try clear ih0)
  all_goals (rw [allEq_len (by omega)])
 ·
  have h1' := of_decide_eq_false h1
  refine t_skip ?_
  refine t_seq ?_
  refine tsr ?_
  refine r_op oM ?_
  refine r_op (o_len rfl rfl rfl) ?_
  refine r_op oM ?_
  refine r_end ?_
  refine t_block ?_
  refine t_loopL (fun m => ⟨[(1, some (.c (.t none (.sl 2 (enS2 encI (enSl 1 encI)) (b))))), (2, some (.c (.fv f cs))), (15, some (.c (.t none (.sl 2 (enS2 encI (enSl 1 encI)) (a))))), (16, some (.c (.t none (.v (.int .i64 (((a).length : Int))))))), (17, some (.c (.t none (.v (.int .i64 ((m : Int)))))))], [], 0⟩ : Nat → St) (fun m => m ≤ a.length ∧ a.length = b.length ∧ ∀ j x y, j < m → a[j]? = some x → b[j]? = some y → p x y = true) (fun m => a.length - m) 0 ⟨⟨rfl, ⟨rfl, ⟨rfl, ⟨rfl, ⟨rfl, trivial⟩⟩⟩⟩⟩, trivial, rfl⟩ (by exact ⟨Nat.zero_le _, by omega, fun j x y h => by omega⟩) ?_
  rintro m hI ih0
  try dsimp only at hI ih0
  obtain ⟨i1, i2, i3⟩ := hI
  refine tsr ?_
  refine r_op oB ?_
  refine r_end ?_
  refine t_seq ?_
  refine t_cond rfl (fun h2 => ?_) (fun h2 => ?_)
  ·
   have h2' := of_decide_eq_true h2
   refine t_skip ?_
   refine t_seq ?_
   refine t_block ?_
   refine tsr ?_
   refine r_op oM ?_
   obtain ⟨z3, hz4, b5⟩ := at_get (xs := a) (n := (m : Int)) (by omega) (by omega)
   refine r_op (o_index rfl (by kernel_rfl) rfl rfl b5 hz4) ?_
   refine r_op (o_loadA rfl (n := 2) (by kernel_rfl) (by kernel_rfl) rfl rfl) ?_
   refine r_op (o_alloc 0 (zs := [.int .i64 (0), .slice none 0 0]) rfl rfl (by kernel_rfl) rfl) ?_
   refine r_op oA ?_
   refine r_op (oS 2) ?_
   refine etr ?_
   refine r_op oM ?_
   refine r_op oM ?_
   obtain ⟨z6, hz7, b8⟩ := at_get (xs := b) (n := (m : Int)) (by omega) (by omega)
   refine r_op (o_index rfl (by kernel_rfl) rfl rfl b8 hz7) ?_
   refine r_op (o_loadA rfl (n := 2) (by kernel_rfl) (by kernel_rfl) rfl rfl) ?_
   refine r_op (o_alloc 1 (zs := [.int .i64 (0), .slice none 0 0]) rfl rfl (by kernel_rfl) rfl) ?_
   refine r_op (oS 2) ?_
   refine etr ?_
   refine r_op oM ?_
   refine r_op (oC 2) ?_
   refine r_op (oC 2) ?_
   refine r_op (o_callv 2 2 false (hf z3 (List.mem_of_getElem? (by assumption)) z6 (List.mem_of_getElem? (by assumption))).1 (hf z3 (List.mem_of_getElem? (by assumption)) z6 (List.mem_of_getElem? (by assumption))).2 rfl rfl (.c .fv) (.cons rfl (.agg (.cons .t0 (.cons .t0 .nil))) (.cons rfl (.agg (.cons .t0 (.cons .t0 .nil))) .nil)) rfl rfl rfl) ?_
   refine r_op (o_not rfl rfl) ?_
   refine r_end ?_
   refine t_cond rfl (fun h9 => ?_) (fun h9 => ?_)
   ·
    have h9' := (bnt h9)
    refine tsr ?_
    refine r_op oA ?_
    refine r_end ?_
    refine t_ret Tryz.func91 (.tmp rfl .nil) rfl fun E S w u hI hd => ?_
    refine post_mk hI hd ?_ trivial rfl rfl rfl <;> clear hI hd <;> (try clear ih0)
    all_goals (rw [allEq_bad (by assumption) (by assumption) (by assumption)])
   ·
    have h9' := (bnf h9)
    refine t_skip ?_
    refine t_endblock ?_
    refine t_region ?_
    refine r_op oB ?_
    refine r_op oM ?_
    refine r_end ?_
    refine t_le ?_ (ih0 (m + 1) (by (try dsimp only); omega) (by (try dsimp only); exact ⟨by omega, i2, pair_step i3 (by assumption) (by assumption) rfl (by assumption)⟩))
    exact ⟨⟨rfl, ⟨rfl, ⟨rfl, ⟨rfl, ⟨(eqI (wr64 (by omega) (by omega))), trivial⟩⟩⟩⟩⟩, trivial, rfl⟩
  ·
   have h2' := of_decide_eq_false h2
   refine t_exit rfl ?_
   refine tsr ?_
   refine r_op oA ?_
   refine r_end ?_
   refine t_ret Tryz.func91 (.tmp rfl .nil) rfl fun E S w u hI hd => ?_
   refine post_mk hI hd ?_ trivial rfl rfl rfl <;> clear hI hd <;> (try clear ih0)
   all_goals (rw [allEq_good i3 i2 (by omega)])
set_option maxHeartbeats 1000000 in
set_option maxRecDepth 10000 in
theorem c_impl_EqualInstances (rs : Rels) (fs : Atoms) (rs2 : Rels) (fs2 : Atoms) (hrs : rs.length ≤ 1048576) (hfs : szS (fun (x : Int × (List (Int))) => (x.2).length) fs ≤ 1048576) (hrs2 : rs2.length ≤ 1048576) (hfs2 : szS (fun (x : Int × (List (Int))) => (x.2).length) fs2 ≤ 1048576) : Pu Tryz.prog 41 [.agg [.t none (.sl 3 (enS3 encS encI encB) (rs)), .t none (.sl 2 (enS2 encI (enSl 1 encI)) (fs))], .agg [.t none (.sl 3 (enS3 encS encI encB) (rs2)), .t none (.sl 2 (enS2 encI (enSl 1 encI)) (fs2))]] [] 0 (.c (.t none (.v (.bool (decide (rs = rs2) && decide (fs = fs2)))))) := by
 refine pu_enter Tryz.func41 rfl (Nat.le_of_ble_eq_true rfl) fun w S => ?_
 have gl := sz_len (f := (fun (x : Int × (List (Int))) => (x.2).length)) (l := fs); have gl2 := sz_len (f := (fun (x : Int × (List (Int))) => (x.2).length)) (l := fs2)
 refine tsr ?_
 refine r_op (o_box 0 rfl rfl rfl rfl) ?_
 refine r_op (o_box 1 rfl rfl rfl rfl) ?_
 refine r_op oA ?_
 refine etr ?_
 refine r_op (oF 0) ?_
 refine r_op oL ?_
 refine r_op (oF 0) ?_
 refine r_op oL ?_
 refine r_op (o_call 2 2 false (Go.Proofs.enters_of Tryz.func90 (by kernel_rfl) rfl) (c_slices_Equal___impl_Relation_impl_Relation_ (rs) (rs2) (by omega) (by omega)) rfl (.cons rfl (.c .t0) (.cons rfl (.c .t0) .nil)) rfl rfl rfl) ?_
 refine r_op oM ?_
 refine r_guard rfl rfl rfl (fun g1 => ?_) (fun g1 => ?_)
 ·
  have g1' := of_decide_eq_true g1
  refine r_op (oF 1) ?_
  refine r_guard rfl rfl rfl (fun _ => ?_) (nc g1)
  refine r_op oL ?_
  refine r_guard rfl rfl rfl (fun _ => ?_) (nc g1)
  refine r_op (oF 1) ?_
  refine r_guard rfl rfl rfl (fun _ => ?_) (nc g1)
  refine r_op oL ?_
  refine r_guard rfl rfl rfl (fun _ => ?_) (nc g1)
  refine r_op (o_call 2 2 false (Go.Proofs.enters_of Tryz.func91 (by kernel_rfl) rfl) (c_slices_EqualFunc___impl_Fact___impl_Fact_impl_Fact_impl_Fact_ (fs) (fs2) (92) ([]) (fun (x0 : Int × (List (Int))) (x1 : Int × (List (Int))) => decide (cmpF ((x0.1), (x0.2)) ((x1.1), (x1.2)) = 0)) (by omega) (fun x0 mx0 x1 mx1 => ⟨Go.Proofs.enters_of Tryz.func92 (by kernel_rfl) rfl, c_impl_sameFact (x0.1) (x0.2) (x1.1) (x1.2) (by (have e1 := sz_mem (f := (fun (x : Int × (List (Int))) => (x.2).length)) (l := fs) (by assumption); (try dsimp only at e1); omega)) (by (have e1 := sz_mem (f := (fun (x : Int × (List (Int))) => (x.2).length)) (l := fs2) (by assumption); (try dsimp only at e1); omega))⟩)) rfl (.cons rfl (.c .t0) (.cons rfl (.c .t0) (.cons rfl (.c (.clo .nil)) .nil))) rfl rfl rfl) ?_
  refine r_op (o_pickT rfl rfl g1 rfl) ?_
  refine r_op oA ?_
  refine r_end ?_
  refine t_ret Tryz.func41 (.tmp rfl .nil) rfl fun E S w u hI hd => ?_
  refine post_mk hI hd ?_ trivial rfl rfl rfl <;> clear hI hd
  all_goals (refine scB ?_; (have e7 := allEq_dec (p := fun x y => decide (cmpF (x.1, x.2) (y.1, y.2) = 0)) (a := fs) (b := fs2) (fun x y => decide_eq_decide.2 cmpF_zero)); grind)
 ·
  have g1' := of_decide_eq_false g1
  refine r_guard rfl rfl rfl (ncf g1) (fun _ => ?_)
  refine r_guard rfl rfl rfl (ncf g1) (fun _ => ?_)
  refine r_guard rfl rfl rfl (ncf g1) (fun _ => ?_)
  refine r_guard rfl rfl rfl (ncf g1) (fun _ => ?_)
  refine r_op (o_pickF rfl rfl g1 rfl) ?_
  refine r_op oA ?_
  refine r_end ?_
  refine t_ret Tryz.func41 (.tmp rfl .nil) rfl fun E S w u hI hd => ?_
  refine post_mk hI hd ?_ trivial rfl rfl rfl <;> clear hI hd
  all_goals (refine scB ?_; (have e7 := allEq_dec (p := fun x y => decide (cmpF (x.1, x.2) (y.1, y.2) = 0)) (a := fs) (b := fs2) (fun x y => decide_eq_decide.2 cmpF_zero)); grind)
set_option maxHeartbeats 1000000 in
set_option maxRecDepth 10000 in
theorem c_impl_IsSolution (rs : Rels) (fs : Atoms) (rs2 : Rels) (fs2 : Atoms) (ds : List Dep) (hrs : rs.length ≤ 1048576) (hfs : szS (fun (x : Int × (List (Int))) => (x.2).length) fs ≤ 1048576) (ho : ∀ z ∈ fs, ∀ x ∈ z.2, okI x) (hrs2 : rs2.length ≤ 1048576) (hfs2 : szS (fun (x : Int × (List (Int))) => (x.2).length) fs2 ≤ 1048576) (ho2 : ∀ z ∈ fs2, ∀ x ∈ z.2, okI x) (hds : szS (fun (x : (List (Int × (List (Int)))) × (List (Int × (List (Int)))) × Bool × Int × Int) => (szS (fun (x : Int × (List (Int))) => (x.2).length) (x.1)) + (szS (fun (x : Int × (List (Int))) => (x.2).length) (x.2.1))) ds ≤ 1048576) (hod : ∀ d ∈ ds, ∀ z ∈ d.1, ∀ x ∈ z.2, okI x) : Pu Tryz.prog 11 [.agg [.t none (.sl 3 (enS3 encS encI encB) (rs)), .t none (.sl 2 (enS2 encI (enSl 1 encI)) (fs))], .agg [.t none (.sl 3 (enS3 encS encI encB) (rs2)), .t none (.sl 2 (enS2 encI (enSl 1 encI)) (fs2))], .c (.t none (.sl 5 (enS5 (enSl 2 (enS2 encI (enSl 1 encI))) (enSl 2 (enS2 encI (enSl 1 encI))) encB encI encI) (ds)))] [] 0 (.c (.t none (.v (.bool (solB rs fs rs2 fs2 ds))))) := by
 refine pu_enter Tryz.func11 rfl (Nat.le_of_ble_eq_true rfl) fun w S => ?_
 have r1 := rstR_len rs fs; have r2 := rstR_len rs2 fs2; have r3 := rstF_sz rs fs true; have r4 := rstF_sz rs2 fs2 true
 refine tsr ?_
 refine r_op (o_box 0 rfl rfl rfl rfl) ?_
 refine r_op (o_box 1 rfl rfl rfl rfl) ?_
 refine r_op oA ?_
 refine r_end ?_
 refine t_seq ?_
 refine t_draw (fun _ => true) (by kernel_rfl) ?_
 refine dT 0 rfl (pC 2) ?_
 refine dT 1 rfl pM ?_
 refine dO 2 rfl (o_call 2 2 false (Go.Proofs.enters_of Tryz.func39 (by kernel_rfl) rfl) (c_impl_Satisfies (rs2) (fs2) (ds) (by omega) (by omega) (by omega) (by omega) (by omega)) rfl (.cons rfl (.agg (.cons .t0 (.cons .t0 .nil))) (.cons rfl (.c .t0) .nil)) rfl rfl rfl) ?_
 refine dT 3 rfl pM ?_
 refine dH 4 rfl (fun _ => pC 2) (fun g1 => ?_) (fun g1 => ?_)
 ·
  have g1' := g1
  refine d_onlyG 5 rfl rfl (by kernel_rfl) rfl rfl rfl (fun _ => (o_call 2 2 false (Go.Proofs.enters_of Tryz.func40 (by kernel_rfl) rfl) (c_impl_IsValidInstance (rs) (fs) (by omega) (by omega) (by omega)) rfl (.cons rfl (.agg (.cons .t0 (.cons .t0 .nil))) .nil) rfl rfl rfl)) (fun _ => ?_) (nc g1)
  refine dT 6 rfl (p_pickT rfl g1 rfl) ?_
  refine dT 7 rfl pM ?_
  refine dH 8 rfl (fun _ => pC 2) (fun g2 => ?_) (fun g2 => ?_)
  ·
   have g2' := g2
   refine dH 10 rfl (fun _ => pC 2) (fun _ => ?_) (nc g2)
   refine d_onlyG 9 rfl rfl (by kernel_rfl) rfl rfl rfl (fun _ => (o_call 2 2 true (Go.Proofs.enters_of Tryz.func42 (by kernel_rfl) rfl) (c_impl_Restrict (rs) (fs) (true) (by omega) (by omega) (by omega)) rfl (.cons rfl (.agg (.cons .t0 (.cons .t0 .nil))) (.cons rfl (.c .t0) .nil)) rfl rfl rfl)) (fun _ => ?_) (nc g2)
   refine d_onlyG 11 rfl rfl (by kernel_rfl) rfl rfl rfl (fun _ => (o_call 2 2 true (Go.Proofs.enters_of Tryz.func42 (by kernel_rfl) rfl) (c_impl_Restrict (rs2) (fs2) (true) (by omega) (by omega) (by omega)) rfl (.cons rfl (.agg (.cons .t0 (.cons .t0 .nil))) (.cons rfl (.c .t0) .nil)) rfl rfl rfl)) (fun _ => ?_) (nc g2)
   refine d_onlyG 12 rfl rfl (by kernel_rfl) rfl rfl rfl (fun _ => (o_call 2 2 false (Go.Proofs.enters_of Tryz.func41 (by kernel_rfl) rfl) (c_impl_EqualInstances (rstR (rs) (fs)) (rstF (rs) (fs) (true)) (rstR (rs2) (fs2)) (rstF (rs2) (fs2) (true)) (by omega) (by omega) (by omega) (by omega)) rfl (.cons rfl (.agg (.cons .t0 (.cons .t0 .nil))) (.cons rfl (.agg (.cons .t0 (.cons .t0 .nil))) .nil)) rfl rfl rfl)) (fun _ => ?_) (nc g2)
   refine dT 13 rfl (p_pickT rfl g2 rfl) ?_
   refine dT 14 rfl pA ?_
   refine d_end (by kernel_rfl) ?_
   refine t_ret Tryz.func11 (.tmp rfl .nil) rfl fun E S w u hI hd => ?_
   refine post_mk hI hd ?_ trivial rfl rfl rfl <;> clear hI hd
   all_goals (refine scB ?_; unfold solB; clear hrs hfs ho hrs2 hfs2 ho2 hds hod r1 r2 r3 r4; grind)
  ·
   have g2' := g2
   refine dG 9 (ncf g2) (fun _ => ?_)
   refine dG 10 (ncf g2) (fun _ => ?_)
   refine dG 11 (ncf g2) (fun _ => ?_)
   refine dG 12 (ncf g2) (fun _ => ?_)
   refine dT 13 rfl (p_pickF rfl g2 rfl) ?_
   refine dT 14 rfl pA ?_
   refine d_end (by kernel_rfl) ?_
   refine t_ret Tryz.func11 (.tmp rfl .nil) rfl fun E S w u hI hd => ?_
   refine post_mk hI hd ?_ trivial rfl rfl rfl <;> clear hI hd
   all_goals (refine scB ?_; unfold solB; clear hrs hfs ho hrs2 hfs2 ho2 hds hod r1 r2 r3 r4; grind)
 ·
  have g1' := g1
  refine dG 5 (ncf g1) (fun _ => ?_)
  refine dT 6 rfl (p_pickF rfl g1 rfl) ?_
  refine dT 7 rfl pM ?_
  refine dG 8 (ncf rfl) (fun _ => ?_)
  refine dG 9 (ncf rfl) (fun _ => ?_)
  refine dG 10 (ncf rfl) (fun _ => ?_)
  refine dG 11 (ncf rfl) (fun _ => ?_)
  refine dG 12 (ncf rfl) (fun _ => ?_)
  refine dT 13 rfl (p_pickF rfl rfl rfl) ?_
  refine dT 14 rfl pA ?_
  refine d_end (by kernel_rfl) ?_
  refine t_ret Tryz.func11 (.tmp rfl .nil) rfl fun E S w u hI hd => ?_
  refine post_mk hI hd ?_ trivial rfl rfl rfl <;> clear hI hd
  all_goals (refine scB ?_; unfold solB; clear hrs hfs ho hrs2 hfs2 ho2 hds hod r1 r2 r3 r4; grind)
set_option maxHeartbeats 1000000 in
set_option maxRecDepth 10000 in
theorem c_laws_eqRelation (a0 : List UInt8) (a1 : Int) (a2 : Bool) (b0 : List UInt8) (b1 : Int) (b2 : Bool) (hs : (a0).length ≤ 1048576) : Pu Tryz.prog 95 [.agg [.t none (.v (.string (mkS (a0)))), .t none (.v (.int .i64 (a1))), .t none (.v (.bool (a2)))], .agg [.t none (.v (.string (mkS (b0)))), .t none (.v (.int .i64 (b1))), .t none (.v (.bool (b2)))]] [] 0 (.c (.t none (.v (.bool (decide ((a0, a1, a2) = (b0, b1, b2))))))) := by
 refine pu_enter Tryz.func95 rfl (Nat.le_of_ble_eq_true rfl) fun w S => ?_
 refine tsr ?_
 refine r_op (o_box 0 rfl rfl rfl rfl) ?_
 refine r_op (o_box 1 rfl rfl rfl rfl) ?_
 refine r_op oA ?_
 refine r_end ?_
 refine t_seq ?_
 refine tsr ?_
 refine r_op (oF 0) ?_
 refine r_op oL ?_
 refine r_op (oF 0) ?_
 refine r_op oL ?_
 refine r_op (o_str rfl rfl rfl rfl) ?_
 refine r_end ?_
 refine t_cond rfl (fun h1 => ?_) (fun h1 => ?_)
 ·
  have h1' := of_decide_eq_true h1
  refine tsr ?_
  refine r_op oA ?_
  refine r_end ?_
  refine t_ret Tryz.func95 (.tmp rfl .nil) rfl fun E S w u hI hd => ?_
  refine post_mk hI hd ?_ trivial rfl rfl rfl <;> clear hI hd
  all_goals (simp_all)
 ·
  have h1' := of_decide_eq_false h1
  refine t_skip ?_
  refine t_seq ?_
  refine tsr ?_
  refine r_op (oF 1) ?_
  refine r_op oL ?_
  refine r_op (oF 1) ?_
  refine r_op oL ?_
  refine r_op oB ?_
  refine r_end ?_
  refine t_cond rfl (fun h2 => ?_) (fun h2 => ?_)
  ·
   have h2' := of_decide_eq_true h2
   refine tsr ?_
   refine r_op oA ?_
   refine r_end ?_
   refine t_ret Tryz.func95 (.tmp rfl .nil) rfl fun E S w u hI hd => ?_
   refine post_mk hI hd ?_ trivial rfl rfl rfl <;> clear hI hd
   all_goals (simp_all)
  ·
   have h2' := of_decide_eq_false h2
   refine t_skip ?_
   refine t_seq ?_
   refine tsr ?_
   refine r_op (oF 2) ?_
   refine r_op oL ?_
   refine r_op (oF 2) ?_
   refine r_op oL ?_
   refine r_op (o_neB rfl Tryz.underlying4 rfl rfl) ?_
   refine r_end ?_
   refine t_cond rfl (fun h3 => ?_) (fun h3 => ?_)
   ·
    have h3' := h3
    refine tsr ?_
    refine r_op oA ?_
    refine r_end ?_
    refine t_ret Tryz.func95 (.tmp rfl .nil) rfl fun E S w u hI hd => ?_
    refine post_mk hI hd ?_ trivial rfl rfl rfl <;> clear hI hd
    all_goals (simp_all)
   ·
    have h3' := h3
    refine t_skip ?_
    refine tsr ?_
    refine r_op oA ?_
    refine r_end ?_
    refine t_ret Tryz.func95 (.tmp rfl .nil) rfl fun E S w u hI hd => ?_
    refine post_mk hI hd ?_ trivial rfl rfl rfl <;> clear hI hd
    all_goals (simp_all)
set_option maxHeartbeats 1000000 in
set_option maxRecDepth 10000 in
theorem c_laws_eqRelationS (a b : List (List UInt8 × Int × Bool)) (hs : szS (fun (x : List UInt8 × Int × Bool) => (x.1).length) a ≤ 1048576) : Pu Tryz.prog 43 [.c (.t none (.sl 3 (enS3 encS encI encB) (a))), .c (.t none (.sl 3 (enS3 encS encI encB) (b)))] [] 0 (.c (.t none (.v (.bool (decide (a = b)))))) := by
 refine pu_enter Tryz.func43 rfl (Nat.le_of_ble_eq_true rfl) fun w S => ?_
 have gl := sz_len (f := (fun (x : List UInt8 × Int × Bool) => (x.1).length)) (l := a)
 refine tsr ?_
 refine r_op oA ?_
 refine r_end ?_
 refine t_seq ?_
 refine tsr ?_
 refine r_op oM ?_
 refine r_op (o_len rfl rfl rfl) ?_
 refine r_op oM ?_
 refine r_op (o_len rfl rfl rfl) ?_
 refine r_op oB ?_
 refine r_end ?_
 refine t_cond rfl (fun h1 => ?_) (fun h1 => ?_)
 ·
  have h1' := of_decide_eq_true h1
  refine tsr ?_
  refine r_op oA ?_
  refine r_end ?_
  refine t_ret Tryz.func43 (.tmp rfl .nil) rfl fun E S w u hI hd => ?_
  refine post_mk hI hd ?_ trivial rfl rfl rfl <;> clear hI hd <;> (try clear ih0)
  all_goals ((have : a ≠ b := by rintro rfl; simp at *); simp [this])
 ·
  have h1' := of_decide_eq_false h1
  refine t_skip ?_
  refine t_seq ?_
  refine tsr ?_
  refine r_op oA ?_
  refine r_end ?_
  refine t_block ?_
  refine t_loopL (fun m => ⟨[(0, some (.c (.t none (.sl 3 (enS3 encS encI encB) (a))))), (1, some (.c (.t none (.sl 3 (enS3 encS encI encB) (b))))), (5, some (.c (.t none (.v (.int .i64 ((m : Int)))))))], [], 0⟩ : Nat → St) (fun m => m ≤ a.length ∧ a.length = b.length ∧ a.take m = b.take m) (fun m => a.length - m) 0 ⟨⟨rfl, ⟨rfl, ⟨rfl, trivial⟩⟩⟩, trivial, rfl⟩ (by exact ⟨Nat.zero_le _, by omega, rfl⟩) ?_
  rintro m hI ih0
  try dsimp only at hI ih0
  obtain ⟨i1, i2, i3⟩ := hI
  refine t_seq ?_
  refine tsr ?_
  refine r_op oM ?_
  refine r_op oM ?_
  refine r_op (o_len rfl rfl rfl) ?_
  refine r_op oB ?_
  refine r_end ?_
  refine t_cond rfl (fun h2 => ?_) (fun h2 => ?_)
  ·
   have h2' := of_decide_eq_true h2
   refine t_skip ?_
   refine t_seq ?_
   refine t_block ?_
   refine t_seq ?_
   refine t_draw (fun _ => true) (by kernel_rfl) ?_
   refine dT 0 rfl pM ?_
   refine dT 1 rfl pM ?_
   obtain ⟨z3, hz4, b5⟩ := at_get (xs := a) (n := (m : Int)) (by omega) (by omega)
   refine dT 2 rfl (p_index (by kernel_rfl) rfl rfl b5 hz4) ?_
   refine dT 3 rfl (p_loadA (n := 3) (by kernel_rfl) (by kernel_rfl) rfl rfl) ?_
   refine dT 4 rfl pM ?_
   refine dT 5 rfl pM ?_
   obtain ⟨z6, hz7, b8⟩ := at_get (xs := b) (n := (m : Int)) (by omega) (by omega)
   refine dT 6 rfl (p_index (by kernel_rfl) rfl rfl b8 hz7) ?_
   refine dT 7 rfl (p_loadA (n := 3) (by kernel_rfl) (by kernel_rfl) rfl rfl) ?_
   refine dO 8 rfl (o_call 0 0 false (Go.Proofs.enters_of Tryz.func95 (by kernel_rfl) rfl) (c_laws_eqRelation (z3.1) (z3.2.1) (z3.2.2) (z6.1) (z6.2.1) (z6.2.2) (by (have e1 := sz_at (f := (fun (x : List UInt8 × Int × Bool) => (x.1).length)) (l := a) (m := m) (by assumption); (try dsimp only at e1); omega))) rfl (.cons rfl (.agg (.cons .t0 (.cons .t0 (.cons .t0 .nil)))) (.cons rfl (.agg (.cons .t0 (.cons .t0 (.cons .t0 .nil)))) .nil)) rfl rfl rfl) ?_
   refine dT 9 rfl (p_not rfl) ?_
   refine d_end (by kernel_rfl) ?_
   refine t_cond rfl (fun h9 => ?_) (fun h9 => ?_)
   ·
    have h9' := of_decide_eq_false (bnt h9)
    refine tsr ?_
    refine r_op oA ?_
    refine r_end ?_
    refine t_ret Tryz.func43 (.tmp rfl .nil) rfl fun E S w u hI hd => ?_
    refine post_mk hI hd ?_ trivial rfl rfl rfl <;> clear hI hd <;> (try clear ih0)
    all_goals (have := ne_at (a := a) (b := b) (by assumption) (by assumption) (by assumption); simp_all)
   ·
    have h9' := of_decide_eq_true (bnf h9)
    refine t_skip ?_
    refine t_endblock ?_
    refine t_region ?_
    refine r_op oM ?_
    refine r_op oB ?_
    refine r_op oA ?_
    refine r_end ?_
    refine t_le ?_ (ih0 (m + 1) (by (try dsimp only); omega) (by (try dsimp only); exact ⟨by omega, i2, take_same i3 (same_at (by assumption) (by assumption) (by assumption))⟩))
    exact ⟨⟨rfl, ⟨rfl, ⟨(eqI (wrS (by omega))), trivial⟩⟩⟩, trivial, rfl⟩
  ·
   have h2' := of_decide_eq_false h2
   refine t_exit rfl ?_
   refine tsr ?_
   refine r_op oA ?_
   refine r_end ?_
   refine t_ret Tryz.func43 (.tmp rfl .nil) rfl fun E S w u hI hd => ?_
   refine post_mk hI hd ?_ trivial rfl rfl rfl <;> clear hI hd <;> (try clear ih0)
   all_goals ((obtain rfl : m = a.length := by omega); rw [List.take_length, i2, List.take_length] at i3; simp [i3])
set_option maxHeartbeats 1000000 in
set_option maxRecDepth 10000 in
theorem c_laws_eqIntS (a b : List Int) (ha : a.length < 4611686018427387904) : Pu Tryz.prog 20 [.c (.t none (.sl 1 encI (a))), .c (.t none (.sl 1 encI (b)))] [] 0 (.c (.t none (.v (.bool (decide (a = b)))))) := by
 refine pu_enter Tryz.func20 rfl (Nat.le_of_ble_eq_true rfl) fun w S => ?_
 refine tsr ?_
 refine r_op oA ?_
 refine r_end ?_
 refine t_seq ?_
 refine tsr ?_
 refine r_op oM ?_
 refine r_op (o_len rfl rfl rfl) ?_
 refine r_op oM ?_
 refine r_op (o_len rfl rfl rfl) ?_
 refine r_op oB ?_
 refine r_end ?_
 refine t_cond rfl (fun h1 => ?_) (fun h1 => ?_)
 ·
  have h1' := of_decide_eq_true h1
  refine tsr ?_
  refine r_op oA ?_
  refine r_end ?_
  refine t_ret Tryz.func20 (.tmp rfl .nil) rfl fun E S w u hI hd => ?_
  refine post_mk hI hd ?_ trivial rfl rfl rfl <;> clear hI hd <;> (try clear ih0)
  all_goals ((have : a ≠ b := by rintro rfl; simp at *); simp [this])
 ·
  have h1' := of_decide_eq_false h1
  refine t_skip ?_
  refine t_seq ?_
  refine tsr ?_
  refine r_op oA ?_
  refine r_end ?_
  refine t_block ?_
  refine t_loopL (fun m => ⟨[(0, some (.c (.t none (.sl 1 encI (a))))), (1, some (.c (.t none (.sl 1 encI (b))))), (5, some (.c (.t none (.v (.int .i64 ((m : Int)))))))], [], 0⟩ : Nat → St) (fun m => m ≤ a.length ∧ a.length = b.length ∧ a.take m = b.take m) (fun m => a.length - m) 0 ⟨⟨rfl, ⟨rfl, ⟨rfl, trivial⟩⟩⟩, trivial, rfl⟩ (by exact ⟨Nat.zero_le _, by omega, rfl⟩) ?_
  rintro m hI ih0
  try dsimp only at hI ih0
  obtain ⟨i1, i2, i3⟩ := hI
  refine t_seq ?_
  refine tsr ?_
  refine r_op oM ?_
  refine r_op oM ?_
  refine r_op (o_len rfl rfl rfl) ?_
  refine r_op oB ?_
  refine r_end ?_
  refine t_cond rfl (fun h2 => ?_) (fun h2 => ?_)
  ·
   have h2' := of_decide_eq_true h2
   refine t_skip ?_
   refine t_seq ?_
   refine t_block ?_
   refine t_seq ?_
   refine t_draw (fun _ => true) (by kernel_rfl) ?_
   refine dT 0 rfl pM ?_
   refine dT 1 rfl pM ?_
   obtain ⟨z3, hz4, b5⟩ := at_get (xs := a) (n := (m : Int)) (by omega) (by omega)
   refine dT 2 rfl (p_index (by kernel_rfl) rfl rfl b5 hz4) ?_
   refine dT 3 rfl (p_load1 (by kernel_rfl) rfl rfl) ?_
   refine dT 4 rfl pM ?_
   refine dT 5 rfl pM ?_
   obtain ⟨z6, hz7, b8⟩ := at_get (xs := b) (n := (m : Int)) (by omega) (by omega)
   refine dT 6 rfl (p_index (by kernel_rfl) rfl rfl b8 hz7) ?_
   refine dT 7 rfl (p_load1 (by kernel_rfl) rfl rfl) ?_
   refine dT 8 rfl pB ?_
   refine d_end (by kernel_rfl) ?_
   refine t_cond rfl (fun h9 => ?_) (fun h9 => ?_)
   ·
    have h9' := of_decide_eq_true h9
    refine tsr ?_
    refine r_op oA ?_
    refine r_end ?_
    refine t_ret Tryz.func20 (.tmp rfl .nil) rfl fun E S w u hI hd => ?_
    refine post_mk hI hd ?_ trivial rfl rfl rfl <;> clear hI hd <;> (try clear ih0)
    all_goals (have := ne_at (a := a) (b := b) (by assumption) (by assumption) (by assumption); simp_all)
   ·
    have h9' := of_decide_eq_false h9
    refine t_skip ?_
    refine t_endblock ?_
    refine t_region ?_
    refine r_op oM ?_
    refine r_op oB ?_
    refine r_op oA ?_
    refine r_end ?_
    refine t_le ?_ (ih0 (m + 1) (by (try dsimp only); omega) (by (try dsimp only); refine ⟨by omega, i2, take_same i3 ?_⟩; simp_all))
    exact ⟨⟨rfl, ⟨rfl, ⟨(eqI (wrS (by omega))), trivial⟩⟩⟩, trivial, rfl⟩
  ·
   have h2' := of_decide_eq_false h2
   refine t_exit rfl ?_
   refine tsr ?_
   refine r_op oA ?_
   refine r_end ?_
   refine t_ret Tryz.func20 (.tmp rfl .nil) rfl fun E S w u hI hd => ?_
   refine post_mk hI hd ?_ trivial rfl rfl rfl <;> clear hI hd <;> (try clear ih0)
   all_goals ((obtain rfl : m = a.length := by omega); rw [List.take_length, i2, List.take_length] at i3; simp [i3])
set_option maxHeartbeats 1000000 in
set_option maxRecDepth 10000 in
theorem c_laws_eqFact (a0 : Int) (a1 : List (Int)) (b0 : Int) (b1 : List (Int)) (hs : (a1).length ≤ 1048576) : Pu Tryz.prog 96 [.agg [.t none (.v (.int .i64 (a0))), .t none (.sl 1 encI (a1))], .agg [.t none (.v (.int .i64 (b0))), .t none (.sl 1 encI (b1))]] [] 0 (.c (.t none (.v (.bool (decide ((a0, a1) = (b0, b1))))))) := by
 refine pu_enter Tryz.func96 rfl (Nat.le_of_ble_eq_true rfl) fun w S => ?_
 refine tsr ?_
 refine r_op (o_box 0 rfl rfl rfl rfl) ?_
 refine r_op (o_box 1 rfl rfl rfl rfl) ?_
 refine r_op oA ?_
 refine r_end ?_
 refine t_seq ?_
 refine tsr ?_
 refine r_op (oF 0) ?_
 refine r_op oL ?_
 refine r_op (oF 0) ?_
 refine r_op oL ?_
 refine r_op oB ?_
 refine r_end ?_
 refine t_cond rfl (fun h1 => ?_) (fun h1 => ?_)
 ·
  have h1' := of_decide_eq_true h1
  refine tsr ?_
  refine r_op oA ?_
  refine r_end ?_
  refine t_ret Tryz.func96 (.tmp rfl .nil) rfl fun E S w u hI hd => ?_
  refine post_mk hI hd ?_ trivial rfl rfl rfl <;> clear hI hd
  all_goals (simp_all)
 ·
  have h1' := of_decide_eq_false h1
  refine t_skip ?_
  refine t_seq ?_
  refine tsr ?_
  refine r_op (oF 1) ?_
  refine r_op oL ?_
  refine r_op (oF 1) ?_
  refine r_op oL ?_
  refine r_op (o_call 2 2 false (Go.Proofs.enters_of Tryz.func20 (by kernel_rfl) rfl) (c_laws_eqIntS (a1) (b1) (by omega)) rfl (.cons rfl (.c .t0) (.cons rfl (.c .t0) .nil)) rfl rfl rfl) ?_
  refine r_op (o_not rfl rfl) ?_
  refine r_end ?_
  refine t_cond rfl (fun h2 => ?_) (fun h2 => ?_)
  ·
   have h2' := of_decide_eq_false (bnt h2)
   refine tsr ?_
   refine r_op oA ?_
   refine r_end ?_
   refine t_ret Tryz.func96 (.tmp rfl .nil) rfl fun E S w u hI hd => ?_
   refine post_mk hI hd ?_ trivial rfl rfl rfl <;> clear hI hd
   all_goals (simp_all)
  ·
   have h2' := of_decide_eq_true (bnf h2)
   refine t_skip ?_
   refine tsr ?_
   refine r_op oA ?_
   refine r_end ?_
   refine t_ret Tryz.func96 (.tmp rfl .nil) rfl fun E S w u hI hd => ?_
   refine post_mk hI hd ?_ trivial rfl rfl rfl <;> clear hI hd
   all_goals (simp_all)
set_option maxHeartbeats 1000000 in
set_option maxRecDepth 10000 in
theorem c_laws_eqFactS (a b : List (Int × (List (Int)))) (hs : szS (fun (x : Int × (List (Int))) => (x.2).length) a ≤ 1048576) : Pu Tryz.prog 44 [.c (.t none (.sl 2 (enS2 encI (enSl 1 encI)) (a))), .c (.t none (.sl 2 (enS2 encI (enSl 1 encI)) (b)))] [] 0 (.c (.t none (.v (.bool (decide (a = b)))))) := by
 refine pu_enter Tryz.func44 rfl (Nat.le_of_ble_eq_true rfl) fun w S => ?_
 have gl := sz_len (f := (fun (x : Int × (List (Int))) => (x.2).length)) (l := a)
 refine tsr ?_
 refine r_op oA ?_
 refine r_end ?_
 refine t_seq ?_
 refine tsr ?_
 refine r_op oM ?_
 refine r_op (o_len rfl rfl rfl) ?_
 refine r_op oM ?_
 refine r_op (o_len rfl rfl rfl) ?_
 refine r_op oB ?_
 refine r_end ?_
 refine t_cond rfl (fun h1 => ?_) (fun h1 => ?_)
 ·
  have h1' := of_decide_eq_true h1
  refine tsr ?_
  refine r_op oA ?_
  refine r_end ?_
  refine t_ret Tryz.func44 (.tmp rfl .nil) rfl fun E S w u hI hd => ?_
  refine post_mk hI hd ?_ trivial rfl rfl rfl <;> clear hI hd <;> (try clear ih0)
  all_goals ((have : a ≠ b := by rintro rfl; simp at *); simp [this])
 ·
  have h1' := of_decide_eq_false h1
  refine t_skip ?_
  refine t_seq ?_
  refine tsr ?_
  refine r_op oA ?_
  refine r_end ?_
  refine t_block ?_
  refine t_loopL (fun m => ⟨[(0, some (.c (.t none (.sl 2 (enS2 encI (enSl 1 encI)) (a))))), (1, some (.c (.t none (.sl 2 (enS2 encI (enSl 1 encI)) (b))))), (5, some (.c (.t none (.v (.int .i64 ((m : Int)))))))], [], 0⟩ : Nat → St) (fun m => m ≤ a.length ∧ a.length = b.length ∧ a.take m = b.take m) (fun m => a.length - m) 0 ⟨⟨rfl, ⟨rfl, ⟨rfl, trivial⟩⟩⟩, trivial, rfl⟩ (by exact ⟨Nat.zero_le _, by omega, rfl⟩) ?_
  rintro m hI ih0
  try dsimp only at hI ih0
  obtain ⟨i1, i2, i3⟩ := hI
  refine t_seq ?_
  refine tsr ?_
  refine r_op oM ?_
  refine r_op oM ?_
  refine r_op (o_len rfl rfl rfl) ?_
  refine r_op oB ?_
  refine r_end ?_
  refine t_cond rfl (fun h2 => ?_) (fun h2 => ?_)
  ·
   have h2' := of_decide_eq_true h2
   refine t_skip ?_
   refine t_seq ?_
   refine t_block ?_
   refine t_seq ?_
   refine t_draw (fun _ => true) (by kernel_rfl) ?_
   refine dT 0 rfl pM ?_
   refine dT 1 rfl pM ?_
   obtain ⟨z3, hz4, b5⟩ := at_get (xs := a) (n := (m : Int)) (by omega) (by omega)
   refine dT 2 rfl (p_index (by kernel_rfl) rfl rfl b5 hz4) ?_
   refine dT 3 rfl (p_loadA (n := 2) (by kernel_rfl) (by kernel_rfl) rfl rfl) ?_
   refine dT 4 rfl pM ?_
   refine dT 5 rfl pM ?_
   obtain ⟨z6, hz7, b8⟩ := at_get (xs := b) (n := (m : Int)) (by omega) (by omega)
   refine dT 6 rfl (p_index (by kernel_rfl) rfl rfl b8 hz7) ?_
   refine dT 7 rfl (p_loadA (n := 2) (by kernel_rfl) (by kernel_rfl) rfl rfl) ?_
   refine dO 8 rfl (o_call 0 0 false (Go.Proofs.enters_of Tryz.func96 (by kernel_rfl) rfl) (c_laws_eqFact (z3.1) (z3.2) (z6.1) (z6.2) (by (have e1 := sz_at (f := (fun (x : Int × (List (Int))) => (x.2).length)) (l := a) (m := m) (by assumption); (try dsimp only at e1); omega))) rfl (.cons rfl (.agg (.cons .t0 (.cons .t0 .nil))) (.cons rfl (.agg (.cons .t0 (.cons .t0 .nil))) .nil)) rfl rfl rfl) ?_
   refine dT 9 rfl (p_not rfl) ?_
   refine d_end (by kernel_rfl) ?_
   refine t_cond rfl (fun h9 => ?_) (fun h9 => ?_)
   ·
    have h9' := of_decide_eq_false (bnt h9)
    refine tsr ?_
    refine r_op oA ?_
    refine r_end ?_
    refine t_ret Tryz.func44 (.tmp rfl .nil) rfl fun E S w u hI hd => ?_
    refine post_mk hI hd ?_ trivial rfl rfl rfl <;> clear hI hd <;> (try clear ih0)
    all_goals (have := ne_at (a := a) (b := b) (by assumption) (by assumption) (by assumption); simp_all)
   ·
    have h9' := of_decide_eq_true (bnf h9)
    refine t_skip ?_
    refine t_endblock ?_
    refine t_region ?_
    refine r_op oM ?_
    refine r_op oB ?_
    refine r_op oA ?_
    refine r_end ?_
    refine t_le ?_ (ih0 (m + 1) (by (try dsimp only); omega) (by (try dsimp only); exact ⟨by omega, i2, take_same i3 (same_at (by assumption) (by assumption) (by assumption))⟩))
    exact ⟨⟨rfl, ⟨rfl, ⟨(eqI (wrS (by omega))), trivial⟩⟩⟩, trivial, rfl⟩
  ·
   have h2' := of_decide_eq_false h2
   refine t_exit rfl ?_
   refine tsr ?_
   refine r_op oA ?_
   refine r_end ?_
   refine t_ret Tryz.func44 (.tmp rfl .nil) rfl fun E S w u hI hd => ?_
   refine post_mk hI hd ?_ trivial rfl rfl rfl <;> clear hI hd <;> (try clear ih0)
   all_goals ((obtain rfl : m = a.length := by omega); rw [List.take_length, i2, List.take_length] at i3; simp [i3])
set_option maxHeartbeats 1000000 in
set_option maxRecDepth 10000 in
theorem c_laws_eqInstance (a0 : List (List UInt8 × Int × Bool)) (a1 : List (Int × (List (Int)))) (b0 : List (List UInt8 × Int × Bool)) (b1 : List (Int × (List (Int)))) (hs : (szS (fun (x : List UInt8 × Int × Bool) => (x.1).length) (a0)) + (szS (fun (x : Int × (List (Int))) => (x.2).length) (a1)) ≤ 1048576) : Pu Tryz.prog 12 [.agg [.t none (.sl 3 (enS3 encS encI encB) (a0)), .t none (.sl 2 (enS2 encI (enSl 1 encI)) (a1))], .agg [.t none (.sl 3 (enS3 encS encI encB) (b0)), .t none (.sl 2 (enS2 encI (enSl 1 encI)) (b1))]] [] 0 (.c (.t none (.v (.bool (decide ((a0, a1) = (b0, b1))))))) := by
 refine pu_enter Tryz.func12 rfl (Nat.le_of_ble_eq_true rfl) fun w S => ?_
 refine tsr ?_
 refine r_op (o_box 0 rfl rfl rfl rfl) ?_
 refine r_op (o_box 1 rfl rfl rfl rfl) ?_
 refine r_op oA ?_
 refine r_end ?_
 refine t_seq ?_
 refine tsr ?_
 refine r_op (oF 0) ?_
 refine r_op oL ?_
 refine r_op (oF 0) ?_
 refine r_op oL ?_
 refine r_op (o_call 2 2 false (Go.Proofs.enters_of Tryz.func43 (by kernel_rfl) rfl) (c_laws_eqRelationS (a0) (b0) (by omega)) rfl (.cons rfl (.c .t0) (.cons rfl (.c .t0) .nil)) rfl rfl rfl) ?_
 refine r_op (o_not rfl rfl) ?_
 refine r_end ?_
 refine t_cond rfl (fun h1 => ?_) (fun h1 => ?_)
 ·
  have h1' := of_decide_eq_false (bnt h1)
  refine tsr ?_
  refine r_op oA ?_
  refine r_end ?_
  refine t_ret Tryz.func12 (.tmp rfl .nil) rfl fun E S w u hI hd => ?_
  refine post_mk hI hd ?_ trivial rfl rfl rfl <;> clear hI hd
  all_goals (simp_all)
 ·
  have h1' := of_decide_eq_true (bnf h1)
  refine t_skip ?_
  refine t_seq ?_
  refine tsr ?_
  refine r_op (oF 1) ?_
  refine r_op oL ?_
  refine r_op (oF 1) ?_
  refine r_op oL ?_
  refine r_op (o_call 2 2 false (Go.Proofs.enters_of Tryz.func44 (by kernel_rfl) rfl) (c_laws_eqFactS (a1) (b1) (by omega)) rfl (.cons rfl (.c .t0) (.cons rfl (.c .t0) .nil)) rfl rfl rfl) ?_
  refine r_op (o_not rfl rfl) ?_
  refine r_end ?_
  refine t_cond rfl (fun h2 => ?_) (fun h2 => ?_)
  ·
   have h2' := of_decide_eq_false (bnt h2)
   refine tsr ?_
   refine r_op oA ?_
   refine r_end ?_
   refine t_ret Tryz.func12 (.tmp rfl .nil) rfl fun E S w u hI hd => ?_
   refine post_mk hI hd ?_ trivial rfl rfl rfl <;> clear hI hd
   all_goals (simp_all)
  ·
   have h2' := of_decide_eq_true (bnf h2)
   refine t_skip ?_
   refine tsr ?_
   refine r_op oA ?_
   refine r_end ?_
   refine t_ret Tryz.func12 (.tmp rfl .nil) rfl fun E S w u hI hd => ?_
   refine post_mk hI hd ?_ trivial rfl rfl rfl <;> clear hI hd
   all_goals (simp_all)
set_option maxHeartbeats 1000000 in
set_option maxRecDepth 10000 in
theorem c_laws_eqAtom (a0 : Int) (a1 : List (Int)) (b0 : Int) (b1 : List (Int)) (hs : (a1).length ≤ 1048576) : Pu Tryz.prog 121 [.agg [.t none (.v (.int .i64 (a0))), .t none (.sl 1 encI (a1))], .agg [.t none (.v (.int .i64 (b0))), .t none (.sl 1 encI (b1))]] [] 0 (.c (.t none (.v (.bool (decide ((a0, a1) = (b0, b1))))))) := by
 refine pu_enter Tryz.func121 rfl (Nat.le_of_ble_eq_true rfl) fun w S => ?_
 refine tsr ?_
 refine r_op (o_box 0 rfl rfl rfl rfl) ?_
 refine r_op (o_box 1 rfl rfl rfl rfl) ?_
 refine r_op oA ?_
 refine r_end ?_
 refine t_seq ?_
 refine tsr ?_
 refine r_op (oF 0) ?_
 refine r_op oL ?_
 refine r_op (oF 0) ?_
 refine r_op oL ?_
 refine r_op oB ?_
 refine r_end ?_
 refine t_cond rfl (fun h1 => ?_) (fun h1 => ?_)
 ·
  have h1' := of_decide_eq_true h1
  refine tsr ?_
  refine r_op oA ?_
  refine r_end ?_
  refine t_ret Tryz.func121 (.tmp rfl .nil) rfl fun E S w u hI hd => ?_
  refine post_mk hI hd ?_ trivial rfl rfl rfl <;> clear hI hd
  all_goals (simp_all)
 ·
  have h1' := of_decide_eq_false h1
  refine t_skip ?_
  refine t_seq ?_
  refine tsr ?_
  refine r_op (oF 1) ?_
  refine r_op oL ?_
  refine r_op (oF 1) ?_
  refine r_op oL ?_
  refine r_op (o_call 2 2 false (Go.Proofs.enters_of Tryz.func20 (by kernel_rfl) rfl) (c_laws_eqIntS (a1) (b1) (by omega)) rfl (.cons rfl (.c .t0) (.cons rfl (.c .t0) .nil)) rfl rfl rfl) ?_
  refine r_op (o_not rfl rfl) ?_
  refine r_end ?_
  refine t_cond rfl (fun h2 => ?_) (fun h2 => ?_)
  ·
   have h2' := of_decide_eq_false (bnt h2)
   refine tsr ?_
   refine r_op oA ?_
   refine r_end ?_
   refine t_ret Tryz.func121 (.tmp rfl .nil) rfl fun E S w u hI hd => ?_
   refine post_mk hI hd ?_ trivial rfl rfl rfl <;> clear hI hd
   all_goals (simp_all)
  ·
   have h2' := of_decide_eq_true (bnf h2)
   refine t_skip ?_
   refine tsr ?_
   refine r_op oA ?_
   refine r_end ?_
   refine t_ret Tryz.func121 (.tmp rfl .nil) rfl fun E S w u hI hd => ?_
   refine post_mk hI hd ?_ trivial rfl rfl rfl <;> clear hI hd
   all_goals (simp_all)
set_option maxHeartbeats 1000000 in
set_option maxRecDepth 10000 in
theorem c_laws_eqAtomS (a b : List (Int × (List (Int)))) (hs : szS (fun (x : Int × (List (Int))) => (x.2).length) a ≤ 1048576) : Pu Tryz.prog 65 [.c (.t none (.sl 2 (enS2 encI (enSl 1 encI)) (a))), .c (.t none (.sl 2 (enS2 encI (enSl 1 encI)) (b)))] [] 0 (.c (.t none (.v (.bool (decide (a = b)))))) := by
 refine pu_enter Tryz.func65 rfl (Nat.le_of_ble_eq_true rfl) fun w S => ?_
 have gl := sz_len (f := (fun (x : Int × (List (Int))) => (x.2).length)) (l := a)
 refine tsr ?_
 refine r_op oA ?_
 refine r_end ?_
 refine t_seq ?_
 refine tsr ?_
 refine r_op oM ?_
 refine r_op (o_len rfl rfl rfl) ?_
 refine r_op oM ?_
 refine r_op (o_len rfl rfl rfl) ?_
 refine r_op oB ?_
 refine r_end ?_
 refine t_cond rfl (fun h1 => ?_) (fun h1 => ?_)
 ·
  have h1' := of_decide_eq_true h1
  refine tsr ?_
  refine r_op oA ?_
  refine r_end ?_
  refine t_ret Tryz.func65 (.tmp rfl .nil) rfl fun E S w u hI hd => ?_
  refine post_mk hI hd ?_ trivial rfl rfl rfl <;> clear hI hd <;> (try clear ih0)
  all_goals ((have : a ≠ b := by rintro rfl; simp at *); simp [this])
 ·
  have h1' := of_decide_eq_false h1
  refine t_skip ?_
  refine t_seq ?_
  refine tsr ?_
  refine r_op oA ?_
  refine r_end ?_
  refine t_block ?_
  refine t_loopL (fun m => ⟨[(0, some (.c (.t none (.sl 2 (enS2 encI (enSl 1 encI)) (a))))), (1, some (.c (.t none (.sl 2 (enS2 encI (enSl 1 encI)) (b))))), (5, some (.c (.t none (.v (.int .i64 ((m : Int)))))))], [], 0⟩ : Nat → St) (fun m => m ≤ a.length ∧ a.length = b.length ∧ a.take m = b.take m) (fun m => a.length - m) 0 ⟨⟨rfl, ⟨rfl, ⟨rfl, trivial⟩⟩⟩, trivial, rfl⟩ (by exact ⟨Nat.zero_le _, by omega, rfl⟩) ?_
  rintro m hI ih0
  try dsimp only at hI ih0
  obtain ⟨i1, i2, i3⟩ := hI
  refine t_seq ?_
  refine tsr ?_
  refine r_op oM ?_
  refine r_op oM ?_
  refine r_op (o_len rfl rfl rfl) ?_
  refine r_op oB ?_
  refine r_end ?_
  refine t_cond rfl (fun h2 => ?_) (fun h2 => ?_)
  ·
   have h2' := of_decide_eq_true h2
   refine t_skip ?_
   refine t_seq ?_
   refine t_block ?_
   refine t_seq ?_
   refine t_draw (fun _ => true) (by kernel_rfl) ?_
   refine dT 0 rfl pM ?_
   refine dT 1 rfl pM ?_
   obtain ⟨z3, hz4, b5⟩ := at_get (xs := a) (n := (m : Int)) (by omega) (by omega)
   refine dT 2 rfl (p_index (by kernel_rfl) rfl rfl b5 hz4) ?_
   refine dT 3 rfl (p_loadA (n := 2) (by kernel_rfl) (by kernel_rfl) rfl rfl) ?_
   refine dT 4 rfl pM ?_
   refine dT 5 rfl pM ?_
   obtain ⟨z6, hz7, b8⟩ := at_get (xs := b) (n := (m : Int)) (by omega) (by omega)
   refine dT 6 rfl (p_index (by kernel_rfl) rfl rfl b8 hz7) ?_
   refine dT 7 rfl (p_loadA (n := 2) (by kernel_rfl) (by kernel_rfl) rfl rfl) ?_
   refine dO 8 rfl (o_call 0 0 false (Go.Proofs.enters_of Tryz.func121 (by kernel_rfl) rfl) (c_laws_eqAtom (z3.1) (z3.2) (z6.1) (z6.2) (by (have e1 := sz_at (f := (fun (x : Int × (List (Int))) => (x.2).length)) (l := a) (m := m) (by assumption); (try dsimp only at e1); omega))) rfl (.cons rfl (.agg (.cons .t0 (.cons .t0 .nil))) (.cons rfl (.agg (.cons .t0 (.cons .t0 .nil))) .nil)) rfl rfl rfl) ?_
   refine dT 9 rfl (p_not rfl) ?_
   refine d_end (by kernel_rfl) ?_
   refine t_cond rfl (fun h9 => ?_) (fun h9 => ?_)
   ·
    have h9' := of_decide_eq_false (bnt h9)
    refine tsr ?_
    refine r_op oA ?_
    refine r_end ?_
    refine t_ret Tryz.func65 (.tmp rfl .nil) rfl fun E S w u hI hd => ?_
    refine post_mk hI hd ?_ trivial rfl rfl rfl <;> clear hI hd <;> (try clear ih0)
    all_goals (have := ne_at (a := a) (b := b) (by assumption) (by assumption) (by assumption); simp_all)
   ·
    have h9' := of_decide_eq_true (bnf h9)
    refine t_skip ?_
    refine t_endblock ?_
    refine t_region ?_
    refine r_op oM ?_
    refine r_op oB ?_
    refine r_op oA ?_
    refine r_end ?_
    refine t_le ?_ (ih0 (m + 1) (by (try dsimp only); omega) (by (try dsimp only); exact ⟨by omega, i2, take_same i3 (same_at (by assumption) (by assumption) (by assumption))⟩))
    exact ⟨⟨rfl, ⟨rfl, ⟨(eqI (wrS (by omega))), trivial⟩⟩⟩, trivial, rfl⟩
  ·
   have h2' := of_decide_eq_false h2
   refine t_exit rfl ?_
   refine tsr ?_
   refine r_op oA ?_
   refine r_end ?_
   refine t_ret Tryz.func65 (.tmp rfl .nil) rfl fun E S w u hI hd => ?_
   refine post_mk hI hd ?_ trivial rfl rfl rfl <;> clear hI hd <;> (try clear ih0)
   all_goals ((obtain rfl : m = a.length := by omega); rw [List.take_length, i2, List.take_length] at i3; simp [i3])
set_option maxHeartbeats 1000000 in
set_option maxRecDepth 10000 in
theorem c_laws_eqDependency (a0 : List (Int × (List (Int)))) (a1 : List (Int × (List (Int)))) (a2 : Bool) (a3 : Int) (a4 : Int) (b0 : List (Int × (List (Int)))) (b1 : List (Int × (List (Int)))) (b2 : Bool) (b3 : Int) (b4 : Int) (hs : (szS (fun (x : Int × (List (Int))) => (x.2).length) (a0)) + (szS (fun (x : Int × (List (Int))) => (x.2).length) (a1)) ≤ 1048576) : Pu Tryz.prog 19 [.agg [.t none (.sl 2 (enS2 encI (enSl 1 encI)) (a0)), .t none (.sl 2 (enS2 encI (enSl 1 encI)) (a1)), .t none (.v (.bool (a2))), .t none (.v (.int .i64 (a3))), .t none (.v (.int .i64 (a4)))], .agg [.t none (.sl 2 (enS2 encI (enSl 1 encI)) (b0)), .t none (.sl 2 (enS2 encI (enSl 1 encI)) (b1)), .t none (.v (.bool (b2))), .t none (.v (.int .i64 (b3))), .t none (.v (.int .i64 (b4)))]] [] 0 (.c (.t none (.v (.bool (decide ((a0, a1, a2, a3, a4) = (b0, b1, b2, b3, b4))))))) := by
 refine pu_enter Tryz.func19 rfl (Nat.le_of_ble_eq_true rfl) fun w S => ?_
 refine tsr ?_
 refine r_op (o_box 0 rfl rfl rfl rfl) ?_
 refine r_op (o_box 1 rfl rfl rfl rfl) ?_
 refine r_op oA ?_
 refine r_end ?_
 refine t_seq ?_
 refine tsr ?_
 refine r_op (oF 0) ?_
 refine r_op oL ?_
 refine r_op (oF 0) ?_
 refine r_op oL ?_
 refine r_op (o_call 2 2 false (Go.Proofs.enters_of Tryz.func65 (by kernel_rfl) rfl) (c_laws_eqAtomS (a0) (b0) (by omega)) rfl (.cons rfl (.c .t0) (.cons rfl (.c .t0) .nil)) rfl rfl rfl) ?_
 refine r_op (o_not rfl rfl) ?_
 refine r_end ?_
 refine t_cond rfl (fun h1 => ?_) (fun h1 => ?_)
 ·
  have h1' := of_decide_eq_false (bnt h1)
  refine tsr ?_
  refine r_op oA ?_
  refine r_end ?_
  refine t_ret Tryz.func19 (.tmp rfl .nil) rfl fun E S w u hI hd => ?_
  refine post_mk hI hd ?_ trivial rfl rfl rfl <;> clear hI hd
  all_goals (simp_all)
 ·
  have h1' := of_decide_eq_true (bnf h1)
  refine t_skip ?_
  refine t_seq ?_
  refine tsr ?_
  refine r_op (oF 1) ?_
  refine r_op oL ?_
  refine r_op (oF 1) ?_
  refine r_op oL ?_
  refine r_op (o_call 2 2 false (Go.Proofs.enters_of Tryz.func65 (by kernel_rfl) rfl) (c_laws_eqAtomS (a1) (b1) (by omega)) rfl (.cons rfl (.c .t0) (.cons rfl (.c .t0) .nil)) rfl rfl rfl) ?_
  refine r_op (o_not rfl rfl) ?_
  refine r_end ?_
  refine t_cond rfl (fun h2 => ?_) (fun h2 => ?_)
  ·
   have h2' := of_decide_eq_false (bnt h2)
   refine tsr ?_
   refine r_op oA ?_
   refine r_end ?_
   refine t_ret Tryz.func19 (.tmp rfl .nil) rfl fun E S w u hI hd => ?_
   refine post_mk hI hd ?_ trivial rfl rfl rfl <;> clear hI hd
   all_goals (simp_all)
  ·
   have h2' := of_decide_eq_true (bnf h2)
   refine t_skip ?_
   refine t_seq ?_
   refine tsr ?_
   refine r_op (oF 2) ?_
   refine r_op oL ?_
   refine r_op (oF 2) ?_
   refine r_op oL ?_
   refine r_op (o_neB rfl Tryz.underlying4 rfl rfl) ?_
   refine r_end ?_
   refine t_cond rfl (fun h3 => ?_) (fun h3 => ?_)
   ·
    have h3' := h3
    refine tsr ?_
    refine r_op oA ?_
    refine r_end ?_
    refine t_ret Tryz.func19 (.tmp rfl .nil) rfl fun E S w u hI hd => ?_
    refine post_mk hI hd ?_ trivial rfl rfl rfl <;> clear hI hd
    all_goals (simp_all)
   ·
    have h3' := h3
    refine t_skip ?_
    refine t_seq ?_
    refine tsr ?_
    refine r_op (oF 3) ?_
    refine r_op oL ?_
    refine r_op (oF 3) ?_
    refine r_op oL ?_
    refine r_op oB ?_
    refine r_end ?_
    refine t_cond rfl (fun h4 => ?_) (fun h4 => ?_)
    ·
     have h4' := of_decide_eq_true h4
     refine tsr ?_
     refine r_op oA ?_
     refine r_end ?_
     refine t_ret Tryz.func19 (.tmp rfl .nil) rfl fun E S w u hI hd => ?_
     refine post_mk hI hd ?_ trivial rfl rfl rfl <;> clear hI hd
     all_goals (simp_all)
    ·
     have h4' := of_decide_eq_false h4
     refine t_skip ?_
     refine t_seq ?_
     refine tsr ?_
     refine r_op (oF 4) ?_
     refine r_op oL ?_
     refine r_op (oF 4) ?_
     refine r_op oL ?_
     refine r_op oB ?_
     refine r_end ?_
     refine t_cond rfl (fun h5 => ?_) (fun h5 => ?_)
     ·
      have h5' := of_decide_eq_true h5
      refine tsr ?_
      refine r_op oA ?_
      refine r_end ?_
      refine t_ret Tryz.func19 (.tmp rfl .nil) rfl fun E S w u hI hd => ?_
      refine post_mk hI hd ?_ trivial rfl rfl rfl <;> clear hI hd
      all_goals (simp_all)
     ·
      have h5' := of_decide_eq_false h5
      refine t_skip ?_
      refine tsr ?_
      refine r_op oA ?_
      refine r_end ?_
      refine t_ret Tryz.func19 (.tmp rfl .nil) rfl fun E S w u hI hd => ?_
      refine post_mk hI hd ?_ trivial rfl rfl rfl <;> clear hI hd
      all_goals (simp_all)
set_option maxHeartbeats 1000000 in
set_option maxRecDepth 10000 in
theorem c_laws_eqDependencyS (a b : List ((List (Int × (List (Int)))) × (List (Int × (List (Int)))) × Bool × Int × Int)) (hs : szS (fun (x : (List (Int × (List (Int)))) × (List (Int × (List (Int)))) × Bool × Int × Int) => (szS (fun (x : Int × (List (Int))) => (x.2).length) (x.1)) + (szS (fun (x : Int × (List (Int))) => (x.2).length) (x.2.1))) a ≤ 1048576) : Pu Tryz.prog 13 [.c (.t none (.sl 5 (enS5 (enSl 2 (enS2 encI (enSl 1 encI))) (enSl 2 (enS2 encI (enSl 1 encI))) encB encI encI) (a))), .c (.t none (.sl 5 (enS5 (enSl 2 (enS2 encI (enSl 1 encI))) (enSl 2 (enS2 encI (enSl 1 encI))) encB encI encI) (b)))] [] 0 (.c (.t none (.v (.bool (decide (a = b)))))) := by
 refine pu_enter Tryz.func13 rfl (Nat.le_of_ble_eq_true rfl) fun w S => ?_
 have gl := sz_len (f := (fun (x : (List (Int × (List (Int)))) × (List (Int × (List (Int)))) × Bool × Int × Int) => (szS (fun (x : Int × (List (Int))) => (x.2).length) (x.1)) + (szS (fun (x : Int × (List (Int))) => (x.2).length) (x.2.1)))) (l := a)
 refine tsr ?_
 refine r_op oA ?_
 refine r_end ?_
 refine t_seq ?_
 refine tsr ?_
 refine r_op oM ?_
 refine r_op (o_len rfl rfl rfl) ?_
 refine r_op oM ?_
 refine r_op (o_len rfl rfl rfl) ?_
 refine r_op oB ?_
 refine r_end ?_
 refine t_cond rfl (fun h1 => ?_) (fun h1 => ?_)
 ·
  have h1' := of_decide_eq_true h1
  refine tsr ?_
  refine r_op oA ?_
  refine r_end ?_
  refine t_ret Tryz.func13 (.tmp rfl .nil) rfl fun E S w u hI hd => ?_
  refine post_mk hI hd ?_ trivial rfl rfl rfl <;> clear hI hd <;> (try clear ih0)
  all_goals ((have : a ≠ b := by rintro rfl; simp at *); simp [this])
 ·
  have h1' := of_decide_eq_false h1
  refine t_skip ?_
  refine t_seq ?_
  refine tsr ?_
  refine r_op oA ?_
  refine r_end ?_
  refine t_block ?_
  refine t_loopL (fun m => ⟨[(0, some (.c (.t none (.sl 5 (enS5 (enSl 2 (enS2 encI (enSl 1 encI))) (enSl 2 (enS2 encI (enSl 1 encI))) encB encI encI) (a))))), (1, some (.c (.t none (.sl 5 (enS5 (enSl 2 (enS2 encI (enSl 1 encI))) (enSl 2 (enS2 encI (enSl 1 encI))) encB encI encI) (b))))), (5, some (.c (.t none (.v (.int .i64 ((m : Int)))))))], [], 0⟩ : Nat → St) (fun m => m ≤ a.length ∧ a.length = b.length ∧ a.take m = b.take m) (fun m => a.length - m) 0 ⟨⟨rfl, ⟨rfl, ⟨rfl, trivial⟩⟩⟩, trivial, rfl⟩ (by exact ⟨Nat.zero_le _, by omega, rfl⟩) ?_
  rintro m hI ih0
  try dsimp only at hI ih0
  obtain ⟨i1, i2, i3⟩ := hI
  refine t_seq ?_
  refine tsr ?_
  refine r_op oM ?_
  refine r_op oM ?_
  refine r_op (o_len rfl rfl rfl) ?_
  refine r_op oB ?_
  refine r_end ?_
  refine t_cond rfl (fun h2 => ?_) (fun h2 => ?_)
  ·
   have h2' := of_decide_eq_true h2
   refine t_skip ?_
   refine t_seq ?_
   refine t_block ?_
   refine t_seq ?_
   refine t_draw (fun _ => true) (by kernel_rfl) ?_
   refine dT 0 rfl pM ?_
   refine dT 1 rfl pM ?_
   obtain ⟨z3, hz4, b5⟩ := at_get (xs := a) (n := (m : Int)) (by omega) (by omega)
   refine dT 2 rfl (p_index (by kernel_rfl) rfl rfl b5 hz4) ?_
   refine dT 3 rfl (p_loadA (n := 5) (by kernel_rfl) (by kernel_rfl) rfl rfl) ?_
   refine dT 4 rfl pM ?_
   refine dT 5 rfl pM ?_
   obtain ⟨z6, hz7, b8⟩ := at_get (xs := b) (n := (m : Int)) (by omega) (by omega)
   refine dT 6 rfl (p_index (by kernel_rfl) rfl rfl b8 hz7) ?_
   refine dT 7 rfl (p_loadA (n := 5) (by kernel_rfl) (by kernel_rfl) rfl rfl) ?_
   refine dO 8 rfl (o_call 0 0 false (Go.Proofs.enters_of Tryz.func19 (by kernel_rfl) rfl) (c_laws_eqDependency (z3.1) (z3.2.1) (z3.2.2.1) (z3.2.2.2.1) (z3.2.2.2.2) (z6.1) (z6.2.1) (z6.2.2.1) (z6.2.2.2.1) (z6.2.2.2.2) (by (have e1 := sz_at (f := (fun (x : (List (Int × (List (Int)))) × (List (Int × (List (Int)))) × Bool × Int × Int) => (szS (fun (x : Int × (List (Int))) => (x.2).length) (x.1)) + (szS (fun (x : Int × (List (Int))) => (x.2).length) (x.2.1)))) (l := a) (m := m) (by assumption); (try dsimp only at e1); omega))) rfl (.cons rfl (.agg (.cons .t0 (.cons .t0 (.cons .t0 (.cons .t0 (.cons .t0 .nil)))))) (.cons rfl (.agg (.cons .t0 (.cons .t0 (.cons .t0 (.cons .t0 (.cons .t0 .nil)))))) .nil)) rfl rfl rfl) ?_
   refine dT 9 rfl (p_not rfl) ?_
   refine d_end (by kernel_rfl) ?_
   refine t_cond rfl (fun h9 => ?_) (fun h9 => ?_)
   ·
    have h9' := of_decide_eq_false (bnt h9)
    refine tsr ?_
    refine r_op oA ?_
    refine r_end ?_
    refine t_ret Tryz.func13 (.tmp rfl .nil) rfl fun E S w u hI hd => ?_
    refine post_mk hI hd ?_ trivial rfl rfl rfl <;> clear hI hd <;> (try clear ih0)
    all_goals (have := ne_at (a := a) (b := b) (by assumption) (by assumption) (by assumption); simp_all)
   ·
    have h9' := of_decide_eq_true (bnf h9)
    refine t_skip ?_
    refine t_endblock ?_
    refine t_region ?_
    refine r_op oM ?_
    refine r_op oB ?_
    refine r_op oA ?_
    refine r_end ?_
    refine t_le ?_ (ih0 (m + 1) (by (try dsimp only); omega) (by (try dsimp only); exact ⟨by omega, i2, take_same i3 (same_at (by assumption) (by assumption) (by assumption))⟩))
    exact ⟨⟨rfl, ⟨rfl, ⟨(eqI (wrS (by omega))), trivial⟩⟩⟩, trivial, rfl⟩
  ·
   have h2' := of_decide_eq_false h2
   refine t_exit rfl ?_
   refine tsr ?_
   refine r_op oA ?_
   refine r_end ?_
   refine t_ret Tryz.func13 (.tmp rfl .nil) rfl fun E S w u hI hd => ?_
   refine post_mk hI hd ?_ trivial rfl rfl rfl <;> clear hI hd <;> (try clear ih0)
   all_goals ((obtain rfl : m = a.length := by omega); rw [List.take_length, i2, List.take_length] at i3; simp [i3])
set_option maxHeartbeats 1000000 in
set_option maxRecDepth 10000 in
theorem c_laws_FnExactIsSolution (rs : Rels) (fs : Atoms) (rs2 : Rels) (fs2 : Atoms) (ds : List Dep) (h0 : (okL (fun (x : List UInt8 × Int × Bool) => okS (x.1) ∧ okI (x.2.1) ∧ okB (x.2.2))) rs) (h1 : (okL (fun (x : Int × (List (Int))) => okI (x.1) ∧ (okL okI) (x.2))) fs) (k0 : (okL (fun (x : List UInt8 × Int × Bool) => okS (x.1) ∧ okI (x.2.1) ∧ okB (x.2.2))) rs2) (k1 : (okL (fun (x : Int × (List (Int))) => okI (x.1) ∧ (okL okI) (x.2))) fs2) (h2 : (okL (fun (x : (List (Int × (List (Int)))) × (List (Int × (List (Int)))) × Bool × Int × Int) => (okL (fun (x : Int × (List (Int))) => okI (x.1) ∧ (okL okI) (x.2))) (x.1) ∧ (okL (fun (x : Int × (List (Int))) => okI (x.1) ∧ (okL okI) (x.2))) (x.2.1) ∧ okB (x.2.2.1) ∧ okI (x.2.2.2.1) ∧ okI (x.2.2.2.2))) ds) : Pu Tryz.prog 3 [.agg [.t none (.sl 3 (enS3 encS encI encB) (rs)), .t none (.sl 2 (enS2 encI (enSl 1 encI)) (fs))], .agg [.t none (.sl 3 (enS3 encS encI encB) (rs2)), .t none (.sl 2 (enS2 encI (enSl 1 encI)) (fs2))], .c (.t none (.sl 5 (enS5 (enSl 2 (enS2 encI (enSl 1 encI))) (enSl 2 (enS2 encI (enSl 1 encI))) encB encI encI) (ds)))] [] 0 (.c (.t none (.v (.bool (true))))) := by
 refine pu_enter Tryz.func3 rfl (Nat.le_of_ble_eq_true rfl) fun w S => ?_
 have g0 := h0.1; have g1 := h1.1; have g2 := h2.1; have gr := sz_len (f := (fun (x : List UInt8 × Int × Bool) => (x.1).length)) (l := rs); have j0 := k0.1; have j1 := k1.1; have jr := sz_len (f := (fun (x : List UInt8 × Int × Bool) => (x.1).length)) (l := rs2); have gd : (ds.map ctD).sum ≤ 3 * szS (fun (x : (List (Int × (List (Int)))) × (List (Int × (List (Int)))) × Bool × Int × Int) => (szS (fun (x : Int × (List (Int))) => (x.2).length) (x.1)) + (szS (fun (x : Int × (List (Int))) => (x.2).length) (x.2.1))) ds := ctD_sum ds; have ho2 : ∀ z ∈ fs2, ∀ x ∈ z.2, okI x := fun z hz x hx => ((k1.2 z hz).2).2 x hx; have ho : ∀ z ∈ fs, ∀ x ∈ z.2, okI x := fun z hz x hx => ((h1.2 z hz).2).2 x hx; have hod : ∀ d ∈ ds, ∀ z ∈ d.1, ∀ x ∈ z.2, okI x := fun d hd z hz x hx => (((h2.2 d hd).1.2 z hz).2).2 x hx
 refine tsr ?_
 refine r_op (o_box 0 rfl rfl rfl rfl) ?_
 refine r_op (o_box 1 rfl rfl rfl rfl) ?_
 refine r_op oA ?_
 refine etr ?_
 refine r_op oA ?_
 refine etr ?_
 refine r_op (oC 2) ?_
 refine r_op oM ?_
 refine r_op (o_call 2 2 false (Go.Proofs.enters_of Tryz.func6 (by kernel_rfl) rfl) (c_laws_szInstance (rs) (fs) (1048576) (by omega) (by omega) (by omega) (by omega)) rfl (.cons rfl (.agg (.cons .t0 (.cons .t0 .nil))) (.cons rfl (.c .t0) .nil)) rfl rfl rfl) ?_
 refine r_op oA ?_
 refine r_end ?_
 refine t_seq ?_
 refine tsr ?_
 refine r_op oM ?_
 refine r_op oB ?_
 refine r_end ?_
 refine t_cond rfl (fun h1 => ?_) (fun h1 => ?_)
 ·
  have h1' := of_decide_eq_true h1
  refine tsr ?_
  refine r_op oA ?_
  refine r_end ?_
  refine t_ret Tryz.func3 (.tmp rfl .nil) rfl fun E S w u hI hd => ?_
  refine post_mk hI hd ?_ trivial rfl rfl rfl <;> clear hI hd
  all_goals (rfl)
 ·
  have h1' := of_decide_eq_false h1
  refine t_skip ?_
  refine tsr ?_
  refine r_op (oC 2) ?_
  refine r_op oM ?_
  refine r_op (o_call 2 2 false (Go.Proofs.enters_of Tryz.func6 (by kernel_rfl) rfl) (c_laws_szInstance (rs2) (fs2) (if (1048576) - (((szS (fun (x : List UInt8 × Int × Bool) => (x.1).length) ((rs))) + (szS (fun (x : Int × (List (Int))) => (x.2).length) ((fs))) : Nat) : Int) < 0 then -1 else (1048576) - (((szS (fun (x : List UInt8 × Int × Bool) => (x.1).length) ((rs))) + (szS (fun (x : Int × (List (Int))) => (x.2).length) ((fs))) : Nat) : Int)) (by omega) (by omega) (by omega) (by omega)) rfl (.cons rfl (.agg (.cons .t0 (.cons .t0 .nil))) (.cons rfl (.c .t0) .nil)) rfl rfl rfl) ?_
  refine r_op oA ?_
  refine r_end ?_
  refine t_seq ?_
  refine tsr ?_
  refine r_op oM ?_
  refine r_op oB ?_
  refine r_end ?_
  refine t_cond rfl (fun h2 => ?_) (fun h2 => ?_)
  ·
   have h2' := of_decide_eq_true h2
   refine tsr ?_
   refine r_op oA ?_
   refine r_end ?_
   refine t_ret Tryz.func3 (.tmp rfl .nil) rfl fun E S w u hI hd => ?_
   refine post_mk hI hd ?_ trivial rfl rfl rfl <;> clear hI hd
   all_goals (rfl)
  ·
   have h2' := of_decide_eq_false h2
   refine t_skip ?_
   refine tsr ?_
   refine r_op oM ?_
   refine r_op oM ?_
   refine r_op (o_call 2 2 false (Go.Proofs.enters_of Tryz.func7 (by kernel_rfl) rfl) (c_laws_szDependencyS (ds) (if (if (1048576) - (((szS (fun (x : List UInt8 × Int × Bool) => (x.1).length) ((rs))) + (szS (fun (x : Int × (List (Int))) => (x.2).length) ((fs))) : Nat) : Int) < 0 then -1 else (1048576) - (((szS (fun (x : List UInt8 × Int × Bool) => (x.1).length) ((rs))) + (szS (fun (x : Int × (List (Int))) => (x.2).length) ((fs))) : Nat) : Int)) - (((szS (fun (x : List UInt8 × Int × Bool) => (x.1).length) ((rs2))) + (szS (fun (x : Int × (List (Int))) => (x.2).length) ((fs2))) : Nat) : Int) < 0 then -1 else (if (1048576) - (((szS (fun (x : List UInt8 × Int × Bool) => (x.1).length) ((rs))) + (szS (fun (x : Int × (List (Int))) => (x.2).length) ((fs))) : Nat) : Int) < 0 then -1 else (1048576) - (((szS (fun (x : List UInt8 × Int × Bool) => (x.1).length) ((rs))) + (szS (fun (x : Int × (List (Int))) => (x.2).length) ((fs))) : Nat) : Int)) - (((szS (fun (x : List UInt8 × Int × Bool) => (x.1).length) ((rs2))) + (szS (fun (x : Int × (List (Int))) => (x.2).length) ((fs2))) : Nat) : Int)) (by omega) (by omega) (by omega)) rfl (.cons rfl (.c .t0) (.cons rfl (.c .t0) .nil)) rfl rfl rfl) ?_
   refine r_op oA ?_
   refine r_end ?_
   refine t_seq ?_
   refine tsr ?_
   refine r_op oM ?_
   refine r_op oB ?_
   refine r_end ?_
   refine t_cond rfl (fun h3 => ?_) (fun h3 => ?_)
   ·
    have h3' := of_decide_eq_true h3
    refine tsr ?_
    refine r_op oA ?_
    refine r_end ?_
    refine t_ret Tryz.func3 (.tmp rfl .nil) rfl fun E S w u hI hd => ?_
    refine post_mk hI hd ?_ trivial rfl rfl rfl <;> clear hI hd
    all_goals (rfl)
   ·
    have h3' := of_decide_eq_false h3
    refine t_skip ?_
    refine t_seq ?_
    refine t_draw (fun _ => true) (by kernel_rfl) ?_
    refine dT 0 rfl (pC 2) ?_
    refine dT 2 rfl (pC 2) ?_
    refine dT 4 rfl pM ?_
    refine dO 1 rfl (o_call 2 7 false (Go.Proofs.enters_of Tryz.func9 (by kernel_rfl) rfl) (c_laws_toInstance (rs) (fs) (by omega)) rfl (.cons rfl (.agg (.cons .t0 (.cons .t0 .nil))) .nil) rfl rfl rfl) ?_
    refine dO 3 rfl (o_call 7 12 false (Go.Proofs.enters_of Tryz.func9 (by kernel_rfl) rfl) (c_laws_toInstance (rs2) (fs2) (by omega)) rfl (.cons rfl (.agg (.cons .t0 (.cons .t0 .nil))) .nil) rfl rfl rfl) ?_
    refine dO 5 rfl (o_call 12 13 false (Go.Proofs.enters_of Tryz.func10 (by kernel_rfl) rfl) (c_laws_toDependencyS (ds) (by omega)) rfl (.cons rfl (.c .t0) .nil) rfl rfl rfl) ?_
    refine dO 6 rfl (o_call 13 13 false (Go.Proofs.enters_of Tryz.func8 (by kernel_rfl) rfl) (c_spec_IsSolution ((rs)) ((fs)) ((rs2)) ((fs2)) ((ds)) (by omega) (by omega) (by omega) (by omega) (by omega) (by omega) (by omega) (by omega)) rfl (.cons rfl (.agg (.cons (.own rfl) (.cons (.own rfl) .nil))) (.cons rfl (.agg (.cons (.own rfl) (.cons (.own rfl) .nil))) (.cons rfl (.c (.own rfl)) .nil))) rfl rfl rfl) ?_
    refine dT 7 rfl pA ?_
    refine d_end (by kernel_rfl) ?_
    refine tsr ?_
    refine r_op (oC 2) ?_
    refine r_op (o_call 13 18 false (Go.Proofs.enters_of Tryz.func9 (by kernel_rfl) rfl) (c_laws_toInstance (rs) (fs) (by omega)) rfl (.cons rfl (.agg (.cons .t0 (.cons .t0 .nil))) .nil) rfl rfl rfl) ?_
    refine r_op (o_alloc 18 (zs := [.slice none 0 0, .slice none 0 0]) rfl rfl (by kernel_rfl) rfl) ?_
    refine r_op (oS 2) ?_
    refine etr ?_
    refine r_op (oC 2) ?_
    refine r_op (o_call 19 24 false (Go.Proofs.enters_of Tryz.func9 (by kernel_rfl) rfl) (c_laws_toInstance (rs2) (fs2) (by omega)) rfl (.cons rfl (.agg (.cons .t0 (.cons .t0 .nil))) .nil) rfl rfl rfl) ?_
    refine r_op (o_alloc 24 (zs := [.slice none 0 0, .slice none 0 0]) rfl rfl (by kernel_rfl) rfl) ?_
    refine r_op (oS 2) ?_
    refine etr ?_
    refine r_op oM ?_
    refine r_op (o_call 25 26 false (Go.Proofs.enters_of Tryz.func10 (by kernel_rfl) rfl) (c_laws_toDependencyS (ds) (by omega)) rfl (.cons rfl (.c .t0) .nil) rfl rfl rfl) ?_
    refine r_op oA ?_
    refine etr ?_
    refine r_op (oC 2) ?_
    refine r_op (oC 2) ?_
    refine r_op oM ?_
    refine r_op (o_call 26 26 false (Go.Proofs.enters_of Tryz.func11 (by kernel_rfl) rfl) (c_impl_IsSolution ((rs)) ((fs)) ((rs2)) ((fs2)) ((ds)) (by omega) (by omega) (by omega) (by omega) (by omega) (by omega) (by omega) (by omega)) rfl (.cons rfl (.agg (.cons (.own rfl) (.cons (.own rfl) .nil))) (.cons rfl (.agg (.cons (.own rfl) (.cons (.own rfl) .nil))) (.cons rfl (.c (.own rfl)) .nil))) rfl rfl rfl) ?_
    refine r_op oA ?_
    refine r_end ?_
    refine t_seq ?_
    refine tsr ?_
    refine r_op oM ?_
    refine r_op oM ?_
    refine r_op (o_neB rfl Tryz.underlying4 rfl rfl) ?_
    refine r_end ?_
    refine t_cond rfl (fun h4 => ?_) (fun h4 => ?_)
    ·
     have h4' := h4
     refine tsr ?_
     refine r_op oA ?_
     refine r_end ?_
     refine t_ret Tryz.func3 (.tmp rfl .nil) rfl fun E S w u hI hd => ?_
     refine post_mk hI hd ?_ trivial rfl rfl rfl <;> clear hI hd
     all_goals (exfalso; (simp at *; done))
    ·
     have h4' := h4
     refine t_skip ?_
     refine t_seq ?_
     refine t_seq ?_
     refine t_draw (fun _ => true) (by kernel_rfl) ?_
     refine dT 0 rfl (pC 2) ?_
     refine dT 1 rfl (pC 2) ?_
     refine dO 2 rfl (o_call 26 31 false (Go.Proofs.enters_of Tryz.func9 (by kernel_rfl) rfl) (c_laws_toInstance (rs) (fs) (by omega)) rfl (.cons rfl (.agg (.cons .t0 (.cons .t0 .nil))) .nil) rfl rfl rfl) ?_
     refine dO 3 rfl (o_call 31 31 false (Go.Proofs.enters_of Tryz.func12 (by kernel_rfl) rfl) (c_laws_eqInstance ((rs)) ((fs)) ((rs)) ((fs)) (by omega)) rfl (.cons rfl (.agg (.cons (.own rfl) (.cons (.own rfl) .nil))) (.cons rfl (.agg (.cons (.own rfl) (.cons (.own rfl) .nil))) .nil)) rfl rfl rfl) ?_
     refine dT 4 rfl (p_not rfl) ?_
     refine d_end (by kernel_rfl) ?_
     refine t_cond rfl (fun h5 => ?_) (fun h5 => ?_)
     ·
      have h5' := of_decide_eq_false (bnt h5)
      refine tsr ?_
      refine r_op oA ?_
      refine r_end ?_
      refine t_ret Tryz.func3 (.tmp rfl .nil) rfl fun E S w u hI hd => ?_
      refine post_mk hI hd ?_ trivial rfl rfl rfl <;> clear hI hd
      all_goals (exfalso; (simp at *; done))
     ·
      have h5' := of_decide_eq_true (bnf h5)
      refine t_skip ?_
      refine t_seq ?_
      refine t_seq ?_
      refine t_draw (fun _ => true) (by kernel_rfl) ?_
      refine dT 0 rfl (pC 2) ?_
      refine dT 1 rfl (pC 2) ?_
      refine dO 2 rfl (o_call 31 36 false (Go.Proofs.enters_of Tryz.func9 (by kernel_rfl) rfl) (c_laws_toInstance (rs2) (fs2) (by omega)) rfl (.cons rfl (.agg (.cons .t0 (.cons .t0 .nil))) .nil) rfl rfl rfl) ?_
      refine dO 3 rfl (o_call 36 36 false (Go.Proofs.enters_of Tryz.func12 (by kernel_rfl) rfl) (c_laws_eqInstance ((rs2)) ((fs2)) ((rs2)) ((fs2)) (by omega)) rfl (.cons rfl (.agg (.cons (.own rfl) (.cons (.own rfl) .nil))) (.cons rfl (.agg (.cons (.own rfl) (.cons (.own rfl) .nil))) .nil)) rfl rfl rfl) ?_
      refine dT 4 rfl (p_not rfl) ?_
      refine d_end (by kernel_rfl) ?_
      refine t_cond rfl (fun h6 => ?_) (fun h6 => ?_)
      ·
       have h6' := of_decide_eq_false (bnt h6)
       refine tsr ?_
       refine r_op oA ?_
       refine r_end ?_
       refine t_ret Tryz.func3 (.tmp rfl .nil) rfl fun E S w u hI hd => ?_
       refine post_mk hI hd ?_ trivial rfl rfl rfl <;> clear hI hd
       all_goals (exfalso; (simp at *; done))
      ·
       have h6' := of_decide_eq_true (bnf h6)
       refine t_skip ?_
       refine t_seq ?_
       refine tsr ?_
       refine r_op oM ?_
       refine r_op oM ?_
       refine r_op (o_call 36 37 false (Go.Proofs.enters_of Tryz.func10 (by kernel_rfl) rfl) (c_laws_toDependencyS (ds) (by omega)) rfl (.cons rfl (.c .t0) .nil) rfl rfl rfl) ?_
       refine r_op (o_call 37 37 false (Go.Proofs.enters_of Tryz.func13 (by kernel_rfl) rfl) (c_laws_eqDependencyS ((ds)) ((ds)) (by omega)) rfl (.cons rfl (.c (.own rfl)) (.cons rfl (.c (.own rfl)) .nil)) rfl rfl rfl) ?_
       refine r_op (o_not rfl rfl) ?_
       refine r_end ?_
       refine t_cond rfl (fun h7 => ?_) (fun h7 => ?_)
       ·
        have h7' := of_decide_eq_false (bnt h7)
        refine tsr ?_
        refine r_op oA ?_
        refine r_end ?_
        refine t_ret Tryz.func3 (.tmp rfl .nil) rfl fun E S w u hI hd => ?_
        refine post_mk hI hd ?_ trivial rfl rfl rfl <;> clear hI hd
        all_goals (exfalso; (simp at *; done))
       ·
        have h7' := of_decide_eq_true (bnf h7)
        refine t_skip ?_
        refine tsr ?_
        refine r_op oA ?_
        refine r_end ?_
        refine t_ret Tryz.func3 (.tmp rfl .nil) rfl fun E S w u hI hd => ?_
        refine post_mk hI hd ?_ trivial rfl rfl rfl <;> clear hI hd
        all_goals (rfl)
end Go.Eng
