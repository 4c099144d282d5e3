/- What the functions that FnExactPositionGraph reaches answer. -/
import Derived.Test.YtoogciieclonfaaFnsFnExactPositionGraphp1
import Derived.Test.YtoogciieclonfaaEngJ
import Derived.Test.YtoogciieclonfaaChecked
set_option linter.unusedVariables false
set_option linter.unusedSimpArgs false
namespace Go.Eng
open Go Go.RowKit Go.Proofs
set_option maxHeartbeats 1000000 in
set_option maxRecDepth 10000 in
theorem c_laws_markDependencyS (U : Nat → Value) (e0 : Nat) (l : List Dep) (k : Int) (hk : 0 < k) (hkl : k + (((l.map ctD).sum : Nat) : Int) < 4611686018427387904) : Mu Try.prog 26 [.c (.own 0), .c (.t none (.v (.int .i64 (k))))] [(0, some (.row (some (U 0)) e0 true 5 (enS5 (enSl 2 (enS2 encI (enSl 1 encI))) (enSl 2 (enS2 encI (enSl 1 encI))) encB encI encI) (l)))] 1 [(0, some (.row (some (U 0)) e0 true 5 (enS5 (enSl 2 (enS2 encI (enSl 1 encI))) (enSl 2 (enS2 encI (enSl 1 encI))) encB encI encI) (markDS k l)))] 1 (.c (.t none (.v (.int .i64 (k + (((l.map ctD).sum : Nat) : Int)))))) := by
  refine mu_enter Try.func26 rfl (Nat.le_of_ble_eq_true rfl) fun w S M => ?_
  refine t_seq ?_
  refine t_region ?_
  refine r_op (o_assign rfl rfl) ?_
  refine r_end ?_
  refine t_seq ?_
  refine t_seq ?_
  refine t_region ?_
  refine r_op (o_assign rfl rfl) ?_
  refine r_end ?_
  refine t_block ?_
  refine t_loopL (fun m => ⟨[(0, some (.c (.own 0))), (1, some (.c (.t none (.v (.int .i64 (k + ((szT ctD l m : Nat) : Int))))))), (4, some (.c (.t none (.v (.int .i64 (0)))))), (5, some (.c (.t none (.v (.int .i64 ((m : Int)))))))], [(0, some (.row (some (U 0)) e0 true 5 (enS5 (enSl 2 (enS2 encI (enSl 1 encI))) (enSl 2 (enS2 encI (enSl 1 encI))) encB encI encI) (mkL markD ctD k (l.take m) ++ l.drop m)))], 1⟩ : Nat → St) (fun m => m ≤ l.length) (fun m => l.length - m) 0 ⟨⟨rfl, ⟨(eqI (by simp [szT_zero])), ⟨rfl, ⟨rfl, trivial⟩⟩⟩⟩, ⟨(eqR (by simp [mkL])), trivial⟩, rfl⟩ (by simp) ?_
  rintro m hI ih0
  try dsimp only at hI ih0
  have i1 := hI; have hls := sz_len (f := ctD) (l := l); have hlu : szS ctD l = l.length + (l.map ctD).sum := rfl; have hlm : l.length ≤ (l.map ctD).sum := (by have := ct3_sum l; have := ctD_ge l; omega); have hlen : (mkL markD ctD k (l.take m) ++ l.drop m).length = l.length := (by simp [mkL_length]; omega)
  refine t_seq ?_
  refine t_seq ?_
  refine t_region ?_
  refine r_op (o_move rfl rfl) ?_
  refine r_op (o_move rfl rfl) ?_
  refine r_op (o_leno rfl rfl rfl rfl) ?_
  refine r_op (o_bin rfl rfl rfl rfl) ?_
  refine r_end ?_
  refine t_cond rfl (fun h1 => ?_) (fun h1 => ?_)
  ·
    have h1' := of_decide_eq_true h1
    refine t_skip ?_
    refine t_seq ?_
    refine t_block ?_
    refine t_seq ?_
    refine t_region ?_
    refine r_op (o_move rfl rfl) ?_
    refine r_op (o_move rfl rfl) ?_
    obtain ⟨z2, hz3, b4⟩ := at_get (xs := mkL markD ctD k (l.take m) ++ l.drop m) (n := (m : Int)) (by omega) (by omega)
    refine r_op (o_indexo rfl (by kernel_rfl) rfl rfl rfl b4 (at_lt b4 hz3)) ?_
    refine r_op (o_fieldo rfl (off := 0) (by kernel_rfl) rfl) ?_
    refine r_op (o_loadc rfl (by kernel_rfl) rfl rfl rfl hz3) ?_
    refine r_op (o_move rfl rfl) ?_
    refine r_op (o_callK 0 (((m : Int)).toNat) 5 0 ((markATS (k + ((szT ctD l m : Nat) : Int)) (z2.1), z2.2.1, z2.2.2.1, z2.2.2.2.1, z2.2.2.2.2)) (Go.Proofs.enters_of Try.func61 (by kernel_rfl) rfl) (fun e' U => c_laws_markAtomS U e' (z2.1) (k + ((szT ctD l m : Nat) : Int)) (by omega) (by (have c1 := szT_step (f := ctD) (mkL_at (by assumption) i1); have c2 := szT_sum (f := ctD) (l := l) (m + 1); simp only [ctD] at c1; omega))) rfl rfl hz3 rfl rfl rfl (fun j h1 h2 => by (have : j = 0 ∨ j = 1 ∨ j = 2 ∨ j = 3 ∨ j = 4 := by omega); rcases this with rfl | rfl | rfl | rfl | rfl <;> first | rfl | omega) (.cons rfl .cel (.cons rfl .t0 .nil)) rfl) ?_
    refine r_op (o_assign rfl rfl) ?_
    refine r_end ?_
    refine t_seq ?_
    refine t_region ?_
    refine r_op (o_move rfl rfl) ?_
    refine r_op (o_move rfl rfl) ?_
    obtain ⟨z5, hz6, b7⟩ := at_get (xs := (mkL markD ctD k (l.take m) ++ l.drop m).set (((m : Int)).toNat) ((markATS (k + ((szT ctD l m : Nat) : Int)) (z2.1), z2.2.1, z2.2.2.1, z2.2.2.2.1, z2.2.2.2.2))) (n := (m : Int)) (by omega) (by (simp only [List.length_set]; omega))
    refine r_op (o_indexo rfl (by kernel_rfl) rfl rfl rfl b7 (at_lt b7 hz6)) ?_
    refine r_op (o_fieldo rfl (off := 1) (by kernel_rfl) rfl) ?_
    refine r_op (o_loadc rfl (by kernel_rfl) rfl rfl rfl hz6) ?_
    refine r_op (o_move rfl rfl) ?_
    refine r_op (o_callK 0 (((m : Int)).toNat) 5 1 ((z5.1, markATS ((k + ((szT ctD l m : Nat) : Int)) + ((szS (fun (x : Int × (List (Int))) => (x.2).length) (z2.1) : Nat) : Int)) (z5.2.1), z5.2.2.1, z5.2.2.2.1, z5.2.2.2.2)) (Go.Proofs.enters_of Try.func61 (by kernel_rfl) rfl) (fun e' U => c_laws_markAtomS U e' (z5.2.1) ((k + ((szT ctD l m : Nat) : Int)) + ((szS (fun (x : Int × (List (Int))) => (x.2).length) (z2.1) : Nat) : Int)) (by omega) (by (have c1 := szT_step (f := ctD) (mkL_at hz3 i1); have c2 := szT_sum (f := ctD) (l := l) (m + 1); simp only [ctD] at c1; have c3 := set_at hz6; subst c3; (try dsimp only); omega))) rfl rfl hz6 rfl rfl rfl (fun j h1 h2 => by (have : j = 0 ∨ j = 1 ∨ j = 2 ∨ j = 3 ∨ j = 4 := by omega); rcases this with rfl | rfl | rfl | rfl | rfl <;> first | rfl | omega) (.cons rfl .cel (.cons rfl .t0 .nil)) rfl) ?_
    refine r_op (o_assign rfl rfl) ?_
    refine r_end ?_
    refine t_seq ?_
    refine t_region ?_
    refine r_op (o_move rfl rfl) ?_
    refine r_op (o_move rfl rfl) ?_
    refine r_op (o_move rfl rfl) ?_
    refine r_op (o_binD rfl rfl rfl (rfl)) ?_
    refine r_op (o_bin rfl rfl rfl rfl) ?_
    obtain ⟨z8, hz9, b10⟩ := at_get (xs := ((mkL markD ctD k (l.take m) ++ l.drop m).set (((m : Int)).toNat) ((markATS (k + ((szT ctD l m : Nat) : Int)) (z2.1), z2.2.1, z2.2.2.1, z2.2.2.2.1, z2.2.2.2.2))).set (((m : Int)).toNat) ((z5.1, markATS ((k + ((szT ctD l m : Nat) : Int)) + ((szS (fun (x : Int × (List (Int))) => (x.2).length) (z2.1) : Nat) : Int)) (z5.2.1), z5.2.2.1, z5.2.2.2.1, z5.2.2.2.2))) (n := (m : Int)) (by omega) (by (simp only [List.length_set]; omega))
    refine r_op (o_indexo rfl (by kernel_rfl) rfl rfl rfl b10 (at_lt b10 hz9)) ?_
    refine r_op (o_fieldo rfl (off := 2) (by kernel_rfl) rfl) ?_
    refine r_op (o_storeo ((z8.1, z8.2.1, decide ((Int.tmod (((k + ((szT ctD l m : Nat) : Int)) + ((szS (fun (x : Int × (List (Int))) => (x.2).length) (z2.1) : Nat) : Int)) + ((szS (fun (x : Int × (List (Int))) => (x.2).length) (z5.2.1) : Nat) : Int)) 3) = 0), z8.2.2.2.1, z8.2.2.2.2)) (n := 1) (by kernel_rfl) rfl rfl hz9 rfl rfl rfl rfl (.cons .sc .nil) rfl (fun j h1 h2 => by (have : j = 0 ∨ j = 1 ∨ j = 2 ∨ j = 3 ∨ j = 4 := by omega); rcases this with rfl | rfl | rfl | rfl | rfl <;> first | rfl | (simp at h2; done))) ?_
    refine r_end ?_
    refine t_seq ?_
    refine t_region ?_
    refine r_op (o_move rfl rfl) ?_
    refine r_op (o_bin rfl rfl rfl rfl) ?_
    refine r_op (o_assign rfl rfl) ?_
    refine r_end ?_
    refine t_seq ?_
    refine t_region ?_
    refine r_op (o_move rfl rfl) ?_
    refine r_op (o_move rfl rfl) ?_
    refine r_op (o_move rfl rfl) ?_
    obtain ⟨z11, hz12, b13⟩ := at_get (xs := (((mkL markD ctD k (l.take m) ++ l.drop m).set (((m : Int)).toNat) ((markATS (k + ((szT ctD l m : Nat) : Int)) (z2.1), z2.2.1, z2.2.2.1, z2.2.2.2.1, z2.2.2.2.2))).set (((m : Int)).toNat) ((z5.1, markATS ((k + ((szT ctD l m : Nat) : Int)) + ((szS (fun (x : Int × (List (Int))) => (x.2).length) (z2.1) : Nat) : Int)) (z5.2.1), z5.2.2.1, z5.2.2.2.1, z5.2.2.2.2))).set ((m : Int)).toNat ((z8.1, z8.2.1, decide ((Int.tmod (((k + ((szT ctD l m : Nat) : Int)) + ((szS (fun (x : Int × (List (Int))) => (x.2).length) (z2.1) : Nat) : Int)) + ((szS (fun (x : Int × (List (Int))) => (x.2).length) (z5.2.1) : Nat) : Int)) 3) = 0), z8.2.2.2.1, z8.2.2.2.2))) (n := (m : Int)) (by omega) (by (simp only [List.length_set]; omega))
    refine r_op (o_indexo rfl (by kernel_rfl) rfl rfl rfl b13 (at_lt b13 hz12)) ?_
    refine r_op (o_fieldo rfl (off := 3) (by kernel_rfl) rfl) ?_
    refine r_op (o_storeo ((z11.1, z11.2.1, z11.2.2.1, IntKind.i64.wrap (((k + ((szT ctD l m : Nat) : Int)) + ((szS (fun (x : Int × (List (Int))) => (x.2).length) (z2.1) : Nat) : Int)) + ((szS (fun (x : Int × (List (Int))) => (x.2).length) (z5.2.1) : Nat) : Int) + 1), z11.2.2.2.2)) (n := 1) (by kernel_rfl) rfl rfl hz12 rfl rfl rfl rfl (.cons .sc .nil) rfl (fun j h1 h2 => by (have : j = 0 ∨ j = 1 ∨ j = 2 ∨ j = 3 ∨ j = 4 := by omega); rcases this with rfl | rfl | rfl | rfl | rfl <;> first | rfl | (simp at h2; done))) ?_
    refine r_end ?_
    refine t_seq ?_
    refine t_region ?_
    refine r_op (o_move rfl rfl) ?_
    refine r_op (o_bin rfl rfl rfl rfl) ?_
    refine r_op (o_assign rfl rfl) ?_
    refine r_end ?_
    refine t_seq ?_
    refine t_region ?_
    refine r_op (o_move rfl rfl) ?_
    refine r_op (o_move rfl rfl) ?_
    refine r_op (o_move rfl rfl) ?_
    obtain ⟨z14, hz15, b16⟩ := at_get (xs := ((((mkL markD ctD k (l.take m) ++ l.drop m).set (((m : Int)).toNat) ((markATS (k + ((szT ctD l m : Nat) : Int)) (z2.1), z2.2.1, z2.2.2.1, z2.2.2.2.1, z2.2.2.2.2))).set (((m : Int)).toNat) ((z5.1, markATS ((k + ((szT ctD l m : Nat) : Int)) + ((szS (fun (x : Int × (List (Int))) => (x.2).length) (z2.1) : Nat) : Int)) (z5.2.1), z5.2.2.1, z5.2.2.2.1, z5.2.2.2.2))).set ((m : Int)).toNat ((z8.1, z8.2.1, decide ((Int.tmod (((k + ((szT ctD l m : Nat) : Int)) + ((szS (fun (x : Int × (List (Int))) => (x.2).length) (z2.1) : Nat) : Int)) + ((szS (fun (x : Int × (List (Int))) => (x.2).length) (z5.2.1) : Nat) : Int)) 3) = 0), z8.2.2.2.1, z8.2.2.2.2))).set ((m : Int)).toNat ((z11.1, z11.2.1, z11.2.2.1, IntKind.i64.wrap (((k + ((szT ctD l m : Nat) : Int)) + ((szS (fun (x : Int × (List (Int))) => (x.2).length) (z2.1) : Nat) : Int)) + ((szS (fun (x : Int × (List (Int))) => (x.2).length) (z5.2.1) : Nat) : Int) + 1), z11.2.2.2.2))) (n := (m : Int)) (by omega) (by (simp only [List.length_set]; omega))
    refine r_op (o_indexo rfl (by kernel_rfl) rfl rfl rfl b16 (at_lt b16 hz15)) ?_
    refine r_op (o_fieldo rfl (off := 4) (by kernel_rfl) rfl) ?_
    refine r_op (o_storeo ((z14.1, z14.2.1, z14.2.2.1, z14.2.2.2.1, IntKind.i64.wrap ((IntKind.i64.wrap (((k + ((szT ctD l m : Nat) : Int)) + ((szS (fun (x : Int × (List (Int))) => (x.2).length) (z2.1) : Nat) : Int)) + ((szS (fun (x : Int × (List (Int))) => (x.2).length) (z5.2.1) : Nat) : Int) + 1)) + 1))) (n := 1) (by kernel_rfl) rfl rfl hz15 rfl rfl rfl rfl (.cons .sc .nil) rfl (fun j h1 h2 => by (have : j = 0 ∨ j = 1 ∨ j = 2 ∨ j = 3 ∨ j = 4 := by omega); rcases this with rfl | rfl | rfl | rfl | rfl <;> first | rfl | (simp at h2; done))) ?_
    refine r_end ?_
    refine t_region ?_
    refine r_op (o_move rfl rfl) ?_
    refine r_op (o_bin rfl rfl rfl rfl) ?_
    refine r_op (o_assign rfl rfl) ?_
    refine r_end ?_
    refine t_endblock ?_
    refine t_region ?_
    refine r_op (o_move rfl rfl) ?_
    refine r_op (o_bin rfl rfl rfl rfl) ?_
    refine r_op (o_assign rfl rfl) ?_
    refine r_end ?_
    have c1 := szT_step (f := ctD) (mkL_at hz3 i1); have c2 := szT_sum (f := ctD) (l := l) (m + 1); simp only [ctD] at c1; have q1 := set_at hz6; have q2 := set_at hz9; have q3 := set_at hz12; have q4 := set_at hz15; subst q1; subst q2; subst q3; subst q4; dsimp only at *
    refine t_le ?_ (ih0 (m + 1) (by (try dsimp only); omega) (by (try dsimp only); omega))
    exact ⟨⟨rfl, ⟨(eqI (by simp only [IntKind.wrap_i64]; omega)), ⟨rfl, ⟨(eqI (wrS (by omega))), trivial⟩⟩⟩⟩, ⟨(eqR (mkL_set5 (mkL_at hz3 i1) (markD_eq (by simp only [IntKind.wrap_i64]; omega) (by simp only [IntKind.wrap_i64]; omega)))), trivial⟩, rfl⟩
  ·
    have h1' := of_decide_eq_false h1
    refine t_exit rfl ?_
    refine t_seq ?_
    refine t_region ?_
    refine r_op (o_move rfl rfl) ?_
    refine r_op (o_assign rfl rfl) ?_
    refine r_end ?_
    refine t_ret Try.func26 (.tmp rfl .nil) rfl fun E S w u hI hd => ?_
    refine postM_mk hI hd ?_ ⟨eqR ?_, trivial⟩ rfl rfl <;> clear hI hd <;> (try clear ih0)
    all_goals (first | (refine scI ?_; rw [szT_total (by omega)]; done) | exact mk_end (by omega))
set_option maxHeartbeats 1000000 in
set_option maxRecDepth 10000 in
theorem c_laws_markPositionEdgeS (U : Nat → Value) (e0 : Nat) (l : List Edg) (k : Int) (hk : 0 < k) (hkl : k + 3 * ((l.length : Nat) : Int) < 4611686018427387904) : Mu Try.prog 27 [.c (.own 0), .c (.t none (.v (.int .i64 (k))))] [(0, some (.row (some (U 0)) e0 true 3 (enS3 encI encI encB) (l)))] 1 [(0, some (.row (some (U 0)) e0 true 3 (enS3 encI encI encB) (markES k l)))] 1 (.c (.t none (.v (.int .i64 (k + 3 * ((l.length : Nat) : Int)))))) := by
  refine mu_enter Try.func27 rfl (Nat.le_of_ble_eq_true rfl) fun w S M => ?_
  refine t_seq ?_
  refine t_region ?_
  refine r_op (o_assign rfl rfl) ?_
  refine r_end ?_
  refine t_seq ?_
  refine t_seq ?_
  refine t_region ?_
  refine r_op (o_assign rfl rfl) ?_
  refine r_end ?_
  refine t_block ?_
  refine t_loopL (fun m => ⟨[(0, some (.c (.own 0))), (1, some (.c (.t none (.v (.int .i64 (k + 3 * (m : Int))))))), (4, some (.c (.t none (.v (.int .i64 (0)))))), (5, some (.c (.t none (.v (.int .i64 ((m : Int)))))))], [(0, some (.row (some (U 0)) e0 true 3 (enS3 encI encI encB) (mkL markE ct3 k (l.take m) ++ l.drop m)))], 1⟩ : Nat → St) (fun m => m ≤ l.length) (fun m => l.length - m) 0 ⟨⟨rfl, ⟨(eqI (by omega)), ⟨rfl, ⟨rfl, trivial⟩⟩⟩⟩, ⟨(eqR (by simp [mkL])), trivial⟩, rfl⟩ (by simp) ?_
  rintro m hI ih0
  try dsimp only at hI ih0
  have i1 := hI; have hlen : (mkL markE ct3 k (l.take m) ++ l.drop m).length = l.length := (by simp [mkL_length]; omega); have q3 := szT_ct3 (α := Edg) l i1; have ek : k + ((szT ct3 l m : Nat) : Int) = k + 3 * (m : Int) := (by omega); have w1 : IntKind.i64.wrap ((k + 3 * (m : Int)) + 1) = (k + 3 * (m : Int)) + 1 := wr64 (by omega) (by omega); have w2 : IntKind.i64.wrap ((k + 3 * (m : Int)) + 1 + 1) = (k + 3 * (m : Int)) + 2 := (by rw [wr64 (by omega) (by omega)]; omega)
  refine t_seq ?_
  refine t_seq ?_
  refine t_region ?_
  refine r_op (o_move rfl rfl) ?_
  refine r_op (o_move rfl rfl) ?_
  refine r_op (o_leno rfl rfl rfl rfl) ?_
  refine r_op (o_bin rfl rfl rfl rfl) ?_
  refine r_end ?_
  refine t_cond rfl (fun h1 => ?_) (fun h1 => ?_)
  ·
    have h1' := of_decide_eq_true h1
    refine t_skip ?_
    refine t_seq ?_
    refine t_block ?_
    refine t_seq ?_
    refine t_region ?_
    refine r_op (o_move rfl rfl) ?_
    refine r_op (o_move rfl rfl) ?_
    refine r_op (o_move rfl rfl) ?_
    obtain ⟨z2, hz3, b4⟩ := at_get (xs := mkL markE ct3 k (l.take m) ++ l.drop m) (n := (m : Int)) (by omega) (by omega)
    refine r_op (o_indexo rfl (by kernel_rfl) rfl rfl rfl b4 (at_lt b4 hz3)) ?_
    refine r_op (o_fieldo rfl (off := 0) (by kernel_rfl) rfl) ?_
    refine r_op (o_storeo ((k + 3 * (m : Int), z2.2.1, z2.2.2)) (n := 1) (by kernel_rfl) rfl rfl hz3 rfl rfl rfl rfl (.cons .sc .nil) rfl (fun j h1 h2 => by (have : j = 0 ∨ j = 1 ∨ j = 2 ∨ j = 3 ∨ j = 4 := by omega); rcases this with rfl | rfl | rfl | rfl | rfl <;> first | rfl | (simp at h2; done))) ?_
    refine r_end ?_
    refine t_seq ?_
    refine t_region ?_
    refine r_op (o_move rfl rfl) ?_
    refine r_op (o_bin rfl rfl rfl rfl) ?_
    refine r_op (o_assign rfl rfl) ?_
    refine r_end ?_
    refine t_seq ?_
    refine t_region ?_
    refine r_op (o_move rfl rfl) ?_
    refine r_op (o_move rfl rfl) ?_
    refine r_op (o_move rfl rfl) ?_
    obtain ⟨z5, hz6, b7⟩ := at_get (xs := (mkL markE ct3 k (l.take m) ++ l.drop m).set ((m : Int)).toNat ((k + 3 * (m : Int), z2.2.1, z2.2.2))) (n := (m : Int)) (by omega) (by (simp only [List.length_set]; omega))
    refine r_op (o_indexo rfl (by kernel_rfl) rfl rfl rfl b7 (at_lt b7 hz6)) ?_
    refine r_op (o_fieldo rfl (off := 1) (by kernel_rfl) rfl) ?_
    refine r_op (o_storeo ((z5.1, IntKind.i64.wrap ((k + 3 * (m : Int)) + 1), z5.2.2)) (n := 1) (by kernel_rfl) rfl rfl hz6 rfl rfl rfl rfl (.cons .sc .nil) rfl (fun j h1 h2 => by (have : j = 0 ∨ j = 1 ∨ j = 2 ∨ j = 3 ∨ j = 4 := by omega); rcases this with rfl | rfl | rfl | rfl | rfl <;> first | rfl | (simp at h2; done))) ?_
    refine r_end ?_
    refine t_seq ?_
    refine t_region ?_
    refine r_op (o_move rfl rfl) ?_
    refine r_op (o_bin rfl rfl rfl rfl) ?_
    refine r_op (o_assign rfl rfl) ?_
    refine r_end ?_
    refine t_seq ?_
    refine t_region ?_
    refine r_op (o_move rfl rfl) ?_
    refine r_op (o_move rfl rfl) ?_
    refine r_op (o_move rfl rfl) ?_
    refine r_op (o_binD rfl rfl rfl (rfl)) ?_
    refine r_op (o_bin rfl rfl rfl rfl) ?_
    obtain ⟨z8, hz9, b10⟩ := at_get (xs := ((mkL markE ct3 k (l.take m) ++ l.drop m).set ((m : Int)).toNat ((k + 3 * (m : Int), z2.2.1, z2.2.2))).set ((m : Int)).toNat ((z5.1, IntKind.i64.wrap ((k + 3 * (m : Int)) + 1), z5.2.2))) (n := (m : Int)) (by omega) (by (simp only [List.length_set]; omega))
    refine r_op (o_indexo rfl (by kernel_rfl) rfl rfl rfl b10 (at_lt b10 hz9)) ?_
    refine r_op (o_fieldo rfl (off := 2) (by kernel_rfl) rfl) ?_
    refine r_op (o_storeo ((z8.1, z8.2.1, decide ((Int.tmod ((IntKind.i64.wrap ((IntKind.i64.wrap ((k + 3 * (m : Int)) + 1)) + 1))) 3) = 0))) (n := 1) (by kernel_rfl) rfl rfl hz9 rfl rfl rfl rfl (.cons .sc .nil) rfl (fun j h1 h2 => by (have : j = 0 ∨ j = 1 ∨ j = 2 ∨ j = 3 ∨ j = 4 := by omega); rcases this with rfl | rfl | rfl | rfl | rfl <;> first | rfl | omega | (simp at h2; done))) ?_
    refine r_end ?_
    refine t_region ?_
    refine r_op (o_move rfl rfl) ?_
    refine r_op (o_bin rfl rfl rfl rfl) ?_
    refine r_op (o_assign rfl rfl) ?_
    refine r_end ?_
    refine t_endblock ?_
    refine t_region ?_
    refine r_op (o_move rfl rfl) ?_
    refine r_op (o_bin rfl rfl rfl rfl) ?_
    refine r_op (o_assign rfl rfl) ?_
    refine r_end ?_
    have q5 := set_at hz6; have q6 := set_at hz9; subst q5; subst q6
    refine t_le ?_ (ih0 (m + 1) (by (try dsimp only); omega) (by (try dsimp only); omega))
    exact ⟨⟨rfl, ⟨(eqI (by simp only [IntKind.wrap_i64]; omega)), ⟨rfl, ⟨(eqI (wrS (by omega))), trivial⟩⟩⟩⟩, ⟨(eqR (mkL_set3 (mkL_at hz3 i1) (by rw [ek, w1, w2]; rfl))), trivial⟩, rfl⟩
  ·
    have h1' := of_decide_eq_false h1
    refine t_exit rfl ?_
    refine t_seq ?_
    refine t_region ?_
    refine r_op (o_move rfl rfl) ?_
    refine r_op (o_assign rfl rfl) ?_
    refine r_end ?_
    refine t_ret Try.func27 (.tmp rfl .nil) rfl fun E S w u hI hd => ?_
    refine postM_mk hI hd ?_ ⟨eqR ?_, trivial⟩ rfl rfl <;> clear hI hd <;> (try clear ih0)
    all_goals (first | (refine scI ?_; omega) | exact mk_end (by omega))
set_option maxHeartbeats 1000000 in
set_option maxRecDepth 10000 in
theorem c_laws_heldPositionEdgeS (l : List Edg) (k : Int) (hk : 0 < k) (hkl : k + 3 * ((l.length : Nat) : Int) < 4611686018427387904) : Pu Try.prog 28 [.c (.t none (.sl 3 (enS3 encI encI encB) (l))), .c (.t none (.v (.int .i64 (k))))] [] 0 (.c (.t none (.v (.int .i64 (if l = markES k l then k + 3 * ((l.length : Nat) : Int) else -1))))) := by
  refine pu_enter Try.func28 rfl (Nat.le_of_ble_eq_true rfl) fun w S => ?_
  refine t_seq ?_
  refine t_region ?_
  refine r_op (o_assign rfl rfl) ?_
  refine r_end ?_
  refine t_seq ?_
  refine t_seq ?_
  refine t_region ?_
  refine r_op (o_assign rfl rfl) ?_
  refine r_end ?_
  refine t_block ?_
  refine t_loopL (fun m => ⟨[(0, some (.c (.t none (.sl 3 (enS3 encI encI encB) (l))))), (1, some (.c (.t none (.v (.int .i64 (k + 3 * (m : Int))))))), (5, some (.c (.t none (.v (.int .i64 ((m : Int)))))))], [], 0⟩ : Nat → St) (fun m => m ≤ l.length ∧ l.take m = mkL markE ct3 k (l.take m)) (fun m => l.length - m) 0 ⟨⟨rfl, ⟨(eqI (by omega)), ⟨rfl, trivial⟩⟩⟩, trivial, rfl⟩ (by exact ⟨Nat.zero_le _, rfl⟩) ?_
  rintro m hI ih0
  try dsimp only at hI ih0
  obtain ⟨i1, i2⟩ := hI; have q3 := szT_ct3 (α := Edg) l i1; have ek : k + ((szT ct3 l m : Nat) : Int) = k + 3 * (m : Int) := (by omega)
  refine t_seq ?_
  refine t_seq ?_
  refine t_region ?_
  refine r_op (o_move rfl rfl) ?_
  refine r_op (o_move rfl rfl) ?_
  refine r_op (o_len rfl rfl rfl) ?_
  refine r_op (o_bin rfl rfl rfl rfl) ?_
  refine r_end ?_
  refine t_cond rfl (fun h1 => ?_) (fun h1 => ?_)
  ·
    have h1' := of_decide_eq_true h1
    refine t_skip ?_
    refine t_seq ?_
    refine t_block ?_
    refine t_seq ?_
    refine t_seq ?_
    refine t_region ?_
    refine r_op (o_move rfl rfl) ?_
    refine r_op (o_move rfl rfl) ?_
    obtain ⟨z2, hz3, b4⟩ := at_get (xs := l) (n := (m : Int)) (by omega) (by omega)
    refine r_op (o_index rfl (by kernel_rfl) rfl rfl b4 hz3) ?_
    refine r_op (o_field rfl (off := 0) (by kernel_rfl) rfl) ?_
    refine r_op (o_load1 rfl (by kernel_rfl) rfl rfl) ?_
    refine r_op (o_move rfl rfl) ?_
    refine r_op (o_bin rfl rfl rfl rfl) ?_
    refine r_end ?_
    refine t_cond rfl (fun h5 => ?_) (fun h5 => ?_)
    ·
      have h5' := of_decide_eq_true h5
      refine t_seq ?_
      refine t_region ?_
      refine r_op (o_assign rfl rfl) ?_
      refine r_end ?_
      refine t_ret Try.func28 (.tmp rfl .nil) rfl fun E S w u hI hd => ?_
      refine post_mk hI hd ?_ trivial rfl rfl rfl <;> clear hI hd <;> (try clear ih0)
      all_goals (refine scI ?_; unfold markES; (rw [if_neg (heldL_ne (f := markE) (ct := ct3) (m := m) hz3 rfl (by rw [ek]; exact markE_ne1 (by omega)))]; done))
    ·
      have h5' := of_decide_eq_false h5
      refine t_skip ?_
      refine t_seq ?_
      refine t_region ?_
      refine r_op (o_move rfl rfl) ?_
      refine r_op (o_bin rfl rfl rfl rfl) ?_
      refine r_op (o_assign rfl rfl) ?_
      refine r_end ?_
      refine t_seq ?_
      refine t_seq ?_
      refine t_region ?_
      refine r_op (o_move rfl rfl) ?_
      refine r_op (o_move rfl rfl) ?_
      refine r_op (o_index rfl (by kernel_rfl) rfl rfl b4 hz3) ?_
      refine r_op (o_field rfl (off := 1) (by kernel_rfl) rfl) ?_
      refine r_op (o_load1 rfl (by kernel_rfl) rfl rfl) ?_
      refine r_op (o_move rfl rfl) ?_
      refine r_op (o_bin rfl rfl rfl rfl) ?_
      refine r_end ?_
      refine t_cond rfl (fun h6 => ?_) (fun h6 => ?_)
      ·
        have h6' := of_decide_eq_true h6
        refine t_seq ?_
        refine t_region ?_
        refine r_op (o_assign rfl rfl) ?_
        refine r_end ?_
        refine t_ret Try.func28 (.tmp rfl .nil) rfl fun E S w u hI hd => ?_
        refine post_mk hI hd ?_ trivial rfl rfl rfl <;> clear hI hd <;> (try clear ih0)
        all_goals (refine scI ?_; unfold markES; (rw [if_neg (heldL_ne (f := markE) (ct := ct3) (m := m) hz3 rfl (by rw [ek]; exact markE_ne2 (by assumption) (by simp only [IntKind.wrap_i64]; omega)))]; done))
      ·
        have h6' := of_decide_eq_false h6
        refine t_skip ?_
        refine t_seq ?_
        refine t_region ?_
        refine r_op (o_move rfl rfl) ?_
        refine r_op (o_bin rfl rfl rfl rfl) ?_
        refine r_op (o_assign rfl rfl) ?_
        refine r_end ?_
        refine t_seq ?_
        refine t_seq ?_
        refine t_region ?_
        refine r_op (o_move rfl rfl) ?_
        refine r_op (o_move rfl rfl) ?_
        refine r_op (o_index rfl (by kernel_rfl) rfl rfl b4 hz3) ?_
        refine r_op (o_field rfl (off := 2) (by kernel_rfl) rfl) ?_
        refine r_op (o_load1 rfl (by kernel_rfl) rfl rfl) ?_
        refine r_op (o_move rfl rfl) ?_
        refine r_op (o_binD rfl rfl rfl (rfl)) ?_
        refine r_op (o_bin rfl rfl rfl rfl) ?_
        refine r_op (o_neB rfl Try.underlying4 rfl rfl) ?_
        refine r_end ?_
        refine t_cond rfl (fun h7 => ?_) (fun h7 => ?_)
        ·
          have h7' := h7
          try simp only [decide_eq_true_eq, decide_eq_false_iff_not, Bool.not_eq_true', Bool.not_eq_false', Bool.not_false, Bool.not_true] at h7'
          refine t_seq ?_
          refine t_region ?_
          refine r_op (o_assign rfl rfl) ?_
          refine r_end ?_
          refine t_ret Try.func28 (.tmp rfl .nil) rfl fun E S w u hI hd => ?_
          refine post_mk hI hd ?_ trivial rfl rfl rfl <;> clear hI hd <;> (try clear ih0)
          all_goals (refine scI ?_; unfold markES; (rw [if_neg (heldL_ne (f := markE) (ct := ct3) (m := m) hz3 rfl (by rw [ek]; exact markE_ne3 (by assumption) (by simp only [IntKind.wrap_i64]; omega)))]; done))
        ·
          have h7' := h7
          try simp only [decide_eq_true_eq, decide_eq_false_iff_not, Bool.not_eq_true', Bool.not_eq_false', Bool.not_false, Bool.not_true] at h7'
          refine t_skip ?_
          refine t_region ?_
          refine r_op (o_move rfl rfl) ?_
          refine r_op (o_bin rfl rfl rfl rfl) ?_
          refine r_op (o_assign rfl rfl) ?_
          refine r_end ?_
          refine t_endblock ?_
          refine t_region ?_
          refine r_op (o_move rfl rfl) ?_
          refine r_op (o_bin rfl rfl rfl rfl) ?_
          refine r_op (o_assign rfl rfl) ?_
          refine r_end ?_
          refine t_le ?_ (ih0 (m + 1) (by (try dsimp only); omega) (by (try dsimp only); exact ⟨by omega, heldL_step i2 hz3 rfl (by rw [ek]; exact markE_of (by assumption) (by assumption) (by assumption) (by simp only [IntKind.wrap_i64]; omega) (by simp only [IntKind.wrap_i64]; omega))⟩))
          exact ⟨⟨rfl, ⟨(eqI (by simp only [IntKind.wrap_i64]; omega)), ⟨(eqI (wr64 (by omega) (by omega))), trivial⟩⟩⟩, trivial, rfl⟩
  ·
    have h1' := of_decide_eq_false h1
    refine t_exit rfl ?_
    refine t_seq ?_
    refine t_region ?_
    refine r_op (o_move rfl rfl) ?_
    refine r_op (o_assign rfl rfl) ?_
    refine r_end ?_
    refine t_ret Try.func28 (.tmp rfl .nil) rfl fun E S w u hI hd => ?_
    refine post_mk hI hd ?_ trivial rfl rfl rfl <;> clear hI hd <;> (try clear ih0)
    all_goals (refine scI ?_; unfold markES; ((obtain rfl : m = l.length := by omega); rw [List.take_length] at i2; rw [if_pos i2]))
set_option maxHeartbeats 1000000 in
set_option maxRecDepth 10000 in
theorem c_laws_FnExactPositionGraph (rs : Rels) (ds : List Dep) (h0 : (okL (fun (x : List UInt8 × Int × Bool) => okS (x.1) ∧ okI (x.2.1) ∧ okB (x.2.2))) rs) (h2 : (okL (fun (x : (List (Int × (List (Int)))) × (List (Int × (List (Int)))) × Bool × Int × Int) => (okL (fun (x : Int × (List (Int))) => okI (x.1) ∧ (okL okI) (x.2))) (x.1) ∧ (okL (fun (x : Int × (List (Int))) => okI (x.1) ∧ (okL okI) (x.2))) (x.2.1) ∧ okB (x.2.2.1) ∧ okI (x.2.2.2.1) ∧ okI (x.2.2.2.2))) ds) : Pu Try.prog 4 [.c (.t none (.sl 3 (enS3 encS encI encB) (rs))), .c (.t none (.sl 5 (enS5 (enSl 2 (enS2 encI (enSl 1 encI))) (enSl 2 (enS2 encI (enSl 1 encI))) encB encI encI) (ds)))] [] 0 (.c (.t none (.v (.bool (true))))) := by
  refine pu_enter Try.func4 rfl (Nat.le_of_ble_eq_true rfl) fun w S => ?_
  have g0 := h0.1; have g2 := h2.1; have gr := sz_len (f := (fun (x : List UInt8 × Int × Bool) => (x.1).length)) (l := rs); have gs := sz_len (f := (fun (x : (List (Int × (List (Int)))) × (List (Int × (List (Int)))) × Bool × Int × Int) => (szS (fun (x : Int × (List (Int))) => (x.2).length) (x.1)) + (szS (fun (x : Int × (List (Int))) => (x.2).length) (x.2.1)))) (l := ds); have gd : (ds.map ctD).sum ≤ 3 * szS (fun (x : (List (Int × (List (Int)))) × (List (Int × (List (Int)))) × Bool × Int × Int) => (szS (fun (x : Int × (List (Int))) => (x.2).length) (x.1)) + (szS (fun (x : Int × (List (Int))) => (x.2).length) (x.2.1))) ds := ctD_sum ds; have gg := graph_len (rs := rs) (ds := ds); have gm := markES_len 1 (graphL rs ds); have gi := markES_idem 1 (graphL rs ds)
  refine t_seq ?_
  refine t_region ?_
  refine r_op (o_assign rfl rfl) ?_
  refine r_end ?_
  refine t_seq ?_
  refine t_region ?_
  refine r_op (o_assign rfl rfl) ?_
  refine r_end ?_
  refine t_seq ?_
  refine t_region ?_
  refine r_op (o_move rfl rfl) ?_
  refine r_op (o_move rfl rfl) ?_
  refine r_op (o_call 0 0 false (Go.Proofs.enters_of Try.func16 (by kernel_rfl) rfl) (c_laws_szRelationS (rs) (1048576) (by omega) (by omega) (by omega)) rfl (.cons rfl (.c .t0) (.cons rfl (.c .t0) .nil)) rfl rfl rfl) ?_
  refine r_op (o_assign rfl rfl) ?_
  refine r_end ?_
  refine t_seq ?_
  refine t_seq ?_
  refine t_region ?_
  refine r_op (o_move rfl rfl) ?_
  refine r_op (o_bin rfl rfl rfl rfl) ?_
  refine r_end ?_
  refine t_cond rfl (fun h1 => ?_) (fun h1 => ?_)
  ·
    have h1' := of_decide_eq_true h1
    refine t_seq ?_
    refine t_region ?_
    refine r_op (o_assign rfl rfl) ?_
    refine r_end ?_
    refine t_ret Try.func4 (.tmp rfl .nil) rfl fun E S w u hI hd => ?_
    refine post_mk hI hd ?_ trivial rfl rfl rfl <;> clear hI hd
    all_goals (rfl)
  ·
    have h1' := of_decide_eq_false h1
    refine t_skip ?_
    refine t_seq ?_
    refine t_region ?_
    refine r_op (o_move rfl rfl) ?_
    refine r_op (o_move rfl rfl) ?_
    refine r_op (o_call 0 0 false (Go.Proofs.enters_of Try.func17 (by kernel_rfl) rfl) (c_laws_szDependencyS (ds) (if (1048576) - ((szS (fun (x : List UInt8 × Int × Bool) => (x.1).length) (rs) : Nat) : Int) < 0 then -1 else (1048576) - ((szS (fun (x : List UInt8 × Int × Bool) => (x.1).length) (rs) : Nat) : Int)) (by omega) (by omega) (by omega)) rfl (.cons rfl (.c .t0) (.cons rfl (.c .t0) .nil)) rfl rfl rfl) ?_
    refine r_op (o_assign rfl rfl) ?_
    refine r_end ?_
    refine t_seq ?_
    refine t_seq ?_
    refine t_region ?_
    refine r_op (o_move rfl rfl) ?_
    refine r_op (o_bin rfl rfl rfl rfl) ?_
    refine r_end ?_
    refine t_cond rfl (fun h2 => ?_) (fun h2 => ?_)
    ·
      have h2' := of_decide_eq_true h2
      refine t_seq ?_
      refine t_region ?_
      refine r_op (o_assign rfl rfl) ?_
      refine r_end ?_
      refine t_ret Try.func4 (.tmp rfl .nil) rfl fun E S w u hI hd => ?_
      refine post_mk hI hd ?_ trivial rfl rfl rfl <;> clear hI hd
      all_goals (rfl)
    ·
      have h2' := of_decide_eq_false h2
      refine t_skip ?_
      refine t_seq ?_
      refine t_region ?_
      refine r_op (o_move rfl rfl) ?_
      refine r_op (o_call 0 1 false (Go.Proofs.enters_of Try.func19 (by kernel_rfl) rfl) (c_laws_toRelationS (rs) (by omega)) rfl (.cons rfl (.c .t0) .nil) rfl rfl rfl) ?_
      refine r_op (o_move rfl rfl) ?_
      refine r_op (o_call 1 2 false (Go.Proofs.enters_of Try.func20 (by kernel_rfl) rfl) (c_laws_toDependencyS (ds) (by omega)) rfl (.cons rfl (.c .t0) .nil) rfl rfl rfl) ?_
      refine r_op (o_call 2 3 false (Go.Proofs.enters_of Try.func18 (by kernel_rfl) rfl) (c_spec_PositionGraph ((rs)) ((ds)) (by omega) (by omega)) rfl (.cons rfl (.c (.own rfl)) (.cons rfl (.c (.own rfl)) .nil)) rfl rfl rfl) ?_
      refine r_op (o_assign rfl rfl) ?_
      refine r_end ?_
      refine t_seq ?_
      refine t_region ?_
      refine r_op (o_move rfl rfl) ?_
      refine r_op (o_call 3 4 false (Go.Proofs.enters_of Try.func19 (by kernel_rfl) rfl) (c_laws_toRelationS (rs) (by omega)) rfl (.cons rfl (.c .t0) .nil) rfl rfl rfl) ?_
      refine r_op (o_assign rfl rfl) ?_
      refine r_end ?_
      refine t_seq ?_
      refine t_region ?_
      refine r_op (o_move rfl rfl) ?_
      refine r_op (o_call 4 5 false (Go.Proofs.enters_of Try.func20 (by kernel_rfl) rfl) (c_laws_toDependencyS (ds) (by omega)) rfl (.cons rfl (.c .t0) .nil) rfl rfl rfl) ?_
      refine r_op (o_assign rfl rfl) ?_
      refine r_end ?_
      refine t_seq ?_
      refine t_region ?_
      refine r_op (o_move rfl rfl) ?_
      refine r_op (o_move rfl rfl) ?_
      refine r_op (o_call 5 8 false (Go.Proofs.enters_of Try.func21 (by kernel_rfl) rfl) (c_impl_PositionGraph ((rs)) ((ds)) (by omega) (by omega)) rfl (.cons rfl (.c (.own rfl)) (.cons rfl (.c (.own rfl)) .nil)) rfl rfl rfl) ?_
      refine r_op (o_assign rfl rfl) ?_
      refine r_end ?_
      refine t_seq ?_
      refine t_seq ?_
      refine t_region ?_
      refine r_op (o_move rfl rfl) ?_
      refine r_op (o_move rfl rfl) ?_
      refine r_op (o_call 8 8 false (Go.Proofs.enters_of Try.func22 (by kernel_rfl) rfl) (c_laws_eqPositionEdgeS (graphL ((rs)) ((ds))) (graphL ((rs)) ((ds))) (by omega)) rfl (.cons rfl (.c (.own rfl)) (.cons rfl (.c (.own rfl)) .nil)) rfl rfl rfl) ?_
      refine r_op (o_not rfl rfl) ?_
      refine r_end ?_
      refine t_cond rfl (fun h3 => ?_) (fun h3 => ?_)
      ·
        have h3' := of_decide_eq_false (bnt h3)
        refine t_seq ?_
        refine t_region ?_
        refine r_op (o_assign rfl rfl) ?_
        refine r_end ?_
        refine t_ret Try.func4 (.tmp rfl .nil) rfl fun E S w u hI hd => ?_
        refine post_mk hI hd ?_ trivial rfl rfl rfl <;> clear hI hd
        all_goals (exfalso; (simp at *; done))
      ·
        have h3' := of_decide_eq_true (bnf h3)
        refine t_skip ?_
        refine t_seq ?_
        refine t_seq ?_
        refine t_region ?_
        refine r_op (o_move rfl rfl) ?_
        refine r_op (o_move rfl rfl) ?_
        refine r_op (o_call 8 9 false (Go.Proofs.enters_of Try.func19 (by kernel_rfl) rfl) (c_laws_toRelationS (rs) (by omega)) rfl (.cons rfl (.c .t0) .nil) rfl rfl rfl) ?_
        refine r_op (o_call 9 9 false (Go.Proofs.enters_of Try.func23 (by kernel_rfl) rfl) (c_laws_eqRelationS ((rs)) ((rs)) (by omega)) rfl (.cons rfl (.c (.own rfl)) (.cons rfl (.c (.own rfl)) .nil)) rfl rfl rfl) ?_
        refine r_op (o_not rfl rfl) ?_
        refine r_end ?_
        refine t_cond rfl (fun h4 => ?_) (fun h4 => ?_)
        ·
          have h4' := of_decide_eq_false (bnt h4)
          refine t_seq ?_
          refine t_region ?_
          refine r_op (o_assign rfl rfl) ?_
          refine r_end ?_
          refine t_ret Try.func4 (.tmp rfl .nil) rfl fun E S w u hI hd => ?_
          refine post_mk hI hd ?_ trivial rfl rfl rfl <;> clear hI hd
          all_goals (exfalso; (simp at *; done))
        ·
          have h4' := of_decide_eq_true (bnf h4)
          refine t_skip ?_
          refine t_seq ?_
          refine t_seq ?_
          refine t_region ?_
          refine r_op (o_move rfl rfl) ?_
          refine r_op (o_move rfl rfl) ?_
          refine r_op (o_call 9 10 false (Go.Proofs.enters_of Try.func20 (by kernel_rfl) rfl) (c_laws_toDependencyS (ds) (by omega)) rfl (.cons rfl (.c .t0) .nil) rfl rfl rfl) ?_
          refine r_op (o_call 10 10 false (Go.Proofs.enters_of Try.func24 (by kernel_rfl) rfl) (c_laws_eqDependencyS ((ds)) ((ds)) (by omega)) rfl (.cons rfl (.c (.own rfl)) (.cons rfl (.c (.own rfl)) .nil)) rfl rfl rfl) ?_
          refine r_op (o_not rfl rfl) ?_
          refine r_end ?_
          refine t_cond rfl (fun h5 => ?_) (fun h5 => ?_)
          ·
            have h5' := of_decide_eq_false (bnt h5)
            refine t_seq ?_
            refine t_region ?_
            refine r_op (o_assign rfl rfl) ?_
            refine r_end ?_
            refine t_ret Try.func4 (.tmp rfl .nil) rfl fun E S w u hI hd => ?_
            refine post_mk hI hd ?_ trivial rfl rfl rfl <;> clear hI hd
            all_goals (exfalso; (simp at *; done))
          ·
            have h5' := of_decide_eq_true (bnf h5)
            refine t_skip ?_
            refine t_seq ?_
            refine t_region ?_
            refine r_op (o_assign rfl rfl) ?_
            refine r_end ?_
            refine t_seq ?_
            refine t_region ?_
            refine r_op (o_move rfl rfl) ?_
            refine r_op (o_move rfl rfl) ?_
            refine r_op (o_callH [⟨3, none, 77, 3, _, (enS3 encS encI encB), (rs), markRS (1) ((rs))⟩] (Go.Proofs.enters_of Try.func25 (by kernel_rfl) rfl) (fun U => c_laws_markRelationS U 77 ((rs)) (1) (by omega) (by omega)) rfl ⟨rfl, trivial⟩ rfl rfl (.cons rfl (.own rfl) (.cons rfl .t0 .nil)) rfl) ?_
            refine r_op (o_assign rfl rfl) ?_
            refine r_end ?_
            refine t_seq ?_
            refine t_region ?_
            refine r_op (o_move rfl rfl) ?_
            refine r_op (o_move rfl rfl) ?_
            refine r_op (o_callH [⟨4, none, 74, 5, _, (enS5 (enSl 2 (enS2 encI (enSl 1 encI))) (enSl 2 (enS2 encI (enSl 1 encI))) encB encI encI), (ds), markDS ((1) + 3 * ((((rs)).length : Nat) : Int)) ((ds))⟩] (Go.Proofs.enters_of Try.func26 (by kernel_rfl) rfl) (fun U => c_laws_markDependencyS U 74 ((ds)) ((1) + 3 * ((((rs)).length : Nat) : Int)) (by omega) (by omega)) rfl ⟨rfl, trivial⟩ rfl rfl (.cons rfl (.own rfl) (.cons rfl .t0 .nil)) rfl) ?_
            refine r_op (o_assign rfl rfl) ?_
            refine r_end ?_
            refine t_seq ?_
            refine t_seq ?_
            refine t_region ?_
            refine r_op (o_move rfl rfl) ?_
            refine r_op (o_bin rfl rfl rfl rfl) ?_
            refine r_op (o_move rfl rfl) ?_
            refine r_guard rfl rfl rfl (fun g6 => ?_) (fun g6 => ?_)
            ·
              have g6' := of_decide_eq_false g6
              refine r_op (o_move rfl rfl) ?_
              refine r_guard rfl rfl rfl (fun _ => ?_) (ncf g6)
              refine r_op (o_move rfl rfl) ?_
              refine r_guard rfl rfl rfl (fun _ => ?_) (ncf g6)
              refine r_op (o_call 10 10 false (Go.Proofs.enters_of Try.func22 (by kernel_rfl) rfl) (c_laws_eqPositionEdgeS (graphL ((rs)) ((ds))) (graphL ((rs)) ((ds))) (by omega)) rfl (.cons rfl (.c (.own rfl)) (.cons rfl (.c (.own rfl)) .nil)) rfl rfl rfl) ?_
              refine r_guard rfl rfl rfl (fun _ => ?_) (ncf g6)
              refine r_op (o_not rfl rfl) ?_
              refine r_op (o_pickF rfl rfl g6 rfl) ?_
              refine r_end ?_
              refine t_cond rfl (fun h7 => ?_) (fun h7 => ?_)
              ·
                have h7' := of_decide_eq_false (bnt h7)
                refine t_seq ?_
                refine t_region ?_
                refine r_op (o_assign rfl rfl) ?_
                refine r_end ?_
                refine t_ret Try.func4 (.tmp rfl .nil) rfl fun E S w u hI hd => ?_
                refine post_mk hI hd ?_ trivial rfl rfl rfl <;> clear hI hd
                all_goals (exfalso; (simp at *; done))
              ·
                have h7' := of_decide_eq_true (bnf h7)
                refine t_skip ?_
                refine t_seq ?_
                refine t_region ?_
                refine r_op (o_assign rfl rfl) ?_
                refine r_end ?_
                refine t_seq ?_
                refine t_region ?_
                refine r_op (o_move rfl rfl) ?_
                refine r_op (o_move rfl rfl) ?_
                refine r_op (o_callH [⟨6, none, 55, 3, _, (enS3 encI encI encB), graphL ((rs)) ((ds)), markES (1) (graphL ((rs)) ((ds)))⟩] (Go.Proofs.enters_of Try.func27 (by kernel_rfl) rfl) (fun U => c_laws_markPositionEdgeS U 55 (graphL ((rs)) ((ds))) (1) (by omega) (by omega)) rfl ⟨rfl, trivial⟩ rfl rfl (.cons rfl (.own rfl) (.cons rfl .t0 .nil)) rfl) ?_
                refine r_op (o_assign rfl rfl) ?_
                refine r_end ?_
                refine t_seq ?_
                refine t_region ?_
                refine r_op (o_assign rfl rfl) ?_
                refine r_end ?_
                refine t_seq ?_
                refine t_region ?_
                refine r_op (o_move rfl rfl) ?_
                refine r_op (o_move rfl rfl) ?_
                refine r_op (o_call 10 10 false (Go.Proofs.enters_of Try.func28 (by kernel_rfl) rfl) (c_laws_heldPositionEdgeS (markES (1) (graphL ((rs)) ((ds)))) (1) (by omega) (by omega)) rfl (.cons rfl (.c (.own rfl)) (.cons rfl (.c .t0) .nil)) rfl rfl rfl) ?_
                refine r_op (o_assign rfl rfl) ?_
                refine r_end ?_
                refine t_seq ?_
                refine t_seq ?_
                refine t_region ?_
                refine r_op (o_move rfl rfl) ?_
                refine r_op (o_bin rfl rfl rfl rfl) ?_
                refine r_end ?_
                refine t_cond rfl (fun h8 => ?_) (fun h8 => ?_)
                ·
                  have h8' := of_decide_eq_true h8
                  refine t_seq ?_
                  refine t_region ?_
                  refine r_op (o_assign rfl rfl) ?_
                  refine r_end ?_
                  refine t_ret Try.func4 (.tmp rfl .nil) rfl fun E S w u hI hd => ?_
                  refine post_mk hI hd ?_ trivial rfl rfl rfl <;> clear hI hd
                  all_goals (exfalso; (simp only [markES_idem, markES_len, if_true] at *; omega))
                ·
                  have h8' := of_decide_eq_false h8
                  refine t_skip ?_
                  refine t_seq ?_
                  refine t_seq ?_
                  refine t_region ?_
                  refine r_op (o_move rfl rfl) ?_
                  refine r_op (o_move rfl rfl) ?_
                  refine r_op (o_bin rfl rfl rfl rfl) ?_
                  refine r_end ?_
                  refine t_cond rfl (fun h9 => ?_) (fun h9 => ?_)
                  ·
                    have h9' := of_decide_eq_true h9
                    refine t_seq ?_
                    refine t_region ?_
                    refine r_op (o_assign rfl rfl) ?_
                    refine r_end ?_
                    refine t_ret Try.func4 (.tmp rfl .nil) rfl fun E S w u hI hd => ?_
                    refine post_mk hI hd ?_ trivial rfl rfl rfl <;> clear hI hd
                    all_goals (exfalso; (omega))
                  ·
                    have h9' := of_decide_eq_false h9
                    refine t_skip ?_
                    refine t_seq ?_
                    refine t_region ?_
                    refine r_op (o_move rfl rfl) ?_
                    refine r_op (o_call 10 11 false (Go.Proofs.enters_of Try.func19 (by kernel_rfl) rfl) (c_laws_toRelationS (rs) (by omega)) rfl (.cons rfl (.c .t0) .nil) rfl rfl rfl) ?_
                    refine r_op (o_move rfl rfl) ?_
                    refine r_op (o_call 11 12 false (Go.Proofs.enters_of Try.func20 (by kernel_rfl) rfl) (c_laws_toDependencyS (ds) (by omega)) rfl (.cons rfl (.c .t0) .nil) rfl rfl rfl) ?_
                    refine r_op (o_call 12 15 false (Go.Proofs.enters_of Try.func21 (by kernel_rfl) rfl) (c_impl_PositionGraph ((rs)) ((ds)) (by omega) (by omega)) rfl (.cons rfl (.c (.own rfl)) (.cons rfl (.c (.own rfl)) .nil)) rfl rfl rfl) ?_
                    refine r_op (o_assign rfl rfl) ?_
                    refine r_end ?_
                    refine t_seq ?_
                    refine t_seq ?_
                    refine t_region ?_
                    refine r_op (o_move rfl rfl) ?_
                    refine r_op (o_move rfl rfl) ?_
                    refine r_op (o_call 15 15 false (Go.Proofs.enters_of Try.func22 (by kernel_rfl) rfl) (c_laws_eqPositionEdgeS (graphL ((rs)) ((ds))) (graphL ((rs)) ((ds))) (by omega)) rfl (.cons rfl (.c (.own rfl)) (.cons rfl (.c (.own rfl)) .nil)) rfl rfl rfl) ?_
                    refine r_op (o_not rfl rfl) ?_
                    refine r_end ?_
                    refine t_cond rfl (fun h10 => ?_) (fun h10 => ?_)
                    ·
                      have h10' := of_decide_eq_false (bnt h10)
                      refine t_seq ?_
                      refine t_region ?_
                      refine r_op (o_assign rfl rfl) ?_
                      refine r_end ?_
                      refine t_ret Try.func4 (.tmp rfl .nil) rfl fun E S w u hI hd => ?_
                      refine post_mk hI hd ?_ trivial rfl rfl rfl <;> clear hI hd
                      all_goals (exfalso; (simp at *; done))
                    ·
                      have h10' := of_decide_eq_true (bnf h10)
                      refine t_skip ?_
                      refine t_seq ?_
                      refine t_region ?_
                      refine r_op (o_assign rfl rfl) ?_
                      refine r_end ?_
                      refine t_seq ?_
                      refine t_region ?_
                      refine r_op (o_move rfl rfl) ?_
                      refine r_op (o_move rfl rfl) ?_
                      refine r_op (o_call 15 15 false (Go.Proofs.enters_of Try.func28 (by kernel_rfl) rfl) (c_laws_heldPositionEdgeS (markES (1) (graphL ((rs)) ((ds)))) (1) (by omega) (by omega)) rfl (.cons rfl (.c (.own rfl)) (.cons rfl (.c .t0) .nil)) rfl rfl rfl) ?_
                      refine r_op (o_assign rfl rfl) ?_
                      refine r_end ?_
                      refine t_seq ?_
                      refine t_seq ?_
                      refine t_region ?_
                      refine r_op (o_move rfl rfl) ?_
                      refine r_op (o_bin rfl rfl rfl rfl) ?_
                      refine r_end ?_
                      refine t_cond rfl (fun h11 => ?_) (fun h11 => ?_)
                      ·
                        have h11' := of_decide_eq_true h11
                        refine t_seq ?_
                        refine t_region ?_
                        refine r_op (o_assign rfl rfl) ?_
                        refine r_end ?_
                        refine t_ret Try.func4 (.tmp rfl .nil) rfl fun E S w u hI hd => ?_
                        refine post_mk hI hd ?_ trivial rfl rfl rfl <;> clear hI hd
                        all_goals (exfalso; (omega))
                      ·
                        have h11' := of_decide_eq_false h11
                        refine t_skip ?_
                        refine t_seq ?_
                        refine t_seq ?_
                        refine t_region ?_
                        refine r_op (o_move rfl rfl) ?_
                        refine r_op (o_move rfl rfl) ?_
                        refine r_op (o_bin rfl rfl rfl rfl) ?_
                        refine r_end ?_
                        refine t_cond rfl (fun h12 => ?_) (fun h12 => ?_)
                        ·
                          have h12' := of_decide_eq_true h12
                          refine t_seq ?_
                          refine t_region ?_
                          refine r_op (o_assign rfl rfl) ?_
                          refine r_end ?_
                          refine t_ret Try.func4 (.tmp rfl .nil) rfl fun E S w u hI hd => ?_
                          refine post_mk hI hd ?_ trivial rfl rfl rfl <;> clear hI hd
                          all_goals (exfalso; (omega))
                        ·
                          have h12' := of_decide_eq_false h12
                          refine t_skip ?_
                          refine t_seq ?_
                          refine t_region ?_
                          refine r_op (o_assign rfl rfl) ?_
                          refine r_end ?_
                          refine t_ret Try.func4 (.tmp rfl .nil) rfl fun E S w u hI hd => ?_
                          refine post_mk hI hd ?_ trivial rfl rfl rfl <;> clear hI hd
                          all_goals (rfl)
            ·
              have g6' := of_decide_eq_true g6
              refine r_guard rfl rfl rfl (nc g6) (fun _ => ?_)
              refine r_guard rfl rfl rfl (nc g6) (fun _ => ?_)
              refine r_guard rfl rfl rfl (nc g6) (fun _ => ?_)
              refine r_op (o_pickT rfl rfl g6 rfl) ?_
              refine r_end ?_
              refine t_cond rfl (fun _ => ?_) (nc rfl)
              refine t_seq ?_
              refine t_region ?_
              refine r_op (o_assign rfl rfl) ?_
              refine r_end ?_
              refine t_ret Try.func4 (.tmp rfl .nil) rfl fun E S w u hI hd => ?_
              refine post_mk hI hd ?_ trivial rfl rfl rfl <;> clear hI hd
              all_goals (exfalso; (omega))
end Go.Eng
