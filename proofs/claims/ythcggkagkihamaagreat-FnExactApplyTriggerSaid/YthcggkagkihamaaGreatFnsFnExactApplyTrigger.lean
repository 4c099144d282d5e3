/- What the functions that FnExactApplyTrigger reaches answer. -/
import Derived.Test.YthcggkagkihamaaGreatFnsFnExactApplyTriggerp2
import Derived.Test.YthcggkagkihamaaGreatEngZN
import Derived.Test.YthcggkagkihamaaGreatChecked
set_option linter.unusedVariables false
set_option linter.unusedSimpArgs false
namespace Go.Eng
open Go Go.RowKit Go.Proofs
set_option maxHeartbeats 1000000 in
set_option maxRecDepth 10000 in
theorem c_laws_markIntS (U : Nat → Value) (e0 : Nat) (l : List Int) (k : Int) (hk : 0 ≤ k) (hkl : k + l.length < 4611686018427387904) : Mu Tryz.prog 18 [.c (.own 0), .c (.t none (.v (.int .i64 (k))))] [(0, some (.row (some (U 0)) e0 true 1 encI (l)))] 1 [(0, some (.row (some (U 0)) e0 true 1 encI (seqI k l.length)))] 1 (.c (.t none (.v (.int .i64 (k + l.length))))) := by
 refine mu_enter Tryz.func18 rfl (Nat.le_of_ble_eq_true rfl) fun w S M => ?_
 refine tsr ?_
 refine r_op oA ?_
 refine r_end ?_
 refine t_seq ?_
 refine tsr ?_
 refine r_op oA ?_
 refine r_end ?_
 refine t_block ?_
 refine t_loopL (fun m => ⟨[(0, some (.c (.own 0))), (1, some (.c (.t none (.v (.int .i64 (k + m)))))), (4, some (.c (.t none (.v (.int .i64 (0)))))), (5, some (.c (.t none (.v (.int .i64 ((m : Int)))))))], [(0, some (.row (some (U 0)) e0 true 1 encI (seqI k m ++ l.drop m)))], 1⟩ : Nat → St) (fun m => m ≤ l.length) (fun m => l.length - m) 0 ⟨⟨rfl, ⟨(eqI (by simp)), ⟨rfl, ⟨rfl, trivial⟩⟩⟩⟩, ⟨(eqR (by simp [seqI])), trivial⟩, rfl⟩ (by simp) ?_
 rintro m hI ih0
 try dsimp only at hI ih0
 have hlen : (seqI k m ++ l.drop m).length = l.length := by simp [seqI_length]; omega
 refine t_seq ?_
 refine tsr ?_
 refine r_op oM ?_
 refine r_op oM ?_
 refine r_op (o_leno rfl rfl rfl rfl) ?_
 refine r_op oB ?_
 refine r_end ?_
 refine t_cond rfl (fun h1 => ?_) (fun h1 => ?_)
 ·
  have h1' := of_decide_eq_true h1
  refine t_skip ?_
  refine t_seq ?_
  refine t_block ?_
  refine tsr ?_
  refine r_op oM ?_
  refine r_op oM ?_
  refine r_op oM ?_
  obtain ⟨z2, hz3, b4⟩ := at_get (xs := seqI k m ++ l.drop m) (n := (m : Int)) (by omega) (by omega)
  refine r_op (o_indexo rfl (by kernel_rfl) rfl rfl rfl b4 (at_lt b4 hz3)) ?_
  refine r_op (o_storeo (k + m) (n := 1) (by kernel_rfl) rfl rfl hz3 rfl rfl rfl rfl (.cons .sc .nil) rfl (fun j h1 h2 => by (simp at h1 h2; omega))) ?_
  refine rtr ?_
  refine r_op oM ?_
  refine r_op oB ?_
  refine r_op oA ?_
  refine r_end ?_
  refine t_endblock ?_
  refine t_region ?_
  refine r_op oM ?_
  refine r_op oB ?_
  refine r_op oA ?_
  refine r_end ?_
  refine t_le ?_ (ih0 (m + 1) (by (try dsimp only); omega) (by (try dsimp only); omega))
  exact ⟨⟨rfl, ⟨(eqI (by rw [wr64 (by omega) (by omega)]; omega)), ⟨rfl, ⟨(eqI (wrS (by omega))), trivial⟩⟩⟩⟩, ⟨(eqR (seq_set (z := 0) (by omega))), trivial⟩, rfl⟩
 ·
  have h1' := of_decide_eq_false h1
  refine t_exit rfl ?_
  refine tsr ?_
  refine r_op oM ?_
  refine r_op oA ?_
  refine r_end ?_
  refine t_ret Tryz.func18 (.tmp rfl .nil) rfl fun E S w u hI hd => ?_
  refine postM_mk hI hd ?_ ⟨eqR ?_, trivial⟩ rfl rfl <;> clear hI hd <;> (try clear ih0)
  all_goals ((obtain rfl : m = l.length := by omega); simp)
set_option maxHeartbeats 1000000 in
set_option maxRecDepth 10000 in
theorem c_laws_markFactS (U : Nat → Value) (e0 : Nat) (l : List (Int × List Int)) (k : Int) (hk : 0 ≤ k) (hkl : k + ((szS (fun (x : Int × (List (Int))) => (x.2).length) l : Nat) : Int) < 4611686018427387904) : Mu Tryz.prog 64 [.c (.own 0), .c (.t none (.v (.int .i64 (k))))] [(0, some (.row (some (U 0)) e0 true 2 (enS2 encI (enSl 1 encI)) (l)))] 1 [(0, some (.row (some (U 0)) e0 true 2 (enS2 encI (enSl 1 encI)) (markATS k l)))] 1 (.c (.t none (.v (.int .i64 (k + ((szS (fun (x : Int × (List (Int))) => (x.2).length) l : Nat) : Int)))))) := by
 refine mu_enter Tryz.func64 rfl (Nat.le_of_ble_eq_true rfl) fun w S M => ?_
 have gl := sz_len (f := (fun (x : Int × (List (Int))) => (x.2).length)) (l := l); have ga := ctA_sum l
 refine tsr ?_
 refine r_op oA ?_
 refine r_end ?_
 refine t_seq ?_
 refine tsr ?_
 refine r_op oA ?_
 refine r_end ?_
 refine t_block ?_
 refine t_loopL (fun m => ⟨[(0, some (.c (.own 0))), (1, some (.c (.t none (.v (.int .i64 (k + ((szT ctA l m : Nat) : Int))))))), (4, some (.c (.t none (.v (.int .i64 (0)))))), (5, some (.c (.t none (.v (.int .i64 ((m : Int)))))))], [(0, some (.row (some (U 0)) e0 true 2 (enS2 encI (enSl 1 encI)) (mkL markAT ctA k (l.take m) ++ l.drop m)))], 1⟩ : Nat → St) (fun m => m ≤ l.length) (fun m => l.length - m) 0 ⟨⟨rfl, ⟨(eqI (by simp [szT_zero])), ⟨rfl, ⟨rfl, trivial⟩⟩⟩⟩, ⟨(eqR (by simp [mkL])), trivial⟩, rfl⟩ (by simp) ?_
 rintro m hI ih0
 try dsimp only at hI ih0
 have i1 := hI; have e2 := ctA_part l m; have hlen : (mkL markAT ctA k (l.take m) ++ l.drop m).length = l.length := by (simp [mkL_length]; omega)
 refine t_seq ?_
 refine tsr ?_
 refine r_op oM ?_
 refine r_op oM ?_
 refine r_op (o_leno rfl rfl rfl rfl) ?_
 refine r_op oB ?_
 refine r_end ?_
 refine t_cond rfl (fun h1 => ?_) (fun h1 => ?_)
 ·
  have h1' := of_decide_eq_true h1
  refine t_skip ?_
  refine t_seq ?_
  refine t_block ?_
  refine tsr ?_
  refine r_op oM ?_
  refine r_op oM ?_
  refine r_op oM ?_
  obtain ⟨z2, hz3, b4⟩ := at_get (xs := mkL markAT ctA k (l.take m) ++ l.drop m) (n := (m : Int)) (by omega) (by omega)
  refine r_op (o_indexo rfl (by kernel_rfl) rfl rfl rfl b4 (at_lt b4 hz3)) ?_
  refine r_op (o_fieldo rfl (off := 0) (by kernel_rfl) rfl) ?_
  refine r_op (o_storeo ((k + ((szT ctA l m : Nat) : Int), z2.2)) (n := 1) (by kernel_rfl) rfl rfl hz3 rfl rfl rfl rfl (.cons .sc .nil) rfl (fun j h1 h2 => by (have : j = 0 ∨ j = 1 ∨ j = 2 ∨ j = 3 ∨ j = 4 := by omega); rcases this with rfl | rfl | rfl | rfl | rfl <;> first | rfl | (simp at h2; done))) ?_
  refine etr ?_
  refine r_op oM ?_
  refine r_op oB ?_
  refine r_op oA ?_
  refine rtr ?_
  refine r_op oM ?_
  refine r_op oM ?_
  obtain ⟨z5, hz6, b7⟩ := at_get (xs := (mkL markAT ctA k (l.take m) ++ l.drop m).set ((m : Int)).toNat ((k + ((szT ctA l m : Nat) : Int), z2.2))) (n := (m : Int)) (by omega) (by (simp [mkL_length, markATS]; omega))
  refine r_op (o_indexo rfl (by kernel_rfl) rfl rfl rfl b7 (at_lt b7 hz6)) ?_
  refine r_op (o_fieldo rfl (off := 1) (by kernel_rfl) rfl) ?_
  refine r_op (o_loadc rfl (by kernel_rfl) rfl rfl rfl hz6) ?_
  refine r_op oM ?_
  refine r_op (o_callK 0 (((m : Int)).toNat) 2 1 ((z5.1, seqI (IntKind.i64.wrap ((k + ((szT ctA l m : Nat) : Int)) + 1)) (z5.2).length)) (Go.Proofs.enters_of Tryz.func18 (by kernel_rfl) rfl) (fun e' U => c_laws_markIntS U e' (z5.2) (IntKind.i64.wrap ((k + ((szT ctA l m : Nat) : Int)) + 1)) (by (have e5 := congrArg (fun q => q.2.length) (set_at hz6); have e6 := szT_step (f := ctA) (mkL_at hz3 i1); have e7 := ctA_part l (m + 1); simp only [ctA] at e6; (try dsimp only at e5); simp only [IntKind.wrap_i64]; omega)) (by (have e5 := congrArg (fun q => q.2.length) (set_at hz6); have e6 := szT_step (f := ctA) (mkL_at hz3 i1); have e7 := ctA_part l (m + 1); simp only [ctA] at e6; (try dsimp only at e5); simp only [IntKind.wrap_i64]; omega))) rfl rfl hz6 rfl rfl rfl (fun j h1 h2 => by (have : j = 0 ∨ j = 1 ∨ j = 2 ∨ j = 3 ∨ j = 4 := by omega); rcases this with rfl | rfl | rfl | rfl | rfl <;> first | rfl | omega) (.cons rfl .cel (.cons rfl .t0 .nil)) rfl) ?_
  refine r_op oA ?_
  refine r_end ?_
  refine t_endblock ?_
  refine t_region ?_
  refine r_op oM ?_
  refine r_op oB ?_
  refine r_op oA ?_
  refine r_end ?_
  have q5 := set_at hz6; have q6 := szT_step (f := ctA) (mkL_at hz3 i1); have q7 := ctA_part l (m + 1); simp only [ctA] at q6; subst q5; have q8 : IntKind.i64.wrap ((k + ((szT ctA l m : Nat) : Int)) + 1) = (k + ((szT ctA l m : Nat) : Int)) + 1 := wr64 (by omega) (by omega)
  refine t_le ?_ (ih0 (m + 1) (by (try dsimp only); omega) (by (try dsimp only); omega))
  exact ⟨⟨rfl, ⟨(eqI (by rw [q8]; (try dsimp only); omega)), ⟨rfl, ⟨(eqI (wrS (by omega))), trivial⟩⟩⟩⟩, ⟨(eqR (markAT_set (mkL_at hz3 i1) (by rw [q8]; rfl))), trivial⟩, rfl⟩
 ·
  have h1' := of_decide_eq_false h1
  refine t_exit rfl ?_
  refine tsr ?_
  refine r_op oM ?_
  refine r_op oA ?_
  refine r_end ?_
  refine t_ret Tryz.func64 (.tmp rfl .nil) rfl fun E S w u hI hd => ?_
  refine postM_mk hI hd ?_ ⟨eqR ?_, trivial⟩ rfl rfl <;> clear hI hd <;> (try clear ih0)
  all_goals ((obtain rfl : m = l.length := by omega); first | (simp [markATS]; done) | (rw [← ga]; simp [szT]))
set_option maxHeartbeats 1000000 in
set_option maxRecDepth 10000 in
theorem c_laws_markInstance (U : Nat → Value) (e0 e1 : Nat) (a0 : Rels) (a1 : Atoms) (k : Int) (hk : 0 < k) (hkl : k + 3 * ((a0.length : Nat) : Int) + ((szS (fun (x : Int × (List (Int))) => (x.2).length) a1 : Nat) : Int) < 4611686018427387904) : Mu Tryz.prog 16 [.agg [.own 0, .own 1], .c (.t none (.v (.int .i64 (k))))] [(0, some (.row (some (U 0)) e0 true 3 (enS3 encS encI encB) (a0))), (1, some (.row (some (U 1)) e1 true 2 (enS2 encI (enSl 1 encI)) (a1)))] 2 [(0, some (.row (some (U 0)) e0 true 3 (enS3 encS encI encB) (markRS k a0))), (1, some (.row (some (U 1)) e1 true 2 (enS2 encI (enSl 1 encI)) (markATS (k + 3 * ((a0.length : Nat) : Int)) a1)))] 2 (.c (.t none (.v (.int .i64 (k + 3 * ((a0.length : Nat) : Int) + ((szS (fun (x : Int × (List (Int))) => (x.2).length) a1 : Nat) : Int)))))) := by
 refine mu_enter Tryz.func16 rfl (Nat.le_of_ble_eq_true rfl) fun w S M => ?_
 refine tsr ?_
 refine r_op (o_box 2 rfl rfl rfl rfl) ?_
 refine r_op oA ?_
 refine etr ?_
 refine r_op (oF 0) ?_
 refine r_op oL ?_
 refine r_op oM ?_
 refine r_op (o_callH [⟨0, (some (U 0)), e0, 3, _, (enS3 encS encI encB), a0, markRS (k) (a0)⟩] (Go.Proofs.enters_of Tryz.func63 (by kernel_rfl) rfl) (fun U => c_laws_markRelationS U e0 (a0) (k) (by omega) (by omega)) rfl ⟨rfl, trivial⟩ rfl rfl (.cons rfl (.own rfl) (.cons rfl .t0 .nil)) rfl) ?_
 refine r_op oA ?_
 refine etr ?_
 refine r_op (oF 1) ?_
 refine r_op oL ?_
 refine r_op oM ?_
 refine r_op (o_callH [⟨1, (some (U 1)), e1, 2, _, (enS2 encI (enSl 1 encI)), a1, markATS ((k) + 3 * (((a0).length : Nat) : Int)) (a1)⟩] (Go.Proofs.enters_of Tryz.func64 (by kernel_rfl) rfl) (fun U => c_laws_markFactS U e1 (a1) ((k) + 3 * (((a0).length : Nat) : Int)) (by omega) (by omega)) rfl ⟨rfl, trivial⟩ rfl rfl (.cons rfl (.own rfl) (.cons rfl .t0 .nil)) rfl) ?_
 refine r_op oA ?_
 refine etr ?_
 refine r_op oM ?_
 refine r_op oA ?_
 refine r_end ?_
 refine t_ret Tryz.func16 (.tmp rfl .nil) rfl fun E S w u hI hd => ?_
 refine postM_mk hI hd ?_ ⟨eqR ?_, ⟨eqR ?_, trivial⟩⟩ rfl rfl <;> clear hI hd
 all_goals (rfl)
set_option maxHeartbeats 1000000 in
set_option maxRecDepth 10000 in
theorem c_laws_markAtomS (U : Nat → Value) (e0 : Nat) (l : List (Int × List Int)) (k : Int) (hk : 0 ≤ k) (hkl : k + ((szS (fun (x : Int × (List (Int))) => (x.2).length) l : Nat) : Int) < 4611686018427387904) : Mu Tryz.prog 65 [.c (.own 0), .c (.t none (.v (.int .i64 (k))))] [(0, some (.row (some (U 0)) e0 true 2 (enS2 encI (enSl 1 encI)) (l)))] 1 [(0, some (.row (some (U 0)) e0 true 2 (enS2 encI (enSl 1 encI)) (markATS k l)))] 1 (.c (.t none (.v (.int .i64 (k + ((szS (fun (x : Int × (List (Int))) => (x.2).length) l : Nat) : Int)))))) := by
 refine mu_enter Tryz.func65 rfl (Nat.le_of_ble_eq_true rfl) fun w S M => ?_
 have gl := sz_len (f := (fun (x : Int × (List (Int))) => (x.2).length)) (l := l); have ga := ctA_sum l
 refine tsr ?_
 refine r_op oA ?_
 refine r_end ?_
 refine t_seq ?_
 refine tsr ?_
 refine r_op oA ?_
 refine r_end ?_
 refine t_block ?_
 refine t_loopL (fun m => ⟨[(0, some (.c (.own 0))), (1, some (.c (.t none (.v (.int .i64 (k + ((szT ctA l m : Nat) : Int))))))), (4, some (.c (.t none (.v (.int .i64 (0)))))), (5, some (.c (.t none (.v (.int .i64 ((m : Int)))))))], [(0, some (.row (some (U 0)) e0 true 2 (enS2 encI (enSl 1 encI)) (mkL markAT ctA k (l.take m) ++ l.drop m)))], 1⟩ : Nat → St) (fun m => m ≤ l.length) (fun m => l.length - m) 0 ⟨⟨rfl, ⟨(eqI (by simp [szT_zero])), ⟨rfl, ⟨rfl, trivial⟩⟩⟩⟩, ⟨(eqR (by simp [mkL])), trivial⟩, rfl⟩ (by simp) ?_
 rintro m hI ih0
 try dsimp only at hI ih0
 have i1 := hI; have e2 := ctA_part l m; have hlen : (mkL markAT ctA k (l.take m) ++ l.drop m).length = l.length := by (simp [mkL_length]; omega)
 refine t_seq ?_
 refine tsr ?_
 refine r_op oM ?_
 refine r_op oM ?_
 refine r_op (o_leno rfl rfl rfl rfl) ?_
 refine r_op oB ?_
 refine r_end ?_
 refine t_cond rfl (fun h1 => ?_) (fun h1 => ?_)
 ·
  have h1' := of_decide_eq_true h1
  refine t_skip ?_
  refine t_seq ?_
  refine t_block ?_
  refine tsr ?_
  refine r_op oM ?_
  refine r_op oM ?_
  refine r_op oM ?_
  obtain ⟨z2, hz3, b4⟩ := at_get (xs := mkL markAT ctA k (l.take m) ++ l.drop m) (n := (m : Int)) (by omega) (by omega)
  refine r_op (o_indexo rfl (by kernel_rfl) rfl rfl rfl b4 (at_lt b4 hz3)) ?_
  refine r_op (o_fieldo rfl (off := 0) (by kernel_rfl) rfl) ?_
  refine r_op (o_storeo ((k + ((szT ctA l m : Nat) : Int), z2.2)) (n := 1) (by kernel_rfl) rfl rfl hz3 rfl rfl rfl rfl (.cons .sc .nil) rfl (fun j h1 h2 => by (have : j = 0 ∨ j = 1 ∨ j = 2 ∨ j = 3 ∨ j = 4 := by omega); rcases this with rfl | rfl | rfl | rfl | rfl <;> first | rfl | (simp at h2; done))) ?_
  refine etr ?_
  refine r_op oM ?_
  refine r_op oB ?_
  refine r_op oA ?_
  refine rtr ?_
  refine r_op oM ?_
  refine r_op oM ?_
  obtain ⟨z5, hz6, b7⟩ := at_get (xs := (mkL markAT ctA k (l.take m) ++ l.drop m).set ((m : Int)).toNat ((k + ((szT ctA l m : Nat) : Int), z2.2))) (n := (m : Int)) (by omega) (by (simp [mkL_length, markATS]; omega))
  refine r_op (o_indexo rfl (by kernel_rfl) rfl rfl rfl b7 (at_lt b7 hz6)) ?_
  refine r_op (o_fieldo rfl (off := 1) (by kernel_rfl) rfl) ?_
  refine r_op (o_loadc rfl (by kernel_rfl) rfl rfl rfl hz6) ?_
  refine r_op oM ?_
  refine r_op (o_callK 0 (((m : Int)).toNat) 2 1 ((z5.1, seqI (IntKind.i64.wrap ((k + ((szT ctA l m : Nat) : Int)) + 1)) (z5.2).length)) (Go.Proofs.enters_of Tryz.func18 (by kernel_rfl) rfl) (fun e' U => c_laws_markIntS U e' (z5.2) (IntKind.i64.wrap ((k + ((szT ctA l m : Nat) : Int)) + 1)) (by (have e5 := congrArg (fun q => q.2.length) (set_at hz6); have e6 := szT_step (f := ctA) (mkL_at hz3 i1); have e7 := ctA_part l (m + 1); simp only [ctA] at e6; (try dsimp only at e5); simp only [IntKind.wrap_i64]; omega)) (by (have e5 := congrArg (fun q => q.2.length) (set_at hz6); have e6 := szT_step (f := ctA) (mkL_at hz3 i1); have e7 := ctA_part l (m + 1); simp only [ctA] at e6; (try dsimp only at e5); simp only [IntKind.wrap_i64]; omega))) rfl rfl hz6 rfl rfl rfl (fun j h1 h2 => by (have : j = 0 ∨ j = 1 ∨ j = 2 ∨ j = 3 ∨ j = 4 := by omega); rcases this with rfl | rfl | rfl | rfl | rfl <;> first | rfl | omega) (.cons rfl .cel (.cons rfl .t0 .nil)) rfl) ?_
  refine r_op oA ?_
  refine r_end ?_
  refine t_endblock ?_
  refine t_region ?_
  refine r_op oM ?_
  refine r_op oB ?_
  refine r_op oA ?_
  refine r_end ?_
  have q5 := set_at hz6; have q6 := szT_step (f := ctA) (mkL_at hz3 i1); have q7 := ctA_part l (m + 1); simp only [ctA] at q6; subst q5; have q8 : IntKind.i64.wrap ((k + ((szT ctA l m : Nat) : Int)) + 1) = (k + ((szT ctA l m : Nat) : Int)) + 1 := wr64 (by omega) (by omega)
  refine t_le ?_ (ih0 (m + 1) (by (try dsimp only); omega) (by (try dsimp only); omega))
  exact ⟨⟨rfl, ⟨(eqI (by rw [q8]; (try dsimp only); omega)), ⟨rfl, ⟨(eqI (wrS (by omega))), trivial⟩⟩⟩⟩, ⟨(eqR (markAT_set (mkL_at hz3 i1) (by rw [q8]; rfl))), trivial⟩, rfl⟩
 ·
  have h1' := of_decide_eq_false h1
  refine t_exit rfl ?_
  refine tsr ?_
  refine r_op oM ?_
  refine r_op oA ?_
  refine r_end ?_
  refine t_ret Tryz.func65 (.tmp rfl .nil) rfl fun E S w u hI hd => ?_
  refine postM_mk hI hd ?_ ⟨eqR ?_, trivial⟩ rfl rfl <;> clear hI hd <;> (try clear ih0)
  all_goals ((obtain rfl : m = l.length := by omega); first | (simp [markATS]; done) | (rw [← ga]; simp [szT]))
set_option maxHeartbeats 1000000 in
set_option maxRecDepth 10000 in
theorem c_laws_markDependency (U : Nat → Value) (e0 e1 : Nat) (a0 : List (Int × (List (Int)))) (a1 : List (Int × (List (Int)))) (a2 : Bool) (a3 : Int) (a4 : Int) (k : Int) (hk : 0 ≤ k) (hkl : k + ((szS (fun (x : Int × (List (Int))) => (x.2).length) a0 : Nat) : Int) + ((szS (fun (x : Int × (List (Int))) => (x.2).length) a1 : Nat) : Int) < 4611686018427387904) : Mu Tryz.prog 17 [.agg [.own 0, .own 1, .t none (.v (.bool (a2))), .t none (.v (.int .i64 (a3))), .t none (.v (.int .i64 (a4)))], .c (.t none (.v (.int .i64 (k))))] [(0, some (.row (some (U 0)) e0 true 2 (enS2 encI (enSl 1 encI)) (a0))), (1, some (.row (some (U 1)) e1 true 2 (enS2 encI (enSl 1 encI)) (a1)))] 2 [(0, some (.row (some (U 0)) e0 true 2 (enS2 encI (enSl 1 encI)) (markATS k a0))), (1, some (.row (some (U 1)) e1 true 2 (enS2 encI (enSl 1 encI)) (markATS (k + ((szS (fun (x : Int × (List (Int))) => (x.2).length) a0 : Nat) : Int)) a1)))] 2 (.c (.t none (.v (.int .i64 (k + ((szS (fun (x : Int × (List (Int))) => (x.2).length) a0 : Nat) : Int) + ((szS (fun (x : Int × (List (Int))) => (x.2).length) a1 : Nat) : Int)))))) := by
 refine mu_enter Tryz.func17 rfl (Nat.le_of_ble_eq_true rfl) fun w S M => ?_
 refine tsr ?_
 refine r_op (o_box 2 rfl rfl rfl rfl) ?_
 refine r_op oA ?_
 refine etr ?_
 refine r_op (oF 0) ?_
 refine r_op oL ?_
 refine r_op oM ?_
 refine r_op (o_callH [⟨0, (some (U 0)), e0, 2, _, (enS2 encI (enSl 1 encI)), a0, markATS (k) (a0)⟩] (Go.Proofs.enters_of Tryz.func65 (by kernel_rfl) rfl) (fun U => c_laws_markAtomS U e0 (a0) (k) (by omega) (by omega)) rfl ⟨rfl, trivial⟩ rfl rfl (.cons rfl (.own rfl) (.cons rfl .t0 .nil)) rfl) ?_
 refine r_op oA ?_
 refine etr ?_
 refine r_op (oF 1) ?_
 refine r_op oL ?_
 refine r_op oM ?_
 refine r_op (o_callH [⟨1, (some (U 1)), e1, 2, _, (enS2 encI (enSl 1 encI)), a1, markATS ((k) + ((szS (fun (x : Int × (List (Int))) => (x.2).length) (a0) : Nat) : Int)) (a1)⟩] (Go.Proofs.enters_of Tryz.func65 (by kernel_rfl) rfl) (fun U => c_laws_markAtomS U e1 (a1) ((k) + ((szS (fun (x : Int × (List (Int))) => (x.2).length) (a0) : Nat) : Int)) (by omega) (by omega)) rfl ⟨rfl, trivial⟩ rfl rfl (.cons rfl (.own rfl) (.cons rfl .t0 .nil)) rfl) ?_
 refine r_op oA ?_
 refine etr ?_
 refine r_op oM ?_
 refine r_op oA ?_
 refine r_end ?_
 refine t_ret Tryz.func17 (.tmp rfl .nil) rfl fun E S w u hI hd => ?_
 refine postM_mk hI hd ?_ ⟨eqR ?_, ⟨eqR ?_, trivial⟩⟩ rfl rfl <;> clear hI hd
 all_goals (rfl)
set_option maxHeartbeats 1000000 in
set_option maxRecDepth 10000 in
theorem c_laws_heldRelationS (l : Rels) (k : Int) (hk : 0 < k) (hkl : k + 3 * ((l.length : Nat) : Int) < 4611686018427387904) : Pu Tryz.prog 66 [.c (.t none (.sl 3 (enS3 encS encI encB) (l))), .c (.t none (.v (.int .i64 (k))))] [] 0 (.c (.t none (.v (.int .i64 (if l = markRS k l then k + 3 * ((l.length : Nat) : Int) else -1))))) := by
 refine pu_enter Tryz.func66 rfl (Nat.le_of_ble_eq_true rfl) fun w S => ?_
 refine tsr ?_
 refine r_op oA ?_
 refine r_end ?_
 refine t_seq ?_
 refine tsr ?_
 refine r_op oA ?_
 refine r_end ?_
 refine t_block ?_
 refine t_loopL (fun m => ⟨[(0, some (.c (.t none (.sl 3 (enS3 encS encI encB) (l))))), (1, some (.c (.t none (.v (.int .i64 (k + 3 * (m : Int))))))), (5, some (.c (.t none (.v (.int .i64 ((m : Int)))))))], [], 0⟩ : Nat → St) (fun m => m ≤ l.length ∧ l.take m = mkL markR ct3 k (l.take m)) (fun m => l.length - m) 0 ⟨⟨rfl, ⟨(eqI (by omega)), ⟨rfl, trivial⟩⟩⟩, trivial, rfl⟩ (by exact ⟨Nat.zero_le _, rfl⟩) ?_
 rintro m hI ih0
 try dsimp only at hI ih0
 obtain ⟨i1, i2⟩ := hI; have q3 := szT_ct3 (α := List UInt8 × Int × Bool) l i1; have ek : k + ((szT ct3 l m : Nat) : Int) = k + 3 * (m : Int) := (by omega)
 refine t_seq ?_
 refine tsr ?_
 refine r_op oM ?_
 refine r_op oM ?_
 refine r_op (o_len rfl rfl rfl) ?_
 refine r_op oB ?_
 refine r_end ?_
 refine t_cond rfl (fun h1 => ?_) (fun h1 => ?_)
 ·
  have h1' := of_decide_eq_true h1
  refine t_skip ?_
  refine t_seq ?_
  refine t_block ?_
  refine t_seq ?_
  refine t_seq ?_
  refine t_draw (fun _ => true) (by kernel_rfl) ?_
  refine dT 0 rfl pM ?_
  refine dT 1 rfl pM ?_
  obtain ⟨z2, hz3, b4⟩ := at_get (xs := l) (n := (m : Int)) (by omega) (by omega)
  refine dT 2 rfl (p_index (by kernel_rfl) rfl rfl b4 hz3) ?_
  refine dT 3 rfl (p_field (off := 0) (by kernel_rfl) rfl) ?_
  refine dT 4 rfl (p_load1 (by kernel_rfl) rfl rfl) ?_
  refine dT 5 rfl pM ?_
  refine dO 6 rfl (o_call 0 0 false (Go.Proofs.enters_of Tryz.func120 (by kernel_rfl) rfl) (c_laws_markText (k + 3 * (m : Int)) (by omega) (by omega)) rfl (.cons rfl (.c .t0) .nil) rfl rfl rfl) ?_
  refine dT 7 rfl (p_str rfl rfl rfl) ?_
  refine d_end (by kernel_rfl) ?_
  refine t_cond rfl (fun h5 => ?_) (fun h5 => ?_)
  ·
   have h5' := of_decide_eq_true h5
   refine tsr ?_
   refine r_op oA ?_
   refine r_end ?_
   refine t_ret Tryz.func66 (.tmp rfl .nil) rfl fun E S w u hI hd => ?_
   refine post_mk hI hd ?_ trivial rfl rfl rfl <;> clear hI hd <;> (try clear ih0)
   all_goals (refine scI ?_; unfold markRS; (rw [if_neg (heldL_ne (f := markR) (ct := ct3) (m := m) hz3 rfl (by rw [ek]; exact markR_ne1 (by assumption)))]; done))
  ·
   have h5' := of_decide_eq_false h5
   refine t_skip ?_
   refine tsr ?_
   refine r_op oM ?_
   refine r_op oB ?_
   refine r_op oA ?_
   refine r_end ?_
   refine t_seq ?_
   refine tsr ?_
   refine r_op oM ?_
   refine r_op oM ?_
   refine r_op (o_index rfl (by kernel_rfl) rfl rfl b4 hz3) ?_
   refine r_op (o_field rfl (off := 1) (by kernel_rfl) rfl) ?_
   refine r_op (o_load1 rfl (by kernel_rfl) rfl rfl) ?_
   refine r_op oM ?_
   refine r_op oB ?_
   refine r_end ?_
   refine t_cond rfl (fun h6 => ?_) (fun h6 => ?_)
   ·
    have h6' := of_decide_eq_true h6
    refine tsr ?_
    refine r_op oA ?_
    refine r_end ?_
    refine t_ret Tryz.func66 (.tmp rfl .nil) rfl fun E S w u hI hd => ?_
    refine post_mk hI hd ?_ trivial rfl rfl rfl <;> clear hI hd <;> (try clear ih0)
    all_goals (refine scI ?_; unfold markRS; (rw [if_neg (heldL_ne (f := markR) (ct := ct3) (m := m) hz3 rfl (by rw [ek]; exact markR_ne2 (by assumption) (by simp only [IntKind.wrap_i64]; omega)))]; done))
   ·
    have h6' := of_decide_eq_false h6
    refine t_skip ?_
    refine tsr ?_
    refine r_op oM ?_
    refine r_op oB ?_
    refine r_op oA ?_
    refine r_end ?_
    refine t_seq ?_
    refine tsr ?_
    refine r_op oM ?_
    refine r_op oM ?_
    refine r_op (o_index rfl (by kernel_rfl) rfl rfl b4 hz3) ?_
    refine r_op (o_field rfl (off := 2) (by kernel_rfl) rfl) ?_
    refine r_op (o_load1 rfl (by kernel_rfl) rfl rfl) ?_
    refine r_op oM ?_
    refine r_op (o_binD rfl rfl rfl (rfl)) ?_
    refine r_op oB ?_
    refine r_op (o_neB rfl Tryz.underlying4 rfl rfl) ?_
    refine r_end ?_
    refine t_cond rfl (fun h7 => ?_) (fun h7 => ?_)
    ·
     have h7' := h7
     try simp only [decide_eq_true_eq, decide_eq_false_iff_not, Bool.not_eq_true', Bool.not_eq_false', Bool.not_false, Bool.not_true] at h7'
     refine tsr ?_
     refine r_op oA ?_
     refine r_end ?_
     refine t_ret Tryz.func66 (.tmp rfl .nil) rfl fun E S w u hI hd => ?_
     refine post_mk hI hd ?_ trivial rfl rfl rfl <;> clear hI hd <;> (try clear ih0)
     all_goals (refine scI ?_; unfold markRS; (rw [if_neg (heldL_ne (f := markR) (ct := ct3) (m := m) hz3 rfl (by rw [ek]; exact markR_ne3 (by assumption) (by simp only [IntKind.wrap_i64]; omega)))]; done))
    ·
     have h7' := h7
     try simp only [decide_eq_true_eq, decide_eq_false_iff_not, Bool.not_eq_true', Bool.not_eq_false', Bool.not_false, Bool.not_true] at h7'
     refine t_skip ?_
     refine t_region ?_
     refine r_op oM ?_
     refine r_op oB ?_
     refine r_op oA ?_
     refine r_end ?_
     refine t_endblock ?_
     refine t_region ?_
     refine r_op oM ?_
     refine r_op oB ?_
     refine r_op oA ?_
     refine r_end ?_
     refine t_le ?_ (ih0 (m + 1) (by (try dsimp only); omega) (by (try dsimp only); exact ⟨by omega, heldL_step i2 hz3 rfl (by rw [ek]; exact markR_of (by assumption) (by assumption) (by assumption) (by simp only [IntKind.wrap_i64]; omega) (by simp only [IntKind.wrap_i64]; omega))⟩))
     exact ⟨⟨rfl, ⟨(eqI (by simp only [IntKind.wrap_i64]; omega)), ⟨(eqI (wr64 (by omega) (by omega))), trivial⟩⟩⟩, trivial, rfl⟩
 ·
  have h1' := of_decide_eq_false h1
  refine t_exit rfl ?_
  refine tsr ?_
  refine r_op oM ?_
  refine r_op oA ?_
  refine r_end ?_
  refine t_ret Tryz.func66 (.tmp rfl .nil) rfl fun E S w u hI hd => ?_
  refine post_mk hI hd ?_ trivial rfl rfl rfl <;> clear hI hd <;> (try clear ih0)
  all_goals (refine scI ?_; unfold markRS; ((obtain rfl : m = l.length := by omega); rw [List.take_length] at i2; rw [if_pos i2]))
set_option maxHeartbeats 1000000 in
set_option maxRecDepth 10000 in
theorem c_laws_heldIntS (l : List Int) (k : Int) (hk : 0 ≤ k) (hkl : k + l.length < 4611686018427387904) : Pu Tryz.prog 70 [.c (.t none (.sl 1 encI (l))), .c (.t none (.v (.int .i64 (k))))] [] 0 (.c (.t none (.v (.int .i64 (if l = seqI k l.length then k + l.length else -1))))) := by
 refine pu_enter Tryz.func70 rfl (Nat.le_of_ble_eq_true rfl) fun w S => ?_
 refine tsr ?_
 refine r_op oA ?_
 refine r_end ?_
 refine t_seq ?_
 refine tsr ?_
 refine r_op oA ?_
 refine r_end ?_
 refine t_block ?_
 refine t_loopL (fun m => ⟨[(0, some (.c (.t none (.sl 1 encI (l))))), (1, some (.c (.t none (.v (.int .i64 (k + m)))))), (5, some (.c (.t none (.v (.int .i64 ((m : Int)))))))], [], 0⟩ : Nat → St) (fun m => m ≤ l.length ∧ l.take m = seqI k m) (fun m => l.length - m) 0 ⟨⟨rfl, ⟨(eqI (by simp)), ⟨rfl, trivial⟩⟩⟩, trivial, rfl⟩ (by exact ⟨Nat.zero_le _, rfl⟩) ?_
 rintro m hI ih0
 try dsimp only at hI ih0
 obtain ⟨i1, i2⟩ := hI
 refine t_seq ?_
 refine tsr ?_
 refine r_op oM ?_
 refine r_op oM ?_
 refine r_op (o_len rfl rfl rfl) ?_
 refine r_op oB ?_
 refine r_end ?_
 refine t_cond rfl (fun h1 => ?_) (fun h1 => ?_)
 ·
  have h1' := of_decide_eq_true h1
  refine t_skip ?_
  refine t_seq ?_
  refine t_block ?_
  refine t_seq ?_
  refine tsr ?_
  refine r_op oM ?_
  refine r_op oM ?_
  obtain ⟨z2, hz3, b4⟩ := at_get (xs := l) (n := (m : Int)) (by omega) (by omega)
  refine r_op (o_index rfl (by kernel_rfl) rfl rfl b4 hz3) ?_
  refine r_op (o_load1 rfl (by kernel_rfl) rfl rfl) ?_
  refine r_op oM ?_
  refine r_op oB ?_
  refine r_end ?_
  refine t_cond rfl (fun h5 => ?_) (fun h5 => ?_)
  ·
   have h5' := of_decide_eq_true h5
   refine tsr ?_
   refine r_op oA ?_
   refine r_end ?_
   refine t_ret Tryz.func70 (.tmp rfl .nil) rfl fun E S w u hI hd => ?_
   refine post_mk hI hd ?_ trivial rfl rfl rfl <;> clear hI hd <;> (try clear ih0)
   all_goals (rw [if_neg (held_ne i2 (by assumption) (by assumption))])
  ·
   have h5' := of_decide_eq_false h5
   refine t_skip ?_
   refine t_region ?_
   refine r_op oM ?_
   refine r_op oB ?_
   refine r_op oA ?_
   refine r_end ?_
   refine t_endblock ?_
   refine t_region ?_
   refine r_op oM ?_
   refine r_op oB ?_
   refine r_op oA ?_
   refine r_end ?_
   refine t_le ?_ (ih0 (m + 1) (by (try dsimp only); omega) (by (try dsimp only); exact ⟨by omega, held_step i2 (by assumption) rfl (by omega)⟩))
   exact ⟨⟨rfl, ⟨(eqI (by rw [wr64 (by omega) (by omega)]; omega)), ⟨(eqI (wrS (by omega))), trivial⟩⟩⟩, trivial, rfl⟩
 ·
  have h1' := of_decide_eq_false h1
  refine t_exit rfl ?_
  refine tsr ?_
  refine r_op oM ?_
  refine r_op oA ?_
  refine r_end ?_
  refine t_ret Tryz.func70 (.tmp rfl .nil) rfl fun E S w u hI hd => ?_
  refine post_mk hI hd ?_ trivial rfl rfl rfl <;> clear hI hd <;> (try clear ih0)
  all_goals ((obtain rfl : m = l.length := by omega); rw [List.take_length] at i2; rw [if_pos i2])
set_option maxHeartbeats 1000000 in
set_option maxRecDepth 10000 in
theorem c_laws_heldFactS (l : Atoms) (k : Int) (hk : 0 ≤ k) (hkl : k + ((szS (fun (x : Int × (List (Int))) => (x.2).length) l : Nat) : Int) < 4611686018427387904) : Pu Tryz.prog 67 [.c (.t none (.sl 2 (enS2 encI (enSl 1 encI)) (l))), .c (.t none (.v (.int .i64 (k))))] [] 0 (.c (.t none (.v (.int .i64 (if l = markATS k l then k + ((szS (fun (x : Int × (List (Int))) => (x.2).length) l : Nat) : Int) else -1))))) := by
 refine pu_enter Tryz.func67 rfl (Nat.le_of_ble_eq_true rfl) fun w S => ?_
 have gl := sz_len (f := (fun (x : Int × (List (Int))) => (x.2).length)) (l := l); have ga := ctA_sum l
 refine tsr ?_
 refine r_op oA ?_
 refine r_end ?_
 refine t_seq ?_
 refine tsr ?_
 refine r_op oA ?_
 refine r_end ?_
 refine t_block ?_
 refine t_loopL (fun m => ⟨[(0, some (.c (.t none (.sl 2 (enS2 encI (enSl 1 encI)) (l))))), (1, some (.c (.t none (.v (.int .i64 (k + ((szT ctA l m : Nat) : Int))))))), (5, some (.c (.t none (.v (.int .i64 ((m : Int)))))))], [], 0⟩ : Nat → St) (fun m => m ≤ l.length ∧ l.take m = mkL markAT ctA k (l.take m)) (fun m => l.length - m) 0 ⟨⟨rfl, ⟨(eqI (by simp [szT_zero])), ⟨rfl, trivial⟩⟩⟩, trivial, rfl⟩ (by exact ⟨Nat.zero_le _, rfl⟩) ?_
 rintro m hI ih0
 try dsimp only at hI ih0
 obtain ⟨i1, i2⟩ := hI; have e2 := ctA_part l m; have e3 := ctA_part l (m + 1); have q8 : IntKind.i64.wrap ((k + ((szT ctA l m : Nat) : Int)) + 1) = (k + ((szT ctA l m : Nat) : Int)) + 1 := wr64 (by omega) (by omega)
 refine t_seq ?_
 refine tsr ?_
 refine r_op oM ?_
 refine r_op oM ?_
 refine r_op (o_len rfl rfl rfl) ?_
 refine r_op oB ?_
 refine r_end ?_
 refine t_cond rfl (fun h1 => ?_) (fun h1 => ?_)
 ·
  have h1' := of_decide_eq_true h1
  refine t_skip ?_
  refine t_seq ?_
  refine t_block ?_
  refine t_seq ?_
  refine tsr ?_
  refine r_op oM ?_
  refine r_op oM ?_
  obtain ⟨z2, hz3, b4⟩ := at_get (xs := l) (n := (m : Int)) (by omega) (by omega)
  refine r_op (o_index rfl (by kernel_rfl) rfl rfl b4 hz3) ?_
  refine r_op (o_field rfl (off := 0) (by kernel_rfl) rfl) ?_
  refine r_op (o_load1 rfl (by kernel_rfl) rfl rfl) ?_
  refine r_op oM ?_
  refine r_op oB ?_
  refine r_end ?_
  refine t_cond rfl (fun h5 => ?_) (fun h5 => ?_)
  ·
   have h5' := of_decide_eq_true h5
   refine tsr ?_
   refine r_op oA ?_
   refine r_end ?_
   refine t_ret Tryz.func67 (.tmp rfl .nil) rfl fun E S w u hI hd => ?_
   refine post_mk hI hd ?_ trivial rfl rfl rfl <;> clear hI hd <;> (try clear ih0)
   all_goals (refine scI ?_; unfold markATS; rw [if_neg (heldL_ne (f := markAT) (ct := ctA) (m := m) hz3 rfl (hB_ne1 (by omega)))])
  ·
   have h5' := of_decide_eq_false h5
   refine t_skip ?_
   refine tsr ?_
   refine r_op oM ?_
   refine r_op oB ?_
   refine r_op oA ?_
   refine etr ?_
   refine r_op oM ?_
   refine r_op oM ?_
   refine r_op (o_index rfl (by kernel_rfl) rfl rfl b4 hz3) ?_
   refine r_op (o_field rfl (off := 1) (by kernel_rfl) rfl) ?_
   refine r_op (o_load1 rfl (by kernel_rfl) rfl rfl) ?_
   refine r_op oM ?_
   refine r_op (o_call 0 0 false (Go.Proofs.enters_of Tryz.func70 (by kernel_rfl) rfl) (c_laws_heldIntS (z2.2) (IntKind.i64.wrap ((k + ((szT ctA l m : Nat) : Int)) + 1)) (by omega) (by (have e1 := szT_step (f := ctA) (l := l) (m := m) (by assumption); simp only [ctA] at e1; simp only [IntKind.wrap_i64]; omega))) rfl (.cons rfl (.c .t0) (.cons rfl (.c .t0) .nil)) rfl rfl rfl) ?_
   refine r_op oA ?_
   refine etr ?_
   refine r_op oM ?_
   refine r_op oB ?_
   refine r_end ?_
   refine t_cond rfl (fun h6 => ?_) (fun h6 => ?_)
   ·
    have h6' := of_decide_eq_true h6
    refine tsr ?_
    refine r_op oA ?_
    refine r_end ?_
    refine t_ret Tryz.func67 (.tmp rfl .nil) rfl fun E S w u hI hd => ?_
    refine post_mk hI hd ?_ trivial rfl rfl rfl <;> clear hI hd <;> (try clear ih0)
    all_goals (refine scI ?_; unfold markATS; rw [if_neg (heldL_ne (f := markAT) (ct := ctA) (m := m) hz3 rfl (hB_ne2 q8 (fun e => by (simp only [if_pos e] at *; omega))))])
   ·
    have h6' := of_decide_eq_false h6
    refine t_skip ?_
    refine t_endblock ?_
    refine t_region ?_
    refine r_op oM ?_
    refine r_op oB ?_
    refine r_op oA ?_
    refine r_end ?_
    have e1 := szT_step (f := ctA) (l := l) (m := m) hz3; simp only [ctA] at e1; have ez : z2.2 = seqI (IntKind.i64.wrap ((k + ((szT ctA l m : Nat) : Int)) + 1)) (List.length z2.2) := Decidable.byContradiction fun e => by (simp only [if_neg e] at *; omega)
    refine t_le ?_ (ih0 (m + 1) (by (try dsimp only); omega) (by (try dsimp only); exact ⟨by omega, heldL_step i2 hz3 rfl (hB_ok (by omega) (by rw [q8] at ez; exact ez))⟩))
    exact ⟨⟨rfl, ⟨(eqI (by rw [if_pos ez, q8]; omega)), ⟨(eqI (wrS (by omega))), trivial⟩⟩⟩, trivial, rfl⟩
 ·
  have h1' := of_decide_eq_false h1
  refine t_exit rfl ?_
  refine tsr ?_
  refine r_op oM ?_
  refine r_op oA ?_
  refine r_end ?_
  refine t_ret Tryz.func67 (.tmp rfl .nil) rfl fun E S w u hI hd => ?_
  refine post_mk hI hd ?_ trivial rfl rfl rfl <;> clear hI hd <;> (try clear ih0)
  all_goals (refine scI ?_; unfold markATS; (obtain rfl : m = l.length := by omega); rw [List.take_length] at i2; rw [if_pos i2, ← ga]; simp [szT])
set_option maxHeartbeats 1000000 in
set_option maxRecDepth 10000 in
theorem c_laws_heldInstance (a0 : Rels) (a1 : Atoms) (k : Int) (hk : 0 < k) (hkl : k + 3 * ((a0.length : Nat) : Int) + ((szS (fun (x : Int × (List (Int))) => (x.2).length) a1 : Nat) : Int) < 4611686018427387904) : Pu Tryz.prog 19 [.agg [.t none (.sl 3 (enS3 encS encI encB) (a0)), .t none (.sl 2 (enS2 encI (enSl 1 encI)) (a1))], .c (.t none (.v (.int .i64 (k))))] [] 0 (.c (.t none (.v (.int .i64 (if a0 = markRS k a0 ∧ a1 = markATS (k + 3 * ((a0.length : Nat) : Int)) a1 then k + 3 * ((a0.length : Nat) : Int) + ((szS (fun (x : Int × (List (Int))) => (x.2).length) a1 : Nat) : Int) else -1))))) := by
 refine pu_enter Tryz.func19 rfl (Nat.le_of_ble_eq_true rfl) fun w S => ?_
 refine tsr ?_
 refine r_op (o_box 0 rfl rfl rfl rfl) ?_
 refine r_op oA ?_
 refine etr ?_
 refine r_op (oF 0) ?_
 refine r_op oL ?_
 refine r_op oM ?_
 refine r_op (o_call 1 1 false (Go.Proofs.enters_of Tryz.func66 (by kernel_rfl) rfl) (c_laws_heldRelationS (a0) (k) (by omega) (by omega)) rfl (.cons rfl (.c .t0) (.cons rfl (.c .t0) .nil)) rfl rfl rfl) ?_
 refine r_op oA ?_
 refine r_end ?_
 refine t_seq ?_
 refine tsr ?_
 refine r_op oM ?_
 refine r_op oB ?_
 refine r_end ?_
 refine t_cond rfl (fun h1 => ?_) (fun h1 => ?_)
 ·
  have h1' := of_decide_eq_true h1
  refine tsr ?_
  refine r_op oA ?_
  refine r_end ?_
  refine t_ret Tryz.func19 (.tmp rfl .nil) rfl fun E S w u hI hd => ?_
  refine post_mk hI hd ?_ trivial rfl rfl rfl <;> clear hI hd
  all_goals (refine scI ?_; grind)
 ·
  have h1' := of_decide_eq_false h1
  refine t_skip ?_
  refine tsr ?_
  refine r_op (oF 1) ?_
  refine r_op oL ?_
  refine r_op oM ?_
  refine r_op (o_call 1 1 false (Go.Proofs.enters_of Tryz.func67 (by kernel_rfl) rfl) (c_laws_heldFactS (a1) (if (a0) = markRS (k) (a0) then (k) + 3 * (((a0).length : Nat) : Int) else -1) (by omega) (by omega)) rfl (.cons rfl (.c .t0) (.cons rfl (.c .t0) .nil)) rfl rfl rfl) ?_
  refine r_op oA ?_
  refine r_end ?_
  refine t_seq ?_
  refine tsr ?_
  refine r_op oM ?_
  refine r_op oB ?_
  refine r_end ?_
  refine t_cond rfl (fun h2 => ?_) (fun h2 => ?_)
  ·
   have h2' := of_decide_eq_true h2
   refine tsr ?_
   refine r_op oA ?_
   refine r_end ?_
   refine t_ret Tryz.func19 (.tmp rfl .nil) rfl fun E S w u hI hd => ?_
   refine post_mk hI hd ?_ trivial rfl rfl rfl <;> clear hI hd
   all_goals (refine scI ?_; grind)
  ·
   have h2' := of_decide_eq_false h2
   refine t_skip ?_
   refine tsr ?_
   refine r_op oM ?_
   refine r_op oA ?_
   refine r_end ?_
   refine t_ret Tryz.func19 (.tmp rfl .nil) rfl fun E S w u hI hd => ?_
   refine post_mk hI hd ?_ trivial rfl rfl rfl <;> clear hI hd
   all_goals (refine scI ?_; grind)
set_option maxHeartbeats 4000000 in
set_option maxRecDepth 10000 in
theorem c_laws_FnExactApplyTrigger (rs : Rels) (fs : Atoms) (a0 : List (Int × (List (Int)))) (a1 : List (Int × (List (Int)))) (a2 : Bool) (a3 : Int) (a4 : Int) (b : List Int) (h0 : (okL (fun (x : List UInt8 × Int × Bool) => okS (x.1) ∧ okI (x.2.1) ∧ okB (x.2.2))) rs) (h1 : (okL (fun (x : Int × (List (Int))) => okI (x.1) ∧ (okL okI) (x.2))) fs) (h2 : (okL (fun (x : Int × (List (Int))) => okI (x.1) ∧ (okL okI) (x.2))) a0) (h3 : (okL (fun (x : Int × (List (Int))) => okI (x.1) ∧ (okL okI) (x.2))) a1) (h4 : okL okI b) : Pu Tryz.prog 3 [.agg [.t none (.sl 3 (enS3 encS encI encB) (rs)), .t none (.sl 2 (enS2 encI (enSl 1 encI)) (fs))], .agg [.t none (.sl 2 (enS2 encI (enSl 1 encI)) (a0)), .t none (.sl 2 (enS2 encI (enSl 1 encI)) (a1)), .t none (.v (.bool (a2))), .t none (.v (.int .i64 (a3))), .t none (.v (.int .i64 (a4)))], .c (.t none (.sl 1 encI (b)))] [] 0 (.c (.t none (.v (.bool (true))))) := by
 refine pu_enter Tryz.func3 rfl (Nat.le_of_ble_eq_true rfl) fun w S => ?_
 have q0 := h0.1; have q1 := h1.1; have q2 := h2.1; have q3 := h3.1; have q4 := h4.1; have hob := h4.2; have ho : ∀ z ∈ fs, ∀ x ∈ z.2, okI x := fun z hz x hx => ((h1.2 z hz).2).2 x hx; have hoa : ∀ z ∈ a0, ∀ x ∈ z.2, okI x := fun z hz x hx => ((h2.2 z hz).2).2 x hx; have hoh : ∀ z ∈ a1, ∀ x ∈ z.2, okI x := (fun z hz x hx => ((h3.2 z hz).2).2 x hx); have gr := sz_len (f := (fun (x : List UInt8 × Int × Bool) => (x.1).length)) (l := rs); have tl := trgR_len rs fs a0 a1 a2 a3 a4 b; have tz := trgR_sz (f := (fun (x : List UInt8 × Int × Bool) => (x.1).length)) rs fs a0 a1 a2 a3 a4 b; have ts := trgS_sz rs fs a0 a1 a2 a3 a4 b; have mi0 := markRS_idem 1 (trgR rs fs a0 a1 a2 a3 a4 b); have ml0 := markRS_len 1 (trgR rs fs a0 a1 a2 a3 a4 b); have mi1 := markATS_idem (1 + 3 * (((trgR rs fs a0 a1 a2 a3 a4 b).length : Nat) : Int)) (trgS rs fs a0 a1 a2 a3 a4 b); have ms1 := markATS_sz' (1 + 3 * (((trgR rs fs a0 a1 a2 a3 a4 b).length : Nat) : Int)) (trgS rs fs a0 a1 a2 a3 a4 b)
 refine tsr ?_
 refine r_op (o_box 0 rfl rfl rfl rfl) ?_
 refine r_op (o_box 1 rfl rfl rfl rfl) ?_
 refine r_op oA ?_
 refine r_end ?_
 refine t_seq ?_
 refine tsr ?_
 refine r_op oM ?_
 refine r_op (o_len rfl rfl rfl) ?_
 refine r_op oB ?_
 refine r_end ?_
 refine t_cond rfl (fun h1 => ?_) (fun h1 => ?_)
 ·
  have h1' := of_decide_eq_true h1
  refine tsr ?_
  refine r_op oA ?_
  refine r_end ?_
  refine t_ret Tryz.func3 (.tmp rfl .nil) rfl fun E S w u hI hd => ?_
  refine post_mk hI hd ?_ trivial rfl rfl rfl <;> clear hI hd
  all_goals (rfl)
 ·
  have h1' := of_decide_eq_false h1
  refine t_skip ?_
  refine tsr ?_
  refine r_op oA ?_
  refine etr ?_
  refine r_op (oC 2) ?_
  refine r_op oM ?_
  refine r_op (o_call 2 2 false (Go.Proofs.enters_of Tryz.func6 (by kernel_rfl) rfl) (c_laws_szInstance (rs) (fs) (1048576) (by omega) (by omega) (by omega) (by omega)) rfl (.cons rfl (.agg (.cons .t0 (.cons .t0 .nil))) (.cons rfl (.c .t0) .nil)) rfl rfl rfl) ?_
  refine r_op oA ?_
  refine r_end ?_
  refine t_seq ?_
  refine tsr ?_
  refine r_op oM ?_
  refine r_op oB ?_
  refine r_end ?_
  refine t_cond rfl (fun h2 => ?_) (fun h2 => ?_)
  ·
   have h2' := of_decide_eq_true h2
   refine tsr ?_
   refine r_op oA ?_
   refine r_end ?_
   refine t_ret Tryz.func3 (.tmp rfl .nil) rfl fun E S w u hI hd => ?_
   refine post_mk hI hd ?_ trivial rfl rfl rfl <;> clear hI hd
   all_goals (rfl)
  ·
   have h2' := of_decide_eq_false h2
   refine t_skip ?_
   refine tsr ?_
   refine r_op (oC 5) ?_
   refine r_op oM ?_
   refine r_op (o_call 2 2 false (Go.Proofs.enters_of Tryz.func7 (by kernel_rfl) rfl) (c_laws_szDependency (a0) (a1) (a2) (a3) (a4) (if (1048576) - (((szS (fun (x : List UInt8 × Int × Bool) => (x.1).length) ((rs))) + (szS (fun (x : Int × (List (Int))) => (x.2).length) ((fs))) : Nat) : Int) < 0 then -1 else (1048576) - (((szS (fun (x : List UInt8 × Int × Bool) => (x.1).length) ((rs))) + (szS (fun (x : Int × (List (Int))) => (x.2).length) ((fs))) : Nat) : Int)) (by omega) (by omega) (by omega) (by omega)) rfl (.cons rfl (.agg (.cons .t0 (.cons .t0 (.cons .t0 (.cons .t0 (.cons .t0 .nil)))))) (.cons rfl (.c .t0) .nil)) rfl rfl rfl) ?_
   refine r_op oA ?_
   refine r_end ?_
   refine t_seq ?_
   refine tsr ?_
   refine r_op oM ?_
   refine r_op oB ?_
   refine r_end ?_
   refine t_cond rfl (fun h3 => ?_) (fun h3 => ?_)
   ·
    have h3' := of_decide_eq_true h3
    refine tsr ?_
    refine r_op oA ?_
    refine r_end ?_
    refine t_ret Tryz.func3 (.tmp rfl .nil) rfl fun E S w u hI hd => ?_
    refine post_mk hI hd ?_ trivial rfl rfl rfl <;> clear hI hd
    all_goals (rfl)
   ·
    have h3' := of_decide_eq_false h3
    refine t_skip ?_
    refine t_seq ?_
    refine t_cut ⟨[(2, some (.c (.t none (.sl 1 encI (b))))), (3, some (.c (.ptr 0 0))), (4, some (.c (.ptr 1 0))), (6, some (.c (.t none (.v (.bool (false)))))), (8, some (.c (.ptr 13 0))), (9, some (.c (.t none (.v (.int .i64 (trgC ((rs)) ((fs)) ((a0)) ((a1)) ((a2)) ((a3)) ((a4)) ((b))))))))], [(0, some (.box [.t none (.sl 3 (enS3 encS encI encB) (rs)), .t none (.sl 2 (enS2 encI (enSl 1 encI)) (fs))])), (1, some (.box [.t none (.sl 2 (enS2 encI (enSl 1 encI)) (a0)), .t none (.sl 2 (enS2 encI (enSl 1 encI)) (a1)), .t none (.v (.bool (a2))), .t none (.v (.int .i64 (a3))), .t none (.v (.int .i64 (a4)))])), (13, some (.box [.t none (.sl 3 (enS3 encS encI encB) (trgR ((rs)) ((fs)) ((a0)) ((a1)) ((a2)) ((a3)) ((a4)) ((b)))), .t none (.sl 2 (enS2 encI (enSl 1 encI)) (trgS ((rs)) ((fs)) ((a0)) ((a1)) ((a2)) ((a3)) ((a4)) ((b))))]))], 14⟩ ?_ ?_
    ·
     skip
     refine tsr ?_
     refine r_op (oC 2) ?_
     refine r_op (o_call 14 19 false (Go.Proofs.enters_of Tryz.func9 (by kernel_rfl) rfl) (c_laws_toInstance (rs) (fs) (by omega)) rfl (.cons rfl (.agg (.cons .t0 (.cons .t0 .nil))) .nil) rfl rfl rfl) ?_
     refine r_op (o_alloc 19 (zs := [.slice none 0 0, .slice none 0 0]) rfl rfl (by kernel_rfl) rfl) ?_
     refine r_op (oS 2) ?_
     refine etr ?_
     refine r_op (oC 5) ?_
     refine r_op (o_call 20 25 false (Go.Proofs.enters_of Tryz.func10 (by kernel_rfl) rfl) (c_laws_toDependency (a0) (a1) (a2) (a3) (a4) (by omega)) rfl (.cons rfl (.agg (.cons .t0 (.cons .t0 (.cons .t0 (.cons .t0 (.cons .t0 .nil)))))) .nil) rfl rfl rfl) ?_
     refine r_op (o_alloc 25 (zs := [.slice none 0 0, .slice none 0 0, .bool (false), .int .i64 (0), .int .i64 (0)]) rfl rfl (by kernel_rfl) rfl) ?_
     refine r_op (oS 5) ?_
     refine etr ?_
     refine r_op oM ?_
     refine r_op (o_call 26 27 false (Go.Proofs.enters_of Tryz.func11 (by kernel_rfl) rfl) (c_laws_toIntS (b) (by omega)) rfl (.cons rfl (.c .t0) .nil) rfl rfl rfl) ?_
     refine r_op oA ?_
     refine etr ?_
     refine r_op (oC 2) ?_
     refine r_op (oC 5) ?_
     refine r_op oM ?_
     refine r_op (o_call 27 33 false (Go.Proofs.enters_of Tryz.func12 (by kernel_rfl) rfl) (c_impl_ApplyTrigger ((rs)) ((fs)) ((a0)) ((a1)) ((a2)) ((a3)) ((a4)) ((b)) (by omega) (by omega) (by omega) (by omega) (by omega) (by omega) (by omega)) rfl (.cons rfl (.agg (.cons (.own rfl) (.cons (.own rfl) .nil))) (.cons rfl (.agg (.cons (.own rfl) (.cons (.own rfl) (.cons .t0 (.cons .t0 (.cons .t0 .nil)))))) (.cons rfl (.c (.own rfl)) .nil))) rfl rfl rfl) ?_
     refine r_op oM ?_
     refine r_op (o_extract rfl rfl rfl rfl) ?_
     refine r_op (o_extract rfl rfl rfl rfl) ?_
     refine r_op (o_alloc 33 (zs := [.slice none 0 0, .slice none 0 0]) rfl rfl (by kernel_rfl) rfl) ?_
     refine r_op (oS 2) ?_
     refine r_op oA ?_
     refine r_end ?_
     refine t_seq ?_
     refine tsr ?_
     refine r_op (oC 2) ?_
     refine r_op (oC 2) ?_
     refine r_op (o_call 34 34 false (Go.Proofs.enters_of Tryz.func13 (by kernel_rfl) rfl) (c_laws_eqInstance (trgR ((rs)) ((fs)) ((a0)) ((a1)) ((a2)) ((a3)) ((a4)) ((b))) (trgS ((rs)) ((fs)) ((a0)) ((a1)) ((a2)) ((a3)) ((a4)) ((b))) (trgR ((rs)) ((fs)) ((a0)) ((a1)) ((a2)) ((a3)) ((a4)) ((b))) (trgS ((rs)) ((fs)) ((a0)) ((a1)) ((a2)) ((a3)) ((a4)) ((b))) (by omega)) rfl (.cons rfl (.agg (.cons (.own rfl) (.cons (.own rfl) .nil))) (.cons rfl (.agg (.cons .t0 (.cons .t0 .nil))) .nil)) rfl rfl rfl) ?_
     refine r_op (o_not rfl rfl) ?_
     refine r_op oM ?_
     refine r_guard rfl rfl rfl (fun g4 => ?_) (fun g4 => ?_)
     ·
      have g4' := of_decide_eq_true (bnf g4)
      refine r_op oM ?_
      refine r_guard rfl rfl rfl (fun _ => ?_) (ncf g4)
      refine r_op oM ?_
      refine r_guard rfl rfl rfl (fun _ => ?_) (ncf g4)
      refine r_op oB ?_
      refine r_op (o_pickF rfl rfl g4 rfl) ?_
      refine r_end ?_
      refine t_cond rfl (fun h5 => ?_) (fun h5 => ?_)
      ·
       have h5' := of_decide_eq_true h5
       refine tsr ?_
       refine r_op oA ?_
       refine r_end ?_
       refine t_ret Tryz.func3 (.tmp rfl .nil) rfl fun E S w u hI hd => ?_
       refine post_mk hI hd ?_ trivial rfl rfl rfl <;> clear hI hd
       all_goals (exfalso; (omega))
      ·
       have h5' := of_decide_eq_false h5
       refine t_skip ?_
       refine t_seq ?_
       refine t_seq ?_
       refine t_draw (fun _ => true) (by kernel_rfl) ?_
       refine dT 0 rfl (pC 2) ?_
       refine dT 1 rfl (pC 2) ?_
       refine dO 2 rfl (o_call 34 39 false (Go.Proofs.enters_of Tryz.func9 (by kernel_rfl) rfl) (c_laws_toInstance (rs) (fs) (by omega)) rfl (.cons rfl (.agg (.cons .t0 (.cons .t0 .nil))) .nil) rfl rfl rfl) ?_
       refine dO 3 rfl (o_call 39 39 false (Go.Proofs.enters_of Tryz.func13 (by kernel_rfl) rfl) (c_laws_eqInstance ((rs)) ((fs)) ((rs)) ((fs)) (by omega)) rfl (.cons rfl (.agg (.cons (.own rfl) (.cons (.own rfl) .nil))) (.cons rfl (.agg (.cons (.own rfl) (.cons (.own rfl) .nil))) .nil)) rfl rfl rfl) ?_
       refine dT 4 rfl (p_not rfl) ?_
       refine d_end (by kernel_rfl) ?_
       refine t_cond rfl (fun h6 => ?_) (fun h6 => ?_)
       ·
        have h6' := of_decide_eq_false (bnt h6)
        refine tsr ?_
        refine r_op oA ?_
        refine r_end ?_
        refine t_ret Tryz.func3 (.tmp rfl .nil) rfl fun E S w u hI hd => ?_
        refine post_mk hI hd ?_ trivial rfl rfl rfl <;> clear hI hd
        all_goals (exfalso; (simp at *; done))
       ·
        have h6' := of_decide_eq_true (bnf h6)
        refine t_skip ?_
        refine t_seq ?_
        refine t_seq ?_
        refine t_draw (fun _ => true) (by kernel_rfl) ?_
        refine dT 0 rfl (pC 5) ?_
        refine dT 1 rfl (pC 5) ?_
        refine dO 2 rfl (o_call 39 44 false (Go.Proofs.enters_of Tryz.func10 (by kernel_rfl) rfl) (c_laws_toDependency (a0) (a1) (a2) (a3) (a4) (by omega)) rfl (.cons rfl (.agg (.cons .t0 (.cons .t0 (.cons .t0 (.cons .t0 (.cons .t0 .nil)))))) .nil) rfl rfl rfl) ?_
        refine dO 3 rfl (o_call 44 44 false (Go.Proofs.enters_of Tryz.func14 (by kernel_rfl) rfl) (c_laws_eqDependency ((a0)) ((a1)) ((a2)) ((a3)) ((a4)) ((a0)) ((a1)) ((a2)) ((a3)) ((a4)) (by omega)) rfl (.cons rfl (.agg (.cons (.own rfl) (.cons (.own rfl) (.cons .t0 (.cons .t0 (.cons .t0 .nil)))))) (.cons rfl (.agg (.cons (.own rfl) (.cons (.own rfl) (.cons .t0 (.cons .t0 (.cons .t0 .nil)))))) .nil)) rfl rfl rfl) ?_
        refine dT 4 rfl (p_not rfl) ?_
        refine d_end (by kernel_rfl) ?_
        refine t_cond rfl (fun h7 => ?_) (fun h7 => ?_)
        ·
         have h7' := of_decide_eq_false (bnt h7)
         refine tsr ?_
         refine r_op oA ?_
         refine r_end ?_
         refine t_ret Tryz.func3 (.tmp rfl .nil) rfl fun E S w u hI hd => ?_
         refine post_mk hI hd ?_ trivial rfl rfl rfl <;> clear hI hd
         all_goals (exfalso; (simp at *; done))
        ·
         have h7' := of_decide_eq_true (bnf h7)
         refine t_skip ?_
         refine t_seq ?_
         refine tsr ?_
         refine r_op oM ?_
         refine r_op oM ?_
         refine r_op (o_call 44 45 false (Go.Proofs.enters_of Tryz.func11 (by kernel_rfl) rfl) (c_laws_toIntS (b) (by omega)) rfl (.cons rfl (.c .t0) .nil) rfl rfl rfl) ?_
         refine r_op (o_call 45 45 false (Go.Proofs.enters_of Tryz.func15 (by kernel_rfl) rfl) (c_laws_eqIntS ((b)) ((b)) (by omega)) rfl (.cons rfl (.c (.own rfl)) (.cons rfl (.c (.own rfl)) .nil)) rfl rfl rfl) ?_
         refine r_op (o_not rfl rfl) ?_
         refine r_end ?_
         refine t_cond rfl (fun h8 => ?_) (fun h8 => ?_)
         ·
          have h8' := of_decide_eq_false (bnt h8)
          refine tsr ?_
          refine r_op oA ?_
          refine r_end ?_
          refine t_ret Tryz.func3 (.tmp rfl .nil) rfl fun E S w u hI hd => ?_
          refine post_mk hI hd ?_ trivial rfl rfl rfl <;> clear hI hd
          all_goals (exfalso; (simp at *; done))
         ·
          have h8' := of_decide_eq_true (bnf h8)
          refine t_skip ?_
          refine tsr ?_
          refine r_op oA ?_
          refine etr ?_
          refine r_op (oC 2) ?_
          refine r_op oM ?_
          refine r_op (o_callH [⟨17, none, 119, 3, _, (enS3 encS encI encB), (rs), markRS (1) ((rs))⟩, ⟨18, none, 85, 2, _, (enS2 encI (enSl 1 encI)), (fs), markATS ((1) + 3 * ((((rs)).length : Nat) : Int)) ((fs))⟩] (Go.Proofs.enters_of Tryz.func16 (by kernel_rfl) rfl) (fun U => c_laws_markInstance U 119 85 ((rs)) ((fs)) (1) (by omega) (by omega)) rfl ⟨rfl, ⟨rfl, trivial⟩⟩ rfl rfl (.agg rfl (.cons (.own rfl) (.cons (.own rfl) .nil)) (.cons rfl .t0 .nil)) rfl) ?_
          refine r_op oA ?_
          refine etr ?_
          refine r_op (oC 5) ?_
          refine r_op oM ?_
          refine r_op (o_callH [⟨23, none, 89, 2, _, (enS2 encI (enSl 1 encI)), (a0), markATS ((1) + 3 * ((((rs)).length : Nat) : Int) + ((szS (fun (x : Int × (List (Int))) => (x.2).length) ((fs)) : Nat) : Int)) ((a0))⟩, ⟨24, none, 89, 2, _, (enS2 encI (enSl 1 encI)), (a1), markATS (((1) + 3 * ((((rs)).length : Nat) : Int) + ((szS (fun (x : Int × (List (Int))) => (x.2).length) ((fs)) : Nat) : Int)) + ((szS (fun (x : Int × (List (Int))) => (x.2).length) ((a0)) : Nat) : Int)) ((a1))⟩] (Go.Proofs.enters_of Tryz.func17 (by kernel_rfl) rfl) (fun U => c_laws_markDependency U 89 89 ((a0)) ((a1)) ((a2)) ((a3)) ((a4)) ((1) + 3 * ((((rs)).length : Nat) : Int) + ((szS (fun (x : Int × (List (Int))) => (x.2).length) ((fs)) : Nat) : Int)) (by omega) (by omega)) rfl ⟨rfl, ⟨rfl, trivial⟩⟩ rfl rfl (.agg rfl (.cons (.own rfl) (.cons (.own rfl) (.cons .t0 (.cons .t0 (.cons .t0 .nil))))) (.cons rfl .t0 .nil)) rfl) ?_
          refine r_op oA ?_
          refine etr ?_
          refine r_op oM ?_
          refine r_op oM ?_
          refine r_op (o_callH [⟨26, none, 3, 1, _, encI, (b), seqI (((1) + 3 * ((((rs)).length : Nat) : Int) + ((szS (fun (x : Int × (List (Int))) => (x.2).length) ((fs)) : Nat) : Int)) + ((szS (fun (x : Int × (List (Int))) => (x.2).length) ((a0)) : Nat) : Int) + ((szS (fun (x : Int × (List (Int))) => (x.2).length) ((a1)) : Nat) : Int)) ((b)).length⟩] (Go.Proofs.enters_of Tryz.func18 (by kernel_rfl) rfl) (fun U => c_laws_markIntS U 3 ((b)) (((1) + 3 * ((((rs)).length : Nat) : Int) + ((szS (fun (x : Int × (List (Int))) => (x.2).length) ((fs)) : Nat) : Int)) + ((szS (fun (x : Int × (List (Int))) => (x.2).length) ((a0)) : Nat) : Int) + ((szS (fun (x : Int × (List (Int))) => (x.2).length) ((a1)) : Nat) : Int)) (by omega) (by omega)) rfl ⟨rfl, trivial⟩ rfl rfl (.cons rfl (.own rfl) (.cons rfl .t0 .nil)) rfl) ?_
          refine r_op oA ?_
          refine r_end ?_
          refine t_seq ?_
          refine tsr ?_
          refine r_op oM ?_
          refine r_op oB ?_
          refine r_op oM ?_
          refine r_guard rfl rfl rfl (fun g9 => ?_) (fun g9 => ?_)
          ·
           have g9' := of_decide_eq_false g9
           refine r_op (oC 2) ?_
           refine r_guard rfl rfl rfl (fun _ => ?_) (ncf g9)
           refine r_op (oC 2) ?_
           refine r_guard rfl rfl rfl (fun _ => ?_) (ncf g9)
           refine r_op (o_call 45 45 false (Go.Proofs.enters_of Tryz.func13 (by kernel_rfl) rfl) (c_laws_eqInstance (trgR ((rs)) ((fs)) ((a0)) ((a1)) ((a2)) ((a3)) ((a4)) ((b))) (trgS ((rs)) ((fs)) ((a0)) ((a1)) ((a2)) ((a3)) ((a4)) ((b))) (trgR ((rs)) ((fs)) ((a0)) ((a1)) ((a2)) ((a3)) ((a4)) ((b))) (trgS ((rs)) ((fs)) ((a0)) ((a1)) ((a2)) ((a3)) ((a4)) ((b))) (by omega)) rfl (.cons rfl (.agg (.cons (.own rfl) (.cons (.own rfl) .nil))) (.cons rfl (.agg (.cons .t0 (.cons .t0 .nil))) .nil)) rfl rfl rfl) ?_
           refine r_guard rfl rfl rfl (fun _ => ?_) (ncf g9)
           refine r_op (o_not rfl rfl) ?_
           refine r_op (o_pickF rfl rfl g9 rfl) ?_
           refine r_op oM ?_
           refine r_guard rfl rfl rfl (fun g10 => ?_) (fun g10 => ?_)
           ·
            have g10' := of_decide_eq_true (bnf g10)
            refine r_op oM ?_
            refine r_guard rfl rfl rfl (fun _ => ?_) (ncf g10)
            refine r_op oM ?_
            refine r_guard rfl rfl rfl (fun _ => ?_) (ncf g10)
            refine r_op oB ?_
            refine r_op (o_pickF rfl rfl g10 rfl) ?_
            refine r_end ?_
            refine t_cond rfl (fun h11 => ?_) (fun h11 => ?_)
            ·
             have h11' := of_decide_eq_true h11
             refine tsr ?_
             refine r_op oA ?_
             refine r_end ?_
             refine t_ret Tryz.func3 (.tmp rfl .nil) rfl fun E S w u hI hd => ?_
             refine post_mk hI hd ?_ trivial rfl rfl rfl <;> clear hI hd
             all_goals (exfalso; (omega))
            ·
             have h11' := of_decide_eq_false h11
             refine t_skip ?_
             refine tsr ?_
             refine r_op oA ?_
             refine etr ?_
             refine r_op (oC 2) ?_
             refine r_op oM ?_
             refine r_op (o_callH [⟨31, none, 119, 3, _, (enS3 encS encI encB), trgR ((rs)) ((fs)) ((a0)) ((a1)) ((a2)) ((a3)) ((a4)) ((b)), markRS (1) (trgR ((rs)) ((fs)) ((a0)) ((a1)) ((a2)) ((a3)) ((a4)) ((b)))⟩, ⟨32, none, 85, 2, _, (enS2 encI (enSl 1 encI)), trgS ((rs)) ((fs)) ((a0)) ((a1)) ((a2)) ((a3)) ((a4)) ((b)), markATS ((1) + 3 * (((trgR ((rs)) ((fs)) ((a0)) ((a1)) ((a2)) ((a3)) ((a4)) ((b))).length : Nat) : Int)) (trgS ((rs)) ((fs)) ((a0)) ((a1)) ((a2)) ((a3)) ((a4)) ((b)))⟩] (Go.Proofs.enters_of Tryz.func16 (by kernel_rfl) rfl) (fun U => c_laws_markInstance U 119 85 (trgR ((rs)) ((fs)) ((a0)) ((a1)) ((a2)) ((a3)) ((a4)) ((b))) (trgS ((rs)) ((fs)) ((a0)) ((a1)) ((a2)) ((a3)) ((a4)) ((b))) (1) (by omega) (by omega)) rfl ⟨rfl, ⟨rfl, trivial⟩⟩ rfl rfl (.agg rfl (.cons (.own rfl) (.cons (.own rfl) .nil)) (.cons rfl .t0 .nil)) rfl) ?_
             refine r_op oA ?_
             refine etr ?_
             refine r_op oA ?_
             refine etr ?_
             refine r_op (oC 2) ?_
             refine r_op oM ?_
             refine r_op (o_call 45 45 false (Go.Proofs.enters_of Tryz.func19 (by kernel_rfl) rfl) (c_laws_heldInstance (markRS (1) (trgR ((rs)) ((fs)) ((a0)) ((a1)) ((a2)) ((a3)) ((a4)) ((b)))) (markATS ((1) + 3 * (((trgR ((rs)) ((fs)) ((a0)) ((a1)) ((a2)) ((a3)) ((a4)) ((b))).length : Nat) : Int)) (trgS ((rs)) ((fs)) ((a0)) ((a1)) ((a2)) ((a3)) ((a4)) ((b)))) (1) (by omega) (by omega)) rfl (.cons rfl (.agg (.cons (.own rfl) (.cons (.own rfl) .nil))) (.cons rfl (.c .t0) .nil)) rfl rfl rfl) ?_
             refine r_op oA ?_
             refine r_end ?_
             refine t_seq ?_
             refine tsr ?_
             refine r_op oM ?_
             refine r_op oB ?_
             refine r_end ?_
             refine t_cond rfl (fun h12 => ?_) (fun h12 => ?_)
             ·
              have h12' := of_decide_eq_true h12
              refine tsr ?_
              refine r_op oA ?_
              refine r_end ?_
              refine t_ret Tryz.func3 (.tmp rfl .nil) rfl fun E S w u hI hd => ?_
              refine post_mk hI hd ?_ trivial rfl rfl rfl <;> clear hI hd
              all_goals (exfalso; (simp only [ml0, ms1, mi0, mi1, and_self, if_true] at *; omega))
             ·
              have h12' := of_decide_eq_false h12
              refine t_skip ?_
              refine t_seq ?_
              refine tsr ?_
              refine r_op oM ?_
              refine r_op oM ?_
              refine r_op oB ?_
              refine r_end ?_
              refine t_cond rfl (fun h13 => ?_) (fun h13 => ?_)
              ·
               have h13' := of_decide_eq_true h13
               refine tsr ?_
               refine r_op oA ?_
               refine r_end ?_
               refine t_ret Tryz.func3 (.tmp rfl .nil) rfl fun E S w u hI hd => ?_
               refine post_mk hI hd ?_ trivial rfl rfl rfl <;> clear hI hd
               all_goals (exfalso; (omega))
              ·
               have h13' := of_decide_eq_false h13
               refine t_skip ?_
               refine t_seq ?_
               refine t_cut ⟨[(6, some (.c (.t none (.v (.bool (false)))))), (8, some (.c (.ptr 13 0))), (9, some (.c (.t none (.v (.int .i64 (trgC ((rs)) ((fs)) ((a0)) ((a1)) ((a2)) ((a3)) ((a4)) ((b)))))))), (13, some (.c (.ptr 33 0))), (16, some (.c (.t none (.v (.int .i64 ((1) + 3 * (((trgR ((rs)) ((fs)) ((a0)) ((a1)) ((a2)) ((a3)) ((a4)) ((b))).length : Nat) : Int) + ((szS (fun (x : Int × (List (Int))) => (x.2).length) (trgS ((rs)) ((fs)) ((a0)) ((a1)) ((a2)) ((a3)) ((a4)) ((b))) : Nat) : Int))))))), (17, some (.c (.t none (.v (.int .i64 (if (markRS (1) (trgR ((rs)) ((fs)) ((a0)) ((a1)) ((a2)) ((a3)) ((a4)) ((b)))) = markRS (1) (markRS (1) (trgR ((rs)) ((fs)) ((a0)) ((a1)) ((a2)) ((a3)) ((a4)) ((b)))) ∧ (markATS ((1) + 3 * (((trgR ((rs)) ((fs)) ((a0)) ((a1)) ((a2)) ((a3)) ((a4)) ((b))).length : Nat) : Int)) (trgS ((rs)) ((fs)) ((a0)) ((a1)) ((a2)) ((a3)) ((a4)) ((b)))) = markATS ((1) + 3 * (((markRS (1) (trgR ((rs)) ((fs)) ((a0)) ((a1)) ((a2)) ((a3)) ((a4)) ((b)))).length : Nat) : Int)) (markATS ((1) + 3 * (((trgR ((rs)) ((fs)) ((a0)) ((a1)) ((a2)) ((a3)) ((a4)) ((b))).length : Nat) : Int)) (trgS ((rs)) ((fs)) ((a0)) ((a1)) ((a2)) ((a3)) ((a4)) ((b)))) then (1) + 3 * (((markRS (1) (trgR ((rs)) ((fs)) ((a0)) ((a1)) ((a2)) ((a3)) ((a4)) ((b)))).length : Nat) : Int) + ((szS (fun (x : Int × (List (Int))) => (x.2).length) (markATS ((1) + 3 * (((trgR ((rs)) ((fs)) ((a0)) ((a1)) ((a2)) ((a3)) ((a4)) ((b))).length : Nat) : Int)) (trgS ((rs)) ((fs)) ((a0)) ((a1)) ((a2)) ((a3)) ((a4)) ((b)))) : Nat) : Int) else -1)))))), (18, some (.c (.ptr 62 0))), (19, some (.c (.t none (.v (.int .i64 (trgC ((rs)) ((fs)) ((a0)) ((a1)) ((a2)) ((a3)) ((a4)) ((b))))))))], [(13, some (.box [.t none (.sl 3 (enS3 encS encI encB) (trgR ((rs)) ((fs)) ((a0)) ((a1)) ((a2)) ((a3)) ((a4)) ((b)))), .t none (.sl 2 (enS2 encI (enSl 1 encI)) (trgS ((rs)) ((fs)) ((a0)) ((a1)) ((a2)) ((a3)) ((a4)) ((b))))])), (31, some (.row none 119 true 3 (enS3 encS encI encB) (markRS (1) (trgR ((rs)) ((fs)) ((a0)) ((a1)) ((a2)) ((a3)) ((a4)) ((b)))))), (32, some (.row none 85 true 2 (enS2 encI (enSl 1 encI)) (markATS ((1) + 3 * (((trgR ((rs)) ((fs)) ((a0)) ((a1)) ((a2)) ((a3)) ((a4)) ((b))).length : Nat) : Int)) (trgS ((rs)) ((fs)) ((a0)) ((a1)) ((a2)) ((a3)) ((a4)) ((b)))))), (33, some (.box [.own 31, .own 32])), (60, some (.row none 119 true 3 (enS3 encS encI encB) (trgR ((rs)) ((fs)) ((a0)) ((a1)) ((a2)) ((a3)) ((a4)) ((b))))), (61, some (.row none 85 true 2 (enS2 encI (enSl 1 encI)) (trgS ((rs)) ((fs)) ((a0)) ((a1)) ((a2)) ((a3)) ((a4)) ((b))))), (62, some (.box [.own 60, .own 61]))], 63⟩ ?_ ?_
               ·
                skip
                refine t_seq ?_
                refine tsr ?_
                refine r_op (oC 2) ?_
                refine r_op (oC 2) ?_
                refine r_op (o_call 63 63 false (Go.Proofs.enters_of Tryz.func13 (by kernel_rfl) rfl) (c_laws_eqInstance (trgR ((rs)) ((fs)) ((a0)) ((a1)) ((a2)) ((a3)) ((a4)) ((b))) (trgS ((rs)) ((fs)) ((a0)) ((a1)) ((a2)) ((a3)) ((a4)) ((b))) (trgR ((rs)) ((fs)) ((a0)) ((a1)) ((a2)) ((a3)) ((a4)) ((b))) (trgS ((rs)) ((fs)) ((a0)) ((a1)) ((a2)) ((a3)) ((a4)) ((b))) (by omega)) rfl (.cons rfl (.agg (.cons (.own rfl) (.cons (.own rfl) .nil))) (.cons rfl (.agg (.cons .t0 (.cons .t0 .nil))) .nil)) rfl rfl rfl) ?_
                refine r_op (o_not rfl rfl) ?_
                refine r_op oM ?_
                refine r_guard rfl rfl rfl (fun g14 => ?_) (fun g14 => ?_)
                ·
                 have g14' := of_decide_eq_true (bnf g14)
                 refine r_op oM ?_
                 refine r_guard rfl rfl rfl (fun _ => ?_) (ncf g14)
                 refine r_op oM ?_
                 refine r_guard rfl rfl rfl (fun _ => ?_) (ncf g14)
                 refine r_op oB ?_
                 refine r_op (o_pickF rfl rfl g14 rfl) ?_
                 refine r_end ?_
                 refine t_cond rfl (fun h15 => ?_) (fun h15 => ?_)
                 ·
                  have h15' := of_decide_eq_true h15
                  refine tsr ?_
                  refine r_op oA ?_
                  refine r_end ?_
                  refine t_ret Tryz.func3 (.tmp rfl .nil) rfl fun E S w u hI hd => ?_
                  refine post_mk hI hd ?_ trivial rfl rfl rfl <;> clear hI hd
                  all_goals (exfalso; (omega))
                 ·
                  have h15' := of_decide_eq_false h15
                  refine t_skip ?_
                  refine tsr ?_
                  refine r_op oA ?_
                  refine etr ?_
                  refine r_op (oC 2) ?_
                  refine r_op oM ?_
                  refine r_op (o_call 63 63 false (Go.Proofs.enters_of Tryz.func19 (by kernel_rfl) rfl) (c_laws_heldInstance (markRS (1) (trgR ((rs)) ((fs)) ((a0)) ((a1)) ((a2)) ((a3)) ((a4)) ((b)))) (markATS ((1) + 3 * (((trgR ((rs)) ((fs)) ((a0)) ((a1)) ((a2)) ((a3)) ((a4)) ((b))).length : Nat) : Int)) (trgS ((rs)) ((fs)) ((a0)) ((a1)) ((a2)) ((a3)) ((a4)) ((b)))) (1) (by omega) (by omega)) rfl (.cons rfl (.agg (.cons (.own rfl) (.cons (.own rfl) .nil))) (.cons rfl (.c .t0) .nil)) rfl rfl rfl) ?_
                  refine r_op oA ?_
                  refine r_end ?_
                  refine t_seq ?_
                  refine tsr ?_
                  refine r_op oM ?_
                  refine r_op oB ?_
                  refine r_end ?_
                  refine t_cond rfl (fun h16 => ?_) (fun h16 => ?_)
                  ·
                   have h16' := of_decide_eq_true h16
                   refine tsr ?_
                   refine r_op oA ?_
                   refine r_end ?_
                   refine t_ret Tryz.func3 (.tmp rfl .nil) rfl fun E S w u hI hd => ?_
                   refine post_mk hI hd ?_ trivial rfl rfl rfl <;> clear hI hd
                   all_goals (exfalso; (omega))
                  ·
                   have h16' := of_decide_eq_false h16
                   refine t_skip ?_
                   refine t_seq ?_
                   refine tsr ?_
                   refine r_op oM ?_
                   refine r_op oM ?_
                   refine r_op oB ?_
                   refine r_end ?_
                   refine t_cond rfl (fun h17 => ?_) (fun h17 => ?_)
                   ·
                    have h17' := of_decide_eq_true h17
                    refine tsr ?_
                    refine r_op oA ?_
                    refine r_end ?_
                    refine t_ret Tryz.func3 (.tmp rfl .nil) rfl fun E S w u hI hd => ?_
                    refine post_mk hI hd ?_ trivial rfl rfl rfl <;> clear hI hd
                    all_goals (exfalso; (omega))
                   ·
                    have h17' := of_decide_eq_false h17
                    refine t_skip ?_
                    refine tsr ?_
                    refine r_op oA ?_
                    refine r_end ?_
                    refine t_ret Tryz.func3 (.tmp rfl .nil) rfl fun E S w u hI hd => ?_
                    refine post_mk hI hd ?_ trivial rfl rfl rfl <;> clear hI hd
                    all_goals (rfl)
                ·
                 have g14' := of_decide_eq_false (bnt g14)
                 refine r_guard rfl rfl rfl (nc g14) (fun _ => ?_)
                 refine r_guard rfl rfl rfl (nc g14) (fun _ => ?_)
                 refine r_op (o_pickT rfl rfl g14 rfl) ?_
                 refine r_end ?_
                 refine t_cond rfl (fun _ => ?_) (nc rfl)
                 refine tsr ?_
                 refine r_op oA ?_
                 refine r_end ?_
                 refine t_ret Tryz.func3 (.tmp rfl .nil) rfl fun E S w u hI hd => ?_
                 refine post_mk hI hd ?_ trivial rfl rfl rfl <;> clear hI hd
                 all_goals (exfalso; (simp at *; done))
               ·
                intro kc18
                refine t_draw (fun i => !(Nat.beq i 11)) (by kernel_rfl) ?_
                refine dT 0 rfl (pC 2) ?_
                refine dT 2 rfl (pC 5) ?_
                refine dT 4 rfl pM ?_
                refine d_two 1 10 rfl rfl (by kernel_rfl) rfl rfl (o_call 45 50 false (Go.Proofs.enters_of Tryz.func9 (by kernel_rfl) rfl) (c_laws_toInstance (rs) (fs) (by omega)) rfl (.cons rfl (.agg (.cons .t0 (.cons .t0 .nil))) .nil) rfl rfl rfl) (o_alloc 45 (zs := [.slice none 0 0, .slice none 0 0]) rfl rfl (by kernel_rfl) rfl) ?_ ?_
                ·
                 refine d_two 3 10 rfl rfl (by kernel_rfl) rfl rfl (o_call 50 55 false (Go.Proofs.enters_of Tryz.func10 (by kernel_rfl) rfl) (c_laws_toDependency (a0) (a1) (a2) (a3) (a4) (by omega)) rfl (.cons rfl (.agg (.cons .t0 (.cons .t0 (.cons .t0 (.cons .t0 (.cons .t0 .nil)))))) .nil) rfl rfl rfl) (o_alloc 50 (zs := [.slice none 0 0, .slice none 0 0]) rfl rfl (by kernel_rfl) rfl) ?_ ?_
                 ·
                  refine d_two 5 10 rfl rfl (by kernel_rfl) rfl rfl (o_call 55 56 false (Go.Proofs.enters_of Tryz.func11 (by kernel_rfl) rfl) (c_laws_toIntS (b) (by omega)) rfl (.cons rfl (.c .t0) .nil) rfl rfl rfl) (o_alloc 55 (zs := [.slice none 0 0, .slice none 0 0]) rfl rfl (by kernel_rfl) rfl) ?_ ?_
                  ·
                   refine d_two 6 10 rfl rfl (by kernel_rfl) rfl rfl (o_call 56 62 false (Go.Proofs.enters_of Tryz.func12 (by kernel_rfl) rfl) (c_impl_ApplyTrigger ((rs)) ((fs)) ((a0)) ((a1)) ((a2)) ((a3)) ((a4)) ((b)) (by omega) (by omega) (by omega) (by omega) (by omega) (by omega) (by omega)) rfl (.cons rfl (.agg (.cons (.own rfl) (.cons (.own rfl) .nil))) (.cons rfl (.agg (.cons (.own rfl) (.cons (.own rfl) (.cons .t0 (.cons .t0 (.cons .t0 .nil)))))) (.cons rfl (.c (.own rfl)) .nil))) rfl rfl rfl) (o_alloc 56 (zs := [.slice none 0 0, .slice none 0 0]) rfl rfl (by kernel_rfl) rfl) ?_ ?_
                   ·
                    refine dT 7 rfl pM ?_
                    refine dT 8 rfl (p_extract rfl rfl rfl) ?_
                    refine d_two 9 10 rfl rfl (by kernel_rfl) rfl rfl (o_extract rfl rfl rfl rfl) (o_alloc 62 (zs := [.slice none 0 0, .slice none 0 0]) rfl rfl (by kernel_rfl) rfl) ?_ ?_
                    ·
                     refine dO 10 rfl (o_alloc 62 (zs := [.slice none 0 0, .slice none 0 0]) rfl rfl (by kernel_rfl) rfl) ?_
                     refine dO 11 rfl (oS 2) ?_
                     refine dT 12 rfl pA ?_
                     refine d_end (by kernel_rfl) ?_
                     refine t_le ?_ kc18
                     exact ⟨⟨rfl, ⟨rfl, ⟨rfl, ⟨rfl, ⟨rfl, ⟨rfl, ⟨rfl, ⟨rfl, trivial⟩⟩⟩⟩⟩⟩⟩⟩, ⟨rfl, ⟨rfl, ⟨rfl, ⟨rfl, ⟨rfl, ⟨rfl, ⟨rfl, trivial⟩⟩⟩⟩⟩⟩⟩, rfl⟩
                    ·
                     refine d_two 9 11 rfl rfl (by kernel_rfl) rfl rfl (o_extract rfl rfl rfl rfl) (oS 2) ?_ ?_
                     ·
                      refine dO 11 rfl (oS 2) ?_
                      refine dT 12 rfl pA ?_
                      refine d_end (by kernel_rfl) ?_
                      refine t_le ?_ kc18
                      exact ⟨⟨rfl, ⟨rfl, ⟨rfl, ⟨rfl, ⟨rfl, ⟨rfl, ⟨rfl, ⟨rfl, trivial⟩⟩⟩⟩⟩⟩⟩⟩, ⟨rfl, ⟨rfl, ⟨rfl, ⟨rfl, ⟨rfl, ⟨rfl, ⟨rfl, trivial⟩⟩⟩⟩⟩⟩⟩, rfl⟩
                     ·
                      refine dT 9 rfl (p_extract rfl rfl rfl) ?_
                      refine dT 12 rfl pA ?_
                      refine d_end (by kernel_rfl) ?_
                      refine t_le ?_ kc18
                      exact ⟨⟨rfl, ⟨rfl, ⟨rfl, ⟨rfl, ⟨rfl, ⟨rfl, ⟨rfl, ⟨rfl, trivial⟩⟩⟩⟩⟩⟩⟩⟩, ⟨rfl, ⟨rfl, ⟨rfl, ⟨rfl, ⟨rfl, ⟨rfl, ⟨rfl, trivial⟩⟩⟩⟩⟩⟩⟩, rfl⟩
                   ·
                    refine dO 6 rfl (o_call 57 63 false (Go.Proofs.enters_of Tryz.func12 (by kernel_rfl) rfl) (c_impl_ApplyTrigger ((rs)) ((fs)) ((a0)) ((a1)) ((a2)) ((a3)) ((a4)) ((b)) (by omega) (by omega) (by omega) (by omega) (by omega) (by omega) (by omega)) rfl (.cons rfl (.agg (.cons (.own rfl) (.cons (.own rfl) .nil))) (.cons rfl (.agg (.cons (.own rfl) (.cons (.own rfl) (.cons .t0 (.cons .t0 (.cons .t0 .nil)))))) (.cons rfl (.c (.own rfl)) .nil))) rfl rfl rfl) ?_
                    refine dT 7 rfl pM ?_
                    refine dT 8 rfl (p_extract rfl rfl rfl) ?_
                    refine d_two 9 11 rfl rfl (by kernel_rfl) rfl rfl (o_extract rfl rfl rfl rfl) (oS 2) ?_ ?_
                    ·
                     refine dO 11 rfl (oS 2) ?_
                     refine dT 12 rfl pA ?_
                     refine d_end (by kernel_rfl) ?_
                     refine gt_mv 60 61 rfl rfl rfl ?_
                     refine gt_mv 61 62 rfl rfl rfl ?_
                     refine gt_mvb 62 56 rfl rfl rfl ?_
                     refine t_le ?_ kc18
                     exact ⟨⟨rfl, ⟨rfl, ⟨rfl, ⟨rfl, ⟨rfl, ⟨rfl, ⟨rfl, ⟨rfl, trivial⟩⟩⟩⟩⟩⟩⟩⟩, ⟨rfl, ⟨rfl, ⟨rfl, ⟨rfl, ⟨rfl, ⟨rfl, ⟨rfl, trivial⟩⟩⟩⟩⟩⟩⟩, rfl⟩
                    ·
                     refine dT 9 rfl (p_extract rfl rfl rfl) ?_
                     refine dT 12 rfl pA ?_
                     refine d_end (by kernel_rfl) ?_
                     refine gt_mv 60 61 rfl rfl rfl ?_
                     refine gt_mv 61 62 rfl rfl rfl ?_
                     refine gt_mvb 62 56 rfl rfl rfl ?_
                     refine t_le ?_ kc18
                     exact ⟨⟨rfl, ⟨rfl, ⟨rfl, ⟨rfl, ⟨rfl, ⟨rfl, ⟨rfl, ⟨rfl, trivial⟩⟩⟩⟩⟩⟩⟩⟩, ⟨rfl, ⟨rfl, ⟨rfl, ⟨rfl, ⟨rfl, ⟨rfl, ⟨rfl, trivial⟩⟩⟩⟩⟩⟩⟩, rfl⟩
                  ·
                   refine dO 5 rfl (o_call 56 57 false (Go.Proofs.enters_of Tryz.func11 (by kernel_rfl) rfl) (c_laws_toIntS (b) (by omega)) rfl (.cons rfl (.c .t0) .nil) rfl rfl rfl) ?_
                   refine dO 6 rfl (o_call 57 63 false (Go.Proofs.enters_of Tryz.func12 (by kernel_rfl) rfl) (c_impl_ApplyTrigger ((rs)) ((fs)) ((a0)) ((a1)) ((a2)) ((a3)) ((a4)) ((b)) (by omega) (by omega) (by omega) (by omega) (by omega) (by omega) (by omega)) rfl (.cons rfl (.agg (.cons (.own rfl) (.cons (.own rfl) .nil))) (.cons rfl (.agg (.cons (.own rfl) (.cons (.own rfl) (.cons .t0 (.cons .t0 (.cons .t0 .nil)))))) (.cons rfl (.c (.own rfl)) .nil))) rfl rfl rfl) ?_
                   refine dT 7 rfl pM ?_
                   refine dT 8 rfl (p_extract rfl rfl rfl) ?_
                   refine d_two 9 11 rfl rfl (by kernel_rfl) rfl rfl (o_extract rfl rfl rfl rfl) (oS 2) ?_ ?_
                   ·
                    refine dO 11 rfl (oS 2) ?_
                    refine dT 12 rfl pA ?_
                    refine d_end (by kernel_rfl) ?_
                    refine gt_mv 60 61 rfl rfl rfl ?_
                    refine gt_mv 61 62 rfl rfl rfl ?_
                    refine gt_mvb 62 55 rfl rfl rfl ?_
                    refine t_le ?_ kc18
                    exact ⟨⟨rfl, ⟨rfl, ⟨rfl, ⟨rfl, ⟨rfl, ⟨rfl, ⟨rfl, ⟨rfl, trivial⟩⟩⟩⟩⟩⟩⟩⟩, ⟨rfl, ⟨rfl, ⟨rfl, ⟨rfl, ⟨rfl, ⟨rfl, ⟨rfl, trivial⟩⟩⟩⟩⟩⟩⟩, rfl⟩
                   ·
                    refine dT 9 rfl (p_extract rfl rfl rfl) ?_
                    refine dT 12 rfl pA ?_
                    refine d_end (by kernel_rfl) ?_
                    refine gt_mv 60 61 rfl rfl rfl ?_
                    refine gt_mv 61 62 rfl rfl rfl ?_
                    refine gt_mvb 62 55 rfl rfl rfl ?_
                    refine t_le ?_ kc18
                    exact ⟨⟨rfl, ⟨rfl, ⟨rfl, ⟨rfl, ⟨rfl, ⟨rfl, ⟨rfl, ⟨rfl, trivial⟩⟩⟩⟩⟩⟩⟩⟩, ⟨rfl, ⟨rfl, ⟨rfl, ⟨rfl, ⟨rfl, ⟨rfl, ⟨rfl, trivial⟩⟩⟩⟩⟩⟩⟩, rfl⟩
                 ·
                  refine dO 3 rfl (o_call 51 56 false (Go.Proofs.enters_of Tryz.func10 (by kernel_rfl) rfl) (c_laws_toDependency (a0) (a1) (a2) (a3) (a4) (by omega)) rfl (.cons rfl (.agg (.cons .t0 (.cons .t0 (.cons .t0 (.cons .t0 (.cons .t0 .nil)))))) .nil) rfl rfl rfl) ?_
                  refine dO 5 rfl (o_call 56 57 false (Go.Proofs.enters_of Tryz.func11 (by kernel_rfl) rfl) (c_laws_toIntS (b) (by omega)) rfl (.cons rfl (.c .t0) .nil) rfl rfl rfl) ?_
                  refine dO 6 rfl (o_call 57 63 false (Go.Proofs.enters_of Tryz.func12 (by kernel_rfl) rfl) (c_impl_ApplyTrigger ((rs)) ((fs)) ((a0)) ((a1)) ((a2)) ((a3)) ((a4)) ((b)) (by omega) (by omega) (by omega) (by omega) (by omega) (by omega) (by omega)) rfl (.cons rfl (.agg (.cons (.own rfl) (.cons (.own rfl) .nil))) (.cons rfl (.agg (.cons (.own rfl) (.cons (.own rfl) (.cons .t0 (.cons .t0 (.cons .t0 .nil)))))) (.cons rfl (.c (.own rfl)) .nil))) rfl rfl rfl) ?_
                  refine dT 7 rfl pM ?_
                  refine dT 8 rfl (p_extract rfl rfl rfl) ?_
                  refine d_two 9 11 rfl rfl (by kernel_rfl) rfl rfl (o_extract rfl rfl rfl rfl) (oS 2) ?_ ?_
                  ·
                   refine dO 11 rfl (oS 2) ?_
                   refine dT 12 rfl pA ?_
                   refine d_end (by kernel_rfl) ?_
                   refine gt_mv 60 61 rfl rfl rfl ?_
                   refine gt_mv 61 62 rfl rfl rfl ?_
                   refine gt_mvb 62 50 rfl rfl rfl ?_
                   refine t_le ?_ kc18
                   exact ⟨⟨rfl, ⟨rfl, ⟨rfl, ⟨rfl, ⟨rfl, ⟨rfl, ⟨rfl, ⟨rfl, trivial⟩⟩⟩⟩⟩⟩⟩⟩, ⟨rfl, ⟨rfl, ⟨rfl, ⟨rfl, ⟨rfl, ⟨rfl, ⟨rfl, trivial⟩⟩⟩⟩⟩⟩⟩, rfl⟩
                  ·
                   refine dT 9 rfl (p_extract rfl rfl rfl) ?_
                   refine dT 12 rfl pA ?_
                   refine d_end (by kernel_rfl) ?_
                   refine gt_mv 60 61 rfl rfl rfl ?_
                   refine gt_mv 61 62 rfl rfl rfl ?_
                   refine gt_mvb 62 50 rfl rfl rfl ?_
                   refine t_le ?_ kc18
                   exact ⟨⟨rfl, ⟨rfl, ⟨rfl, ⟨rfl, ⟨rfl, ⟨rfl, ⟨rfl, ⟨rfl, trivial⟩⟩⟩⟩⟩⟩⟩⟩, ⟨rfl, ⟨rfl, ⟨rfl, ⟨rfl, ⟨rfl, ⟨rfl, ⟨rfl, trivial⟩⟩⟩⟩⟩⟩⟩, rfl⟩
                ·
                 refine dO 1 rfl (o_call 46 51 false (Go.Proofs.enters_of Tryz.func9 (by kernel_rfl) rfl) (c_laws_toInstance (rs) (fs) (by omega)) rfl (.cons rfl (.agg (.cons .t0 (.cons .t0 .nil))) .nil) rfl rfl rfl) ?_
                 refine dO 3 rfl (o_call 51 56 false (Go.Proofs.enters_of Tryz.func10 (by kernel_rfl) rfl) (c_laws_toDependency (a0) (a1) (a2) (a3) (a4) (by omega)) rfl (.cons rfl (.agg (.cons .t0 (.cons .t0 (.cons .t0 (.cons .t0 (.cons .t0 .nil)))))) .nil) rfl rfl rfl) ?_
                 refine dO 5 rfl (o_call 56 57 false (Go.Proofs.enters_of Tryz.func11 (by kernel_rfl) rfl) (c_laws_toIntS (b) (by omega)) rfl (.cons rfl (.c .t0) .nil) rfl rfl rfl) ?_
                 refine dO 6 rfl (o_call 57 63 false (Go.Proofs.enters_of Tryz.func12 (by kernel_rfl) rfl) (c_impl_ApplyTrigger ((rs)) ((fs)) ((a0)) ((a1)) ((a2)) ((a3)) ((a4)) ((b)) (by omega) (by omega) (by omega) (by omega) (by omega) (by omega) (by omega)) rfl (.cons rfl (.agg (.cons (.own rfl) (.cons (.own rfl) .nil))) (.cons rfl (.agg (.cons (.own rfl) (.cons (.own rfl) (.cons .t0 (.cons .t0 (.cons .t0 .nil)))))) (.cons rfl (.c (.own rfl)) .nil))) rfl rfl rfl) ?_
                 refine dT 7 rfl pM ?_
                 refine dT 8 rfl (p_extract rfl rfl rfl) ?_
                 refine d_two 9 11 rfl rfl (by kernel_rfl) rfl rfl (o_extract rfl rfl rfl rfl) (oS 2) ?_ ?_
                 ·
                  refine dO 11 rfl (oS 2) ?_
                  refine dT 12 rfl pA ?_
                  refine d_end (by kernel_rfl) ?_
                  refine gt_mv 60 61 rfl rfl rfl ?_
                  refine gt_mv 61 62 rfl rfl rfl ?_
                  refine gt_mvb 62 45 rfl rfl rfl ?_
                  refine t_le ?_ kc18
                  exact ⟨⟨rfl, ⟨rfl, ⟨rfl, ⟨rfl, ⟨rfl, ⟨rfl, ⟨rfl, ⟨rfl, trivial⟩⟩⟩⟩⟩⟩⟩⟩, ⟨rfl, ⟨rfl, ⟨rfl, ⟨rfl, ⟨rfl, ⟨rfl, ⟨rfl, trivial⟩⟩⟩⟩⟩⟩⟩, rfl⟩
                 ·
                  refine dT 9 rfl (p_extract rfl rfl rfl) ?_
                  refine dT 12 rfl pA ?_
                  refine d_end (by kernel_rfl) ?_
                  refine gt_mv 60 61 rfl rfl rfl ?_
                  refine gt_mv 61 62 rfl rfl rfl ?_
                  refine gt_mvb 62 45 rfl rfl rfl ?_
                  refine t_le ?_ kc18
                  exact ⟨⟨rfl, ⟨rfl, ⟨rfl, ⟨rfl, ⟨rfl, ⟨rfl, ⟨rfl, ⟨rfl, trivial⟩⟩⟩⟩⟩⟩⟩⟩, ⟨rfl, ⟨rfl, ⟨rfl, ⟨rfl, ⟨rfl, ⟨rfl, ⟨rfl, trivial⟩⟩⟩⟩⟩⟩⟩, rfl⟩
           ·
            have g10' := of_decide_eq_false (bnt g10)
            refine r_guard rfl rfl rfl (nc g10) (fun _ => ?_)
            refine r_guard rfl rfl rfl (nc g10) (fun _ => ?_)
            refine r_op (o_pickT rfl rfl g10 rfl) ?_
            refine r_end ?_
            refine t_cond rfl (fun _ => ?_) (nc rfl)
            refine tsr ?_
            refine r_op oA ?_
            refine r_end ?_
            refine t_ret Tryz.func3 (.tmp rfl .nil) rfl fun E S w u hI hd => ?_
            refine post_mk hI hd ?_ trivial rfl rfl rfl <;> clear hI hd
            all_goals (exfalso; (simp at *; done))
          ·
           have g9' := of_decide_eq_true g9
           refine r_guard rfl rfl rfl (nc g9) (fun _ => ?_)
           refine r_guard rfl rfl rfl (nc g9) (fun _ => ?_)
           refine r_guard rfl rfl rfl (nc g9) (fun _ => ?_)
           refine r_op (o_pickT rfl rfl g9 rfl) ?_
           refine r_op oM ?_
           refine r_guard rfl rfl rfl (nc rfl) (fun _ => ?_)
           refine r_guard rfl rfl rfl (nc rfl) (fun _ => ?_)
           refine r_guard rfl rfl rfl (nc rfl) (fun _ => ?_)
           refine r_op (o_pickT rfl rfl rfl rfl) ?_
           refine r_end ?_
           refine t_cond rfl (fun _ => ?_) (nc rfl)
           refine tsr ?_
           refine r_op oA ?_
           refine r_end ?_
           refine t_ret Tryz.func3 (.tmp rfl .nil) rfl fun E S w u hI hd => ?_
           refine post_mk hI hd ?_ trivial rfl rfl rfl <;> clear hI hd
           all_goals (exfalso; (omega))
     ·
      have g4' := of_decide_eq_false (bnt g4)
      refine r_guard rfl rfl rfl (nc g4) (fun _ => ?_)
      refine r_guard rfl rfl rfl (nc g4) (fun _ => ?_)
      refine r_op (o_pickT rfl rfl g4 rfl) ?_
      refine r_end ?_
      refine t_cond rfl (fun _ => ?_) (nc rfl)
      refine tsr ?_
      refine r_op oA ?_
      refine r_end ?_
      refine t_ret Tryz.func3 (.tmp rfl .nil) rfl fun E S w u hI hd => ?_
      refine post_mk hI hd ?_ trivial rfl rfl rfl <;> clear hI hd
      all_goals (exfalso; (simp at *; done))
    ·
     intro kc19
     refine t_draw (fun i => !(Nat.beq i 11)) (by kernel_rfl) ?_
     refine dT 0 rfl (pC 2) ?_
     refine dT 2 rfl (pC 5) ?_
     refine dT 4 rfl pM ?_
     refine d_two 1 10 rfl rfl (by kernel_rfl) rfl rfl (o_call 2 7 false (Go.Proofs.enters_of Tryz.func9 (by kernel_rfl) rfl) (c_laws_toInstance (rs) (fs) (by omega)) rfl (.cons rfl (.agg (.cons .t0 (.cons .t0 .nil))) .nil) rfl rfl rfl) (o_alloc 2 (zs := [.slice none 0 0, .slice none 0 0]) rfl rfl (by kernel_rfl) rfl) ?_ ?_
     ·
      refine d_two 3 10 rfl rfl (by kernel_rfl) rfl rfl (o_call 7 12 false (Go.Proofs.enters_of Tryz.func10 (by kernel_rfl) rfl) (c_laws_toDependency (a0) (a1) (a2) (a3) (a4) (by omega)) rfl (.cons rfl (.agg (.cons .t0 (.cons .t0 (.cons .t0 (.cons .t0 (.cons .t0 .nil)))))) .nil) rfl rfl rfl) (o_alloc 7 (zs := [.slice none 0 0, .slice none 0 0]) rfl rfl (by kernel_rfl) rfl) ?_ ?_
      ·
       refine d_two 5 10 rfl rfl (by kernel_rfl) rfl rfl (o_call 12 13 false (Go.Proofs.enters_of Tryz.func11 (by kernel_rfl) rfl) (c_laws_toIntS (b) (by omega)) rfl (.cons rfl (.c .t0) .nil) rfl rfl rfl) (o_alloc 12 (zs := [.slice none 0 0, .slice none 0 0]) rfl rfl (by kernel_rfl) rfl) ?_ ?_
       ·
        refine d_freeze 5 rfl (frz_pu rfl) ?_
        refine d_freeze 6 rfl (frz_pu rfl) ?_
        refine d_freeze 10 rfl (frz_pu rfl) ?_
        refine d_freeze 11 rfl (frz_pu rfl) ?_
        refine d_freeze 12 rfl (frz_pu rfl) ?_
        refine d_two 6 10 rfl rfl (by kernel_rfl) rfl rfl (o_call 13 13 true (Go.Proofs.enters_of Tryz.func8 (by kernel_rfl) rfl) (c_spec_ApplyTrigger ((rs)) ((fs)) ((a0)) ((a1)) ((a2)) ((a3)) ((a4)) ((b)) (by omega) (by omega) (by omega) (by omega) (by omega) (by omega) (by omega)) rfl (.cons rfl (.agg (.cons .t0 (.cons .t0 .nil))) (.cons rfl (.agg (.cons .t0 (.cons .t0 (.cons .t0 (.cons .t0 (.cons .t0 .nil)))))) (.cons rfl (.c .t0) .nil))) rfl rfl rfl) (o_alloc 13 (zs := [.slice none 0 0, .slice none 0 0]) rfl rfl (by kernel_rfl) rfl) ?_ ?_
        ·
         refine dT 7 rfl pM ?_
         refine dT 8 rfl (p_extract rfl rfl rfl) ?_
         refine d_two 9 10 rfl rfl (by kernel_rfl) rfl rfl (o_extract rfl rfl rfl rfl) (o_alloc 13 (zs := [.slice none 0 0, .slice none 0 0]) rfl rfl (by kernel_rfl) rfl) ?_ ?_
         ·
          refine dO 10 rfl (o_alloc 13 (zs := [.slice none 0 0, .slice none 0 0]) rfl rfl (by kernel_rfl) rfl) ?_
          refine dO 11 rfl (oS 2) ?_
          refine dT 12 rfl pA ?_
          refine d_end (by kernel_rfl) ?_
          refine t_le ?_ kc19
          exact ⟨⟨rfl, ⟨rfl, ⟨rfl, ⟨rfl, ⟨rfl, ⟨rfl, trivial⟩⟩⟩⟩⟩⟩, ⟨rfl, ⟨rfl, ⟨rfl, trivial⟩⟩⟩, rfl⟩
         ·
          refine d_two 9 11 rfl rfl (by kernel_rfl) rfl rfl (o_extract rfl rfl rfl rfl) (oS 2) ?_ ?_
          ·
           refine dO 11 rfl (oS 2) ?_
           refine dT 12 rfl pA ?_
           refine d_end (by kernel_rfl) ?_
           refine t_le ?_ kc19
           exact ⟨⟨rfl, ⟨rfl, ⟨rfl, ⟨rfl, ⟨rfl, ⟨rfl, trivial⟩⟩⟩⟩⟩⟩, ⟨rfl, ⟨rfl, ⟨rfl, trivial⟩⟩⟩, rfl⟩
          ·
           refine dT 9 rfl (p_extract rfl rfl rfl) ?_
           refine dT 12 rfl pA ?_
           refine d_end (by kernel_rfl) ?_
           refine t_le ?_ kc19
           exact ⟨⟨rfl, ⟨rfl, ⟨rfl, ⟨rfl, ⟨rfl, ⟨rfl, trivial⟩⟩⟩⟩⟩⟩, ⟨rfl, ⟨rfl, ⟨rfl, trivial⟩⟩⟩, rfl⟩
        ·
         refine dO 6 rfl (o_call 14 14 true (Go.Proofs.enters_of Tryz.func8 (by kernel_rfl) rfl) (c_spec_ApplyTrigger ((rs)) ((fs)) ((a0)) ((a1)) ((a2)) ((a3)) ((a4)) ((b)) (by omega) (by omega) (by omega) (by omega) (by omega) (by omega) (by omega)) rfl (.cons rfl (.agg (.cons .t0 (.cons .t0 .nil))) (.cons rfl (.agg (.cons .t0 (.cons .t0 (.cons .t0 (.cons .t0 (.cons .t0 .nil)))))) (.cons rfl (.c .t0) .nil))) rfl rfl rfl) ?_
         refine dT 7 rfl pM ?_
         refine dT 8 rfl (p_extract rfl rfl rfl) ?_
         refine d_two 9 11 rfl rfl (by kernel_rfl) rfl rfl (o_extract rfl rfl rfl rfl) (oS 2) ?_ ?_
         ·
          refine dO 11 rfl (oS 2) ?_
          refine dT 12 rfl pA ?_
          refine d_end (by kernel_rfl) ?_
          refine t_le ?_ kc19
          exact ⟨⟨rfl, ⟨rfl, ⟨rfl, ⟨rfl, ⟨rfl, ⟨rfl, trivial⟩⟩⟩⟩⟩⟩, ⟨rfl, ⟨rfl, ⟨rfl, trivial⟩⟩⟩, rfl⟩
         ·
          refine dT 9 rfl (p_extract rfl rfl rfl) ?_
          refine dT 12 rfl pA ?_
          refine d_end (by kernel_rfl) ?_
          refine t_le ?_ kc19
          exact ⟨⟨rfl, ⟨rfl, ⟨rfl, ⟨rfl, ⟨rfl, ⟨rfl, trivial⟩⟩⟩⟩⟩⟩, ⟨rfl, ⟨rfl, ⟨rfl, trivial⟩⟩⟩, rfl⟩
       ·
        refine dO 5 rfl (o_call 13 14 false (Go.Proofs.enters_of Tryz.func11 (by kernel_rfl) rfl) (c_laws_toIntS (b) (by omega)) rfl (.cons rfl (.c .t0) .nil) rfl rfl rfl) ?_
        refine d_freeze 5 rfl (frz_pu rfl) ?_
        refine d_freeze 6 rfl (frz_pu rfl) ?_
        refine d_freeze 10 rfl (frz_pu rfl) ?_
        refine d_freeze 11 rfl (frz_pu rfl) ?_
        refine d_freeze 13 rfl (frz_pu rfl) ?_
        refine dO 6 rfl (o_call 14 14 true (Go.Proofs.enters_of Tryz.func8 (by kernel_rfl) rfl) (c_spec_ApplyTrigger ((rs)) ((fs)) ((a0)) ((a1)) ((a2)) ((a3)) ((a4)) ((b)) (by omega) (by omega) (by omega) (by omega) (by omega) (by omega) (by omega)) rfl (.cons rfl (.agg (.cons .t0 (.cons .t0 .nil))) (.cons rfl (.agg (.cons .t0 (.cons .t0 (.cons .t0 (.cons .t0 (.cons .t0 .nil)))))) (.cons rfl (.c .t0) .nil))) rfl rfl rfl) ?_
        refine dT 7 rfl pM ?_
        refine dT 8 rfl (p_extract rfl rfl rfl) ?_
        refine d_two 9 11 rfl rfl (by kernel_rfl) rfl rfl (o_extract rfl rfl rfl rfl) (oS 2) ?_ ?_
        ·
         refine dO 11 rfl (oS 2) ?_
         refine dT 12 rfl pA ?_
         refine d_end (by kernel_rfl) ?_
         refine gt_mvb 13 12 rfl rfl rfl ?_
         refine t_le ?_ kc19
         exact ⟨⟨rfl, ⟨rfl, ⟨rfl, ⟨rfl, ⟨rfl, ⟨rfl, trivial⟩⟩⟩⟩⟩⟩, ⟨rfl, ⟨rfl, ⟨rfl, trivial⟩⟩⟩, rfl⟩
        ·
         refine dT 9 rfl (p_extract rfl rfl rfl) ?_
         refine dT 12 rfl pA ?_
         refine d_end (by kernel_rfl) ?_
         refine gt_mvb 13 12 rfl rfl rfl ?_
         refine t_le ?_ kc19
         exact ⟨⟨rfl, ⟨rfl, ⟨rfl, ⟨rfl, ⟨rfl, ⟨rfl, trivial⟩⟩⟩⟩⟩⟩, ⟨rfl, ⟨rfl, ⟨rfl, trivial⟩⟩⟩, rfl⟩
      ·
       refine dO 3 rfl (o_call 8 13 false (Go.Proofs.enters_of Tryz.func10 (by kernel_rfl) rfl) (c_laws_toDependency (a0) (a1) (a2) (a3) (a4) (by omega)) rfl (.cons rfl (.agg (.cons .t0 (.cons .t0 (.cons .t0 (.cons .t0 (.cons .t0 .nil)))))) .nil) rfl rfl rfl) ?_
       refine dO 5 rfl (o_call 13 14 false (Go.Proofs.enters_of Tryz.func11 (by kernel_rfl) rfl) (c_laws_toIntS (b) (by omega)) rfl (.cons rfl (.c .t0) .nil) rfl rfl rfl) ?_
       refine d_freeze 5 rfl (frz_pu rfl) ?_
       refine d_freeze 6 rfl (frz_pu rfl) ?_
       refine d_freeze 11 rfl (frz_pu rfl) ?_
       refine d_freeze 12 rfl (frz_pu rfl) ?_
       refine d_freeze 13 rfl (frz_pu rfl) ?_
       refine dO 6 rfl (o_call 14 14 true (Go.Proofs.enters_of Tryz.func8 (by kernel_rfl) rfl) (c_spec_ApplyTrigger ((rs)) ((fs)) ((a0)) ((a1)) ((a2)) ((a3)) ((a4)) ((b)) (by omega) (by omega) (by omega) (by omega) (by omega) (by omega) (by omega)) rfl (.cons rfl (.agg (.cons .t0 (.cons .t0 .nil))) (.cons rfl (.agg (.cons .t0 (.cons .t0 (.cons .t0 (.cons .t0 (.cons .t0 .nil)))))) (.cons rfl (.c .t0) .nil))) rfl rfl rfl) ?_
       refine dT 7 rfl pM ?_
       refine dT 8 rfl (p_extract rfl rfl rfl) ?_
       refine d_two 9 11 rfl rfl (by kernel_rfl) rfl rfl (o_extract rfl rfl rfl rfl) (oS 2) ?_ ?_
       ·
        refine dO 11 rfl (oS 2) ?_
        refine dT 12 rfl pA ?_
        refine d_end (by kernel_rfl) ?_
        refine gt_mvb 13 7 rfl rfl rfl ?_
        refine t_le ?_ kc19
        exact ⟨⟨rfl, ⟨rfl, ⟨rfl, ⟨rfl, ⟨rfl, ⟨rfl, trivial⟩⟩⟩⟩⟩⟩, ⟨rfl, ⟨rfl, ⟨rfl, trivial⟩⟩⟩, rfl⟩
       ·
        refine dT 9 rfl (p_extract rfl rfl rfl) ?_
        refine dT 12 rfl pA ?_
        refine d_end (by kernel_rfl) ?_
        refine gt_mvb 13 7 rfl rfl rfl ?_
        refine t_le ?_ kc19
        exact ⟨⟨rfl, ⟨rfl, ⟨rfl, ⟨rfl, ⟨rfl, ⟨rfl, trivial⟩⟩⟩⟩⟩⟩, ⟨rfl, ⟨rfl, ⟨rfl, trivial⟩⟩⟩, rfl⟩
     ·
      refine dO 1 rfl (o_call 3 8 false (Go.Proofs.enters_of Tryz.func9 (by kernel_rfl) rfl) (c_laws_toInstance (rs) (fs) (by omega)) rfl (.cons rfl (.agg (.cons .t0 (.cons .t0 .nil))) .nil) rfl rfl rfl) ?_
      refine dO 3 rfl (o_call 8 13 false (Go.Proofs.enters_of Tryz.func10 (by kernel_rfl) rfl) (c_laws_toDependency (a0) (a1) (a2) (a3) (a4) (by omega)) rfl (.cons rfl (.agg (.cons .t0 (.cons .t0 (.cons .t0 (.cons .t0 (.cons .t0 .nil)))))) .nil) rfl rfl rfl) ?_
      refine dO 5 rfl (o_call 13 14 false (Go.Proofs.enters_of Tryz.func11 (by kernel_rfl) rfl) (c_laws_toIntS (b) (by omega)) rfl (.cons rfl (.c .t0) .nil) rfl rfl rfl) ?_
      refine d_freeze 6 rfl (frz_pu rfl) ?_
      refine d_freeze 7 rfl (frz_pu rfl) ?_
      refine d_freeze 11 rfl (frz_pu rfl) ?_
      refine d_freeze 12 rfl (frz_pu rfl) ?_
      refine d_freeze 13 rfl (frz_pu rfl) ?_
      refine dO 6 rfl (o_call 14 14 true (Go.Proofs.enters_of Tryz.func8 (by kernel_rfl) rfl) (c_spec_ApplyTrigger ((rs)) ((fs)) ((a0)) ((a1)) ((a2)) ((a3)) ((a4)) ((b)) (by omega) (by omega) (by omega) (by omega) (by omega) (by omega) (by omega)) rfl (.cons rfl (.agg (.cons .t0 (.cons .t0 .nil))) (.cons rfl (.agg (.cons .t0 (.cons .t0 (.cons .t0 (.cons .t0 (.cons .t0 .nil)))))) (.cons rfl (.c .t0) .nil))) rfl rfl rfl) ?_
      refine dT 7 rfl pM ?_
      refine dT 8 rfl (p_extract rfl rfl rfl) ?_
      refine d_two 9 11 rfl rfl (by kernel_rfl) rfl rfl (o_extract rfl rfl rfl rfl) (oS 2) ?_ ?_
      ·
       refine dO 11 rfl (oS 2) ?_
       refine dT 12 rfl pA ?_
       refine d_end (by kernel_rfl) ?_
       refine gt_mvb 13 2 rfl rfl rfl ?_
       refine t_le ?_ kc19
       exact ⟨⟨rfl, ⟨rfl, ⟨rfl, ⟨rfl, ⟨rfl, ⟨rfl, trivial⟩⟩⟩⟩⟩⟩, ⟨rfl, ⟨rfl, ⟨rfl, trivial⟩⟩⟩, rfl⟩
      ·
       refine dT 9 rfl (p_extract rfl rfl rfl) ?_
       refine dT 12 rfl pA ?_
       refine d_end (by kernel_rfl) ?_
       refine gt_mvb 13 2 rfl rfl rfl ?_
       refine t_le ?_ kc19
       exact ⟨⟨rfl, ⟨rfl, ⟨rfl, ⟨rfl, ⟨rfl, ⟨rfl, trivial⟩⟩⟩⟩⟩⟩, ⟨rfl, ⟨rfl, ⟨rfl, trivial⟩⟩⟩, rfl⟩
end Go.Eng
